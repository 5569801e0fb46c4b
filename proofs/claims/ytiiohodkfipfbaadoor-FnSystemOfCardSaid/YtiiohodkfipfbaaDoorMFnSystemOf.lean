/- The law FnSystemOf, walked. -/
import Derived.Deep.QuietTactic
import Derived.BigQuiet
import Derived.Test.YtiiohodkfipfbaaDoorM17
import Derived.Test.YtiiohodkfipfbaaDoorM31
import Derived.Test.YtiiohodkfipfbaaDoorM3
import Derived.Test.YtiiohodkfipfbaaDoorM20
namespace Go.Proofs.YtiiohodkfipfbaaDoor
open Go.RowKit Go.Hyp Go.Deep

set_option maxRecDepth 4000 in
set_option maxHeartbeats 800000 in
theorem sameSystem_any (a a' : Option Addr) (cap cap' : Nat) (s : List (List Int × Int)) (w : World) (B C B' C' : Nat) (h : RdY w B C a s) (h' : RdY w B' C' a' s) (hl : s.length ≤ maxLen) :
    Calls Tryd.prog 14 #[.slice a s.length cap, .slice a' s.length cap'] w fun e w' => e = .returned (.bool true) ∧ Qt w w' := by
  unfold maxLen at hl
  have F := Lib.hid h
  have F' := Lib.hid h'
  clear h h'
  go_enter Tryd.func14, Tryd.ntmps14
  go_wp2_with fail
  go_loopw [4, 5] (fun r i wr => ∃ k : Nat, k ≤ s.length ∧ r = .bool false ∧ i = .int .i64 k ∧ Qt w wr) (fun _ i _ => s.length - (intOf i).toNat)
  case atStart => exact ⟨0, Nat.zero_le _, rfl, rfl, Qt.refl _⟩
  case round =>
    obtain ⟨k, hk, rfl, rfl, hq⟩ := hrel
    have HQ := Lib.hid hq
    clear hq
    by_cases hlt : k < s.length
    · obtain ⟨b, off, x, c, rfl, _, _, hc, hd, hr, hll⟩ := (F.out.agr HQ.out.agr).at k hlt
      obtain ⟨b', off', x', c', rfl, _, _, hc', hd', hr', hll'⟩ := (F'.out.agr HQ.out.agr).at k hlt
      have hki : (k : Int) < (s.length : Int) := by omega
      obtain ⟨N, hN⟩ : ∃ N, N = s[k].1 := ⟨_, rfl⟩
      obtain ⟨D, hD⟩ : ∃ D, D = s[k].2 := ⟨_, rfl⟩
      rw [← hN] at hc hr hc' hr' hll
      rw [← hD] at hd hd'
      have HC : Hid (∀ n, Calls Tryd.prog 27 #[.slice x N.length c, .slice x' N.length c'] (wr.drewN n) fun e w' => e = .returned (.bool true) ∧ Qt (wr.drewN n) w') := Lib.hid fun n => by
        have h := sameInts_any x x' c c' N N (wr.drewN n) _ _ _ _ (hr.agr ((Qt.refl _).n n).agr) (hr'.agr ((Qt.refl _).n n).agr) hll hll
        rw [decide_eq_true rfl] at h
        exact h
      have hdd : (D != D) = false := by simp
      clear hr hr' hN hD hll hll'
      go_wp2_with fail
      go_quiet ((go_at_call 27; exact quietQ (HC.out _)))
      go_wp2_with fail
      go_roundw
      case rel => exact ⟨k + 1, by omega, rfl, by go_num, HQ.out.n _⟩
      case measure => simp [intOf]; omega
    · obtain rfl : k = s.length := by omega
      go_wp2_with fail
      go_ret
      exact ⟨rfl, HQ.out⟩
set_option maxRecDepth 4000 in
set_option maxHeartbeats 2000000 in
theorem fnSystemOf_any (a : Option Addr) (cap : Nat) (l : List Int) (w : World) (h : RdB w w.heap.size a l) (hl : l.length ≤ maxLen ∧ l.length ≤ cap) :
    Calls Tryd.prog 3 #[.slice a l.length cap] w fun e w' => e = .returned (.bool true) ∧ Below w.heap.size w w' := by
  obtain ⟨hl, hcap⟩ := hl
  have HB := Lib.hid h
  clear h
  by_cases hbig : 1048576 < l.length
  · go_enter Tryd.func3, Tryd.ntmps3
    go_wp2_with fail
    go_ret
    exact ⟨rfl, Below.refl _ _⟩
  go_enter Tryd.func3, Tryd.ntmps3
  go_wp2_with fail
  refine (drawSystemOf_any a cap l _ HB.out hl hcap).mono ?_
  rintro e w1 ⟨a2, c2, p, rfl, hp, hp5, hb⟩
  have P1 := Lib.hid hp
  have H1 := Lib.hid hb
  have hm : Hid (p.length ≤ maxLen) := Lib.hid (by unfold maxLen; omega)
  clear hb hp
  go_wp2_with fail
  obtain ⟨S, hS⟩ : ∃ S, S = sysOfR p := ⟨_, rfl⟩
  obtain ⟨b, hb0⟩ : ∃ b, b = sysOfB p := ⟨_, rfl⟩
  have HS := Lib.hid hS
  have HBB := Lib.hid hb0
  have hSl : S.length ≤ 5 := by
    rw [hS]; unfold sysOfR; split
    · rw [sysOfL_len]; exact hp5
    · exact Nat.zero_le _
  have hms : Hid (S.length ≤ maxLen) := Lib.hid (by unfold maxLen; omega)
  clear hS hb0
  have hO := implSystemOf_any a2 c2 p w1 _ _ P1.out (by omega) hm.out
  rw [← HS.out, ← HBB.out] at hO
  have HO := Lib.hid hO
  clear hO
  refine (HO.out).mono ?_
  rintro e w2 ⟨aS, cS, rfl, hx, hb⟩
  have P2 := Lib.hid (P1.out.below hb (by omega))
  have H2 := Lib.hid (H1.out.trans (hb.mono H1.out.size))
  have hz2 : w1.heap.size ≤ w2.heap.size := hb.size
  have S2 := Lib.hid hx.rd
  clear hb P1 H1 hx
  go_wp2_with fail
  clear HO
  have hO := specSystemOf_any a2 c2 p w2 _ _ P2.out (by omega) hm.out
  rw [← HS.out, ← HBB.out] at hO
  have HO := Lib.hid hO
  clear hO
  refine (HO.out).mono ?_
  rintro e w3 ⟨aT, cT, rfl, hx, hb⟩
  have P3 := Lib.hid (P2.out.below hb (by omega))
  have H3 := Lib.hid (H2.out.trans (hb.mono H2.out.size))
  have S3 := Lib.hid (S2.out.below hb (by omega))
  have hz3 : w2.heap.size ≤ w3.heap.size := hb.size
  have T3 := Lib.hid hx.rd
  clear hb P2 H2 S2 hx
  go_wp2_with fail
  refine (sameSystem_any aS aT cS cT S w3 _ _ _ _ S3.out T3.out hms.out).mono ?_
  rintro e w4 ⟨rfl, hq⟩
  have hb : Below w3.heap.size w3 w4 := hq.below
  have P4 := Lib.hid (P3.out.below hb (by omega))
  have H4 := Lib.hid (H3.out.trans (hb.mono H3.out.size))
  have S4 := Lib.hid (S3.out.below hb (by omega))
  have T4 := Lib.hid (T3.out.below hb (by omega))
  have hz4 : w3.heap.size ≤ w4.heap.size := hb.size
  clear hb P3 H3 S3 T3 hq
  have hbb : (b != b) = false := by simp
  clear T4
  cases hok : sysOfB p
  · have HF : Hid (S = []) := Lib.hid (by rw [HS.out]; unfold sysOfR; rw [hok]; rfl)
    have HFB : Hid (b = false) := Lib.hid (HBB.out.trans hok)
    clear hok
    rw [HF.out]
    rw [HFB.out] at hbb ⊢
    go_wp2_with (go_at_call 15; refine (alive1_any _).mono ?_; rintro e w' ⟨rfl, rfl⟩)
    go_ret
    exact ⟨rfl, H4.out⟩
  · have hSe : S = sysOfL p := by rw [HS.out]; unfold sysOfR; rw [hok]; rfl
    have HFB : Hid (b = true) := Lib.hid (HBB.out.trans hok)
    have HSY := Lib.hid (sysOf_sys hok)
    rw [← hSe] at HSY
    have hsame : ∀ k : Nat, k < p.length → sameSetB p k (nameR S k) 0 = true := fun k hk => by rw [hSe]; exact sysOf_same hok hk
    have HSAME := Lib.hid hsame
    rw [HFB.out] at hbb ⊢
    clear hok hSe hsame
    go_wp2_with fail
    clear hbb
    go_loopw [8] (fun ki wr => ∃ k : Nat, k ≤ p.length ∧ ki = .int .i64 k ∧ Below w.heap.size w wr ∧ Below w4.heap.size w4 wr) (fun ki _ => p.length - (intOf ki).toNat)
    case atStart => exact ⟨0, Nat.zero_le _, rfl, H4.out, Below.refl _ _⟩
    case round =>
      obtain ⟨k, hk, rfl, hb0, hb1⟩ := hrel
      have P5 := Lib.hid (P4.out.below hb1 (by omega))
      have S5 := Lib.hid (S4.out.below hb1 (by omega))
      have H5 := Lib.hid hb0
      have LB5 := Lib.hid hb1
      have hz5 : w4.heap.size ≤ wr.heap.size := hb1.size
      obtain ⟨w5, hwk⟩ : ∃ x, x = wr := ⟨_, rfl⟩
      subst hwk
      clear hb0 hb1 P4 H4 S4
      by_cases hlt : k < p.length
      · have hki : (k : Int) < (p.length : Int) := by omega
        have HK := Lib.hid (HSAME.out k hlt)
        obtain ⟨X, hX⟩ : ∃ X, X = nameR S k := ⟨_, rfl⟩
        have hX5 : X.length ≤ 5 := by rw [hX]; exact nameR_len S k
        rw [← hX] at HK
        have HXE := Lib.hid hX
        have hmx : Hid (X.length ≤ maxLen) := Lib.hid (by unfold maxLen; omega)
        clear hX
        go_wp2_with fail
        have hN := implNameIs_any aS cS S k w5 _ _ S5.out (by omega) hms.out
        rw [← HXE.out] at hN
        have HN := Lib.hid hN
        clear hN
        refine (HN.out).mono ?_
        rintro e w6 ⟨aX, cX, rfl, hx, hb⟩
        have P6 := Lib.hid (P5.out.below hb (by omega))
        have H6 := Lib.hid (H5.out.trans (hb.mono H5.out.size))
        have S6 := Lib.hid (S5.out.below hb (by omega))
        have LB6 := Lib.hid (LB5.out.trans (hb.mono LB5.out.size))
        have hz6 : w5.heap.size ≤ w6.heap.size := hb.size
        have X6 := Lib.hid hx.rd
        clear hb P5 H5 S5 LB5 hx
        go_wp2_with fail
        refine (implSameSet_any a2 c2 p k aX cX X 0 w6 _ _ _ _ P6.out (by omega) hm.out X6.out (by omega) hmx.out).mono ?_
        rintro e w7 ⟨rfl, hb⟩
        rw [HK.out]
        have P7 := Lib.hid (P6.out.below hb (by omega))
        have H7 := Lib.hid (H6.out.trans (hb.mono H6.out.size))
        have S7 := Lib.hid (S6.out.below hb (by omega))
        have LB7 := Lib.hid (LB6.out.trans (hb.mono LB6.out.size))
        have X7 := Lib.hid (X6.out.below hb (by omega))
        have hz7 : w6.heap.size ≤ w7.heap.size := hb.size
        clear hb P6 H6 S6 LB6 X6 
        go_wp2_with fail
        go_roundw
        case rel => exact ⟨k + 1, by omega, by go_num, H7.out, LB7.out⟩
        case measure => simp [intOf]; omega
      · obtain rfl : k = p.length := by omega
        go_wp2_with fail
        refine (implSystemOk_any aS cS S w5 _ _ S5.out (by omega) hms.out).mono ?_
        rintro e w6 ⟨rfl, hb⟩
        rw [HSY.out]
        have P6 := Lib.hid (P5.out.below hb (by omega))
        have H6 := Lib.hid (H5.out.trans (hb.mono H5.out.size))
        have S6 := Lib.hid (S5.out.below hb (by omega))
        have LB6 := Lib.hid (LB5.out.trans (hb.mono LB5.out.size))
        have hz6 : w5.heap.size ≤ w6.heap.size := hb.size
        clear hb P5 H5 S5 LB5 
        go_wp2_with fail
        go_ret
        exact ⟨rfl, H6.out⟩
end Go.Proofs.YtiiohodkfipfbaaDoor
