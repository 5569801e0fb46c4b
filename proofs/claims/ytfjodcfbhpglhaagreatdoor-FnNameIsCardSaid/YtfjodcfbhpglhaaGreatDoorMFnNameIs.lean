/- The law FnNameIs, walked. -/
import Derived.Deep.QuietTactic
import Derived.BigQuiet
import Derived.Test.YtfjodcfbhpglhaaGreatDoorM31
import Derived.Test.YtfjodcfbhpglhaaGreatDoorM35
import Derived.Test.YtfjodcfbhpglhaaGreatDoorM36
import Derived.Test.YtfjodcfbhpglhaaGreatDoorM24
import Derived.Test.YtfjodcfbhpglhaaGreatDoorM3
namespace Go.Hyp
open Go.RowKit Go.Deep
theorem name_code {s : List (List Int × Int)} {k : Nat} {c : Int} {b : Bool} (h : sysB s = true) (hk : k < s.length) (hno : ∀ m, m < s.length → nameB s k m = false) (hr : CodeRes (nameR s k) 0 c b) : b = true ∧ c = codeY s k := by
  have hc := (sysB_at h).2 k hk
  have hcy : codeY s k = s[k].2 := by unfold codeY; simp [List.getD, hk]
  have h1 := sol_code hk (by rw [hcy]; exact hc.2.2.1) (by rw [hcy]; exact hc.2.2.2) hno
  have hd : Same (solL s) k (nameR s k) 0 := by
    rw [nameR_yes h hk, leastR_yes (name_node h hk)]
    exact leastC_draws (by rw [solL_len]; omega)
  have h2 := h1.same 0 hd
  have hp := (picB_sq (nameR_pic h hk)).2.1
  rcases hr with ⟨rfl, m, rfl, hm⟩ | ⟨rfl, hm⟩
  · refine ⟨rfl, ?_⟩
    have e := h2.one (by omega) hm
    have h0 : 0 ≤ codeY s k := by rw [hcy]; exact hc.2.2.1
    omega
  · exact absurd h2 (hm _)
/-- No name below j is a member. -/
def noneUp (s : List (List Int × Int)) (k j : Nat) : Bool := (List.range j).all fun m => !nameB s k m
theorem noneUp_succ (s : List (List Int × Int)) (k j : Nat) : noneUp s k (j + 1) = (noneUp s k j && !nameB s k j) := by
  unfold noneUp
  rw [List.range_succ, List.all_append]
  simp
theorem noneUp_all {s : List (List Int × Int)} {k : Nat} (h : noneUp s k s.length = true) : ∀ m, m < s.length → nameB s k m = false := fun m hm => by
  unfold noneUp at h
  rw [List.all_eq_true] at h
  have := h m (List.mem_range.2 hm)
  simpa using this
theorem leastB_name {s : List (List Int × Int)} {k : Nat} (h : sysB s = true) (hk : k < s.length) : leastB (nameR s k) = true := by
  rw [nameR_yes h hk]; exact leastB_R (name_node h hk)
end Go.Hyp
namespace Go.Proofs.YtfjodcfbhpglhaaGreatDoor
open Go.RowKit Go.Hyp Go.Deep

set_option maxRecDepth 4000 in
set_option maxHeartbeats 2000000 in
theorem fnNameIs_any (a : Option Addr) (cap : Nat) (l : List Int) (w : World) (h : RdB w w.heap.size a l) (hl : l.length ≤ maxLen ∧ l.length ≤ cap) :
    Calls Tryz.prog 4 #[.slice a l.length cap] w fun e w' => e = .returned (.bool true) ∧ Below w.heap.size w w' := by
  obtain ⟨hl, hcap⟩ := hl
  have HB := Lib.hid h
  clear h
  by_cases hbig : 1048576 < l.length
  · go_enter Tryz.func4, Tryz.ntmps4
    go_wp2_with fail
    go_ret
    exact ⟨rfl, Below.refl _ _⟩
  go_enter Tryz.func4, Tryz.ntmps4
  go_wp2_with fail
  refine (drawNameIs_any a cap l _ HB.out hl hcap).mono ?_
  rintro e w1 ⟨a2, c2, s, n, rfl, hp, hs3, hn3, hb⟩
  have P1 := Lib.hid hp
  have H1 := Lib.hid hb
  have hm : Hid (s.length ≤ maxLen) := Lib.hid (by unfold maxLen; omega)
  have HN3 := Lib.hid hn3
  clear hn3
  clear hb hp
  go_wp2_with fail
  obtain ⟨X, hX⟩ : ∃ X, X = nameR s n := ⟨_, rfl⟩
  have hX5 : X.length ≤ 5 := by rw [hX]; exact nameR_len s n
  have hmx : Hid (X.length ≤ maxLen) := Lib.hid (by unfold maxLen; omega)
  have HX := Lib.hid hX
  clear hX
  have hO := implNameIs_any a2 c2 s n w1 _ _ P1.out (by omega) hm.out
  rw [← HX.out] at hO
  have HO := Lib.hid hO
  clear hO
  refine (HO.out).mono ?_
  rintro e w2 ⟨aX, cX, rfl, hx, hb⟩
  have P2 := Lib.hid (P1.out.below hb (by omega))
  have H2 := Lib.hid (H1.out.trans (hb.mono H1.out.size))
  have hz2 : w1.heap.size ≤ w2.heap.size := hb.size
  have X2 := Lib.hid hx.rd
  clear hb P1 H1 hx
  go_wp2_with fail
  clear HO
  have hO := specNameIs_any a2 c2 s n w2 _ _ P2.out (by omega) hm.out
  rw [← HX.out] at hO
  have HO := Lib.hid hO
  clear hO
  refine (HO.out).mono ?_
  rintro e w3 ⟨aY, cY, rfl, hx, hb⟩
  have P3 := Lib.hid (P2.out.below hb (by omega))
  have H3 := Lib.hid (H2.out.trans (hb.mono H2.out.size))
  have X3 := Lib.hid (X2.out.below hb (by omega))
  have hz3 : w2.heap.size ≤ w3.heap.size := hb.size
  have Y3 := Lib.hid hx.rd
  clear hb P2 H2 X2 hx
  go_wp2_with fail
  clear HO
  refine (sameRows_any aX aY cX cY X X w3 _ _ _ _ X3.out Y3.out hmx.out).mono ?_
  rintro e w4 ⟨rfl, hq⟩
  rw [decide_eq_true rfl]
  have hb : Below w3.heap.size w3 w4 := hq.below
  have P4 := Lib.hid (P3.out.below hb (by omega))
  have H4 := Lib.hid (H3.out.trans (hb.mono H3.out.size))
  have X4 := Lib.hid (X3.out.below hb (by omega))
  have Y4 := Lib.hid (Y3.out.below hb (by omega))
  have hz4 : w3.heap.size ≤ w4.heap.size := hb.size
  clear hb P3 H3 X3 Y3 hq
  clear Y4
  rcases name_cases s n with ⟨_, h2⟩ | ⟨_, _, h2⟩ | ⟨h1, k, rfl, hk⟩
  · have HF : Hid (X = []) := Lib.hid (HX.out.trans h2)
    clear h2
    rw [HF.out]
    go_wp2_with (go_at_call 20; refine (alive1_any _).mono ?_; rintro e w' ⟨rfl, rfl⟩)
    go_ret
    exact ⟨rfl, H4.out⟩
  · have HF : Hid (X = []) := Lib.hid (HX.out.trans h2)
    clear h2
    rw [HF.out]
    go_wp2_with (go_at_call 20; refine (alive1_any _).mono ?_; rintro e w' ⟨rfl, rfl⟩)
    go_ret
    exact ⟨rfl, H4.out⟩
  · have hpx := nameR_pic h1 hk
    have hpx2 := picB_sq hpx
    rw [← HX.out] at hpx hpx2
    have hx1 : 1 ≤ X.length := hpx2.2.1
    have hne : ((X.length : Int) == 0) = false := beq_eq_false_iff_ne.2 (by omega)
    have hki : (k : Int) < (s.length : Int) := by omega
    have HSY := Lib.hid h1
    have h3s := (sysB_at h1).1
    have hrow := ((sysB_at h1).2 k hk)
    have hn0 := node0 hpx
    have HN0 := Lib.hid hn0
    have hLB := leastB_name h1 hk
    have hDR := name_draws h1 hk
    rw [← HX.out] at hLB hDR
    have HLB := Lib.hid hLB
    have HDR := Lib.hid hDR
    have hlen : s[k].1.length = s.length := hrow.2.1
    have HBITS := Lib.hid hrow.1
    have HNC := Lib.hid (fun (c : Int) (b : Bool) (hno : noneUp s k s.length = true) (hr : CodeRes X 0 c b) => name_code (c := c) (b := b) h1 hk (noneUp_all hno) (by rw [← HX.out]; exact hr))
    clear h1 hpx hpx2 hrow hn0 hLB hDR
    go_wp2_with fail
    clear hne
    have HSR : Hid (solR s = solL s) := Lib.hid (solR_yes HSY.out)
    have hcy : codeY s k = s[k].2 := by unfold codeY; simp [List.getD, hk]
    have hcc : (s[k].2 == s[k].2) = true := beq_self_eq_true _
    go_loopw [6, 7] (fun ni ki wr => ∃ (m : Nat) (b : Bool), m ≤ s.length ∧ ki = .int .i64 m ∧ ni = .bool b ∧ noneUp s k m = b ∧ wr = w4) (fun _ ki _ => s.length - (intOf ki).toNat)
    case atStart => exact ⟨0, true, Nat.zero_le _, rfl, rfl, rfl, rfl⟩
    case round =>
      obtain ⟨m, b, hm2, rfl, rfl, hno, hwr⟩ := hrel
      rw [hwr]
      clear hwr
      have HNU := Lib.hid hno
      clear hno
      by_cases hlt : m < s.length
      · have hml : m < s[k].1.length := by rw [hlen]; exact hlt
        have hmi : (m : Int) < (s[k].1.length : Int) := by omega
        have hmi2 : (m : Int) < (s.length : Int) := by omega
        obtain ⟨b9, off, a', cp, e9, _, _, hc, hd, hr, _⟩ := P4.out.at k hk
        subst e9
        obtain ⟨b8, off8, e8, _, _, hcell⟩ := hr.at m hml
        subst e8
        have hbit : s[k].1[m] = 0 ∨ s[k].1[m] = 1 := by
          have h9 := HBITS.out
          unfold bitsB at h9
          rw [List.all_eq_true] at h9
          have h8 := h9 _ (List.getElem_mem hml)
          unfold bitB at h8
          simpa using h8
        have hnm : nameB s k m = (s[k].1[m] == 1) := by unfold nameB; simp [List.getD, hk, hml]
        clear hr
        cases b
        · clear hbit hcell hnm
          go_wp2_with fail
          go_roundw
          case rel => exact ⟨m + 1, false, by omega, by go_num, rfl, by rw [noneUp_succ, HNU.out]; rfl, trivial⟩
          case measure => simp [intOf]; omega
        · rcases hbit with hv | hv
          · rw [hv] at hcell hnm
            have HNM := Lib.hid hnm
            clear hnm hv
            go_wp2_with fail
            go_roundw
            case rel => exact ⟨m + 1, true, by omega, by go_num, rfl, by rw [noneUp_succ, HNU.out, HNM.out]; rfl, trivial⟩
            case measure => simp [intOf]; omega
          · rw [hv] at hcell hnm
            have HNM := Lib.hid hnm
            clear hnm hv
            go_wp2_with fail
            go_roundw
            case rel => exact ⟨m + 1, false, by omega, by go_num, rfl, by rw [noneUp_succ, HNU.out, HNM.out]; rfl, trivial⟩
            case measure => simp [intOf]; omega
      · obtain rfl : m = s.length := by omega
        go_wp2_with fail
        refine (implCodeAt_any aX cX X 0 w4 _ _ X4.out (by omega) hmx.out).mono ?_
        rintro e w5 ⟨c, b2, rfl, hb, _, hcr, _⟩
        have HCR := Lib.hid (hcr HN0.out)
        have P5 := Lib.hid (P4.out.below hb (by omega))
        have H5 := Lib.hid (H4.out.trans (hb.mono H4.out.size))
        have X5 := Lib.hid (X4.out.below hb (by omega))
        have hz5 : w4.heap.size ≤ w5.heap.size := hb.size
        clear hb P4 H4 X4 hcr
        cases b
        · skip
          clear hcy hcc
          clear HNC
          go_wp2_with fail
          refine (implLeastOk_any aX cX X w5 _ _ X5.out (by omega) hmx.out).mono ?_
          rintro e w6 ⟨rfl, hb⟩
          rw [HLB.out]
          have P6 := Lib.hid (P5.out.below hb (by omega))
          have H6 := Lib.hid (H5.out.trans (hb.mono H5.out.size))
          have X6 := Lib.hid (X5.out.below hb (by omega))
          have hz6 : w5.heap.size ≤ w6.heap.size := hb.size
          clear hb P5 H5 X5 
          go_wp2_with fail
          refine (implSolvedBy_any a2 c2 s w6 _ _ P6.out (by omega) hm.out).mono ?_
          rintro e w7 ⟨aT, cT, rfl, hx, hb⟩
          have P7 := Lib.hid (P6.out.below hb (by omega))
          have H7 := Lib.hid (H6.out.trans (hb.mono H6.out.size))
          have X7 := Lib.hid (X6.out.below hb (by omega))
          have hz7 : w6.heap.size ≤ w7.heap.size := hb.size
          have T7 := Lib.hid hx.rd
          clear hb P6 H6 X6 hx
          have hSM := implSameSet_any aT cT (solR s) k aX cX X 0 w7 _ _ _ _ T7.out (by omega) (by rw [HSR.out, solL_len]; unfold maxLen; omega) X7.out (by omega) hmx.out
          rw [HSR.out, HDR.out] at hSM
          have HSM := Lib.hid hSM
          clear hSM
          rw [HSR.out]
          go_wp2_with fail
          refine (HSM.out).mono ?_
          rintro e w8 ⟨rfl, hb⟩
          have P8 := Lib.hid (P7.out.below hb (by omega))
          have H8 := Lib.hid (H7.out.trans (hb.mono H7.out.size))
          have X8 := Lib.hid (X7.out.below hb (by omega))
          have T8 := Lib.hid (T7.out.below hb (by omega))
          have hz8 : w7.heap.size ≤ w8.heap.size := hb.size
          clear hb P7 H7 X7 T7 
          go_wp2_with fail
          go_ret
          exact ⟨rfl, H8.out⟩
        · skip
          obtain ⟨hb2, hc2⟩ := HNC.out c b2 HNU.out HCR.out
          rw [hcy] at hc2
          subst hb2 hc2
          clear hcy
          clear HNC
          go_wp2_with fail
          refine (implLeastOk_any aX cX X w5 _ _ X5.out (by omega) hmx.out).mono ?_
          rintro e w6 ⟨rfl, hb⟩
          rw [HLB.out]
          have P6 := Lib.hid (P5.out.below hb (by omega))
          have H6 := Lib.hid (H5.out.trans (hb.mono H5.out.size))
          have X6 := Lib.hid (X5.out.below hb (by omega))
          have hz6 : w5.heap.size ≤ w6.heap.size := hb.size
          clear hb P5 H5 X5 
          go_wp2_with fail
          refine (implSolvedBy_any a2 c2 s w6 _ _ P6.out (by omega) hm.out).mono ?_
          rintro e w7 ⟨aT, cT, rfl, hx, hb⟩
          have P7 := Lib.hid (P6.out.below hb (by omega))
          have H7 := Lib.hid (H6.out.trans (hb.mono H6.out.size))
          have X7 := Lib.hid (X6.out.below hb (by omega))
          have hz7 : w6.heap.size ≤ w7.heap.size := hb.size
          have T7 := Lib.hid hx.rd
          clear hb P6 H6 X6 hx
          have hSM := implSameSet_any aT cT (solR s) k aX cX X 0 w7 _ _ _ _ T7.out (by omega) (by rw [HSR.out, solL_len]; unfold maxLen; omega) X7.out (by omega) hmx.out
          rw [HSR.out, HDR.out] at hSM
          have HSM := Lib.hid hSM
          clear hSM
          rw [HSR.out]
          go_wp2_with fail
          refine (HSM.out).mono ?_
          rintro e w8 ⟨rfl, hb⟩
          have P8 := Lib.hid (P7.out.below hb (by omega))
          have H8 := Lib.hid (H7.out.trans (hb.mono H7.out.size))
          have X8 := Lib.hid (X7.out.below hb (by omega))
          have T8 := Lib.hid (T7.out.below hb (by omega))
          have hz8 : w7.heap.size ≤ w8.heap.size := hb.size
          clear hb P7 H7 X7 T7 
          obtain ⟨b9, off, a9, cp, e9, _, _, hc, hd, hr, _⟩ := P8.out.at k hk
          subst e9
          clear hr
          go_wp2_with fail
          go_ret
          exact ⟨rfl, H8.out⟩
end Go.Proofs.YtfjodcfbhpglhaaGreatDoor
