/- The law FnSolvedBy, walked. -/
import Derived.Test.YtfjodcfbhpglhaaM6
import Derived.Test.YtfjodcfbhpglhaaM24
import Derived.Test.YtfjodcfbhpglhaaM26
import Derived.Test.YtfjodcfbhpglhaaM22
import Derived.Test.YtfjodcfbhpglhaaM3
import Derived.Test.YtfjodcfbhpglhaaM33
namespace Go.Hyp
open Go.RowKit Go.Deep
theorem solR_len5 (s : List (List Int × Int)) (h : s.length ≤ 3) : (solR s).length ≤ 5 := by
  unfold solR; split
  · rw [solL_len]; omega
  · exact Nat.zero_le _
theorem natL_range_succ (k : Nat) : natL (List.range (k + 1)) = natL (List.range k) ++ [(k : Int)] := by rw [List.range_succ, natL_snoc]
theorem natL_range_get {n k : Nat} (h : k < n) : (natL (List.range n)).getD k 0 = (k : Int) := by simp [natL, List.getD, h]
theorem rep_get {α : Type} {n k : Nat} {x d : α} (h : k < n) : (List.replicate n x).getD k d = x := by simp [List.getD, h]
end Go.Hyp
namespace Go.Proofs.Ytfjodcfbhpglhaa
open Go.RowKit Go.Hyp Go.Deep

theorem implPictureOk3_any (a : Option Addr) (cap : Nat) (p : List (List Int)) (w : World) (B C : Nat) (h : RdII w B C a p) (hl : p.length ≤ maxLen) :
    Calls Try.prog 21 #[.slice a p.length cap] w fun e w' => e = .returned (.bool (picB p)) ∧ w = w' := by
  have H := Lib.hid h
  have HL := Lib.hid hl
  clear h hl
  go_enter Try.func21, Try.ntmps21
  go_wp2_with (go_at_call 40; refine (isPicture_any _ _ _ _ B C H.out HL.out).mono ?_; rintro e w' ⟨rfl, rfl⟩)
  go_ret
  exact ⟨rfl, rfl⟩
set_option maxRecDepth 4000 in
set_option maxHeartbeats 2000000 in
theorem fnSolvedBy_any (a : Option Addr) (cap : Nat) (l : List Int) (w : World) (h : RdB w w.heap.size a l) (hl : l.length ≤ maxLen ∧ l.length ≤ cap) :
    Calls Try.prog 4 #[.slice a l.length cap] w fun e w' => e = .returned (.bool true) ∧ Below w.heap.size w w' := by
  obtain ⟨hl, hcap⟩ := hl
  have HB := Lib.hid h
  clear h
  by_cases hbig : 1048576 < l.length
  · go_enter Try.func4, Try.ntmps4
    go_wp2_with fail
    go_ret
    exact ⟨rfl, Below.refl _ _⟩
  go_enter Try.func4, Try.ntmps4
  go_wp2_with fail
  refine (drawSolvedBy_any a cap l _ HB.out hl hcap).mono ?_
  rintro e w1 ⟨a2, c2, s, rfl, hp, hs3, hn3, hb⟩
  have P1 := Lib.hid hp
  have H1 := Lib.hid hb
  have hm : Hid (s.length ≤ maxLen) := Lib.hid (by unfold maxLen; omega)
  clear hn3
  clear hb hp
  go_wp2_with fail
  obtain ⟨X, hX⟩ : ∃ X, X = solR s := ⟨_, rfl⟩
  have hX5 : X.length ≤ 5 := by rw [hX]; exact solR_len5 s hs3
  have hmx : Hid (X.length ≤ maxLen) := Lib.hid (by unfold maxLen; omega)
  have HX := Lib.hid hX
  clear hX
  have hO := implSolvedBy_any a2 c2 s w1 _ _ P1.out (by omega) hm.out
  rw [← HX.out] at hO
  have HO := Lib.hid hO
  clear hO
  refine (HO.out).mono ?_
  rintro e w2 ⟨aX, cX, rfl, hx, hb⟩
  have P2 := Lib.hid (P1.out.below hb (by omega))
  have H2 := Lib.hid (H1.out.trans (hb.mono H1.out.size))
  have hz2 : w1.heap.size ≤ w2.heap.size := hb.size
  have X2 := Lib.hid hx.rd
  clear hb P1 H1 hx
  go_wp2_with fail
  clear HO
  have hO := specSolvedBy_any a2 c2 s w2 _ _ P2.out (by omega) hm.out
  rw [← HX.out] at hO
  have HO := Lib.hid hO
  clear hO
  refine (HO.out).mono ?_
  rintro e w3 ⟨aY, cY, rfl, hx, hb⟩
  have P3 := Lib.hid (P2.out.below hb (by omega))
  have H3 := Lib.hid (H2.out.trans (hb.mono H2.out.size))
  have X3 := Lib.hid (X2.out.below hb (by omega))
  have hz3 : w2.heap.size ≤ w3.heap.size := hb.size
  have Y3 := Lib.hid hx.rd
  clear hb P2 H2 X2 hx
  go_wp2_with fail
  clear HO
  refine (sameRows_any aX aY cX cY X X w3 _ _ _ _ X3.out Y3.out hmx.out).mono ?_
  rintro e w4 ⟨rfl, hq⟩
  rw [decide_eq_true rfl]
  have hb : Below w3.heap.size w3 w4 := hq.below
  have P4 := Lib.hid (P3.out.below hb (by omega))
  have H4 := Lib.hid (H3.out.trans (hb.mono H3.out.size))
  have X4 := Lib.hid (X3.out.below hb (by omega))
  have Y4 := Lib.hid (Y3.out.below hb (by omega))
  have hz4 : w3.heap.size ≤ w4.heap.size := hb.size
  clear hb P3 H3 X3 Y3 hq
  clear Y4
  cases hsy : sysB s
  · have HF : Hid (X = []) := Lib.hid (HX.out.trans (solR_no hsy))
    have HSY := Lib.hid hsy
    clear hsy
    rw [HF.out]
    go_wp2_with fail
    refine (implSystemOk_any a2 c2 s w4 _ _ P4.out (by omega) hm.out).mono ?_
    rintro e w5 ⟨rfl, hb⟩
    rw [HSY.out]
    have P5 := Lib.hid (P4.out.below hb (by omega))
    have H5 := Lib.hid (H4.out.trans (hb.mono H4.out.size))
    have X5 := Lib.hid (X4.out.below hb (by omega))
    have hz5 : w4.heap.size ≤ w5.heap.size := hb.size
    clear hb P4 H4 X4 
    go_wp2_with (go_at_call 20; refine (alive1_any _).mono ?_; rintro e w' ⟨rfl, rfl⟩)
    go_ret
    exact ⟨rfl, H5.out⟩
  · have hxe := HX.out.trans (solR_yes hsy)
    have hxl : X.length = s.length + 2 := by rw [hxe, solL_len]
    have hne : ((X.length : Int) == 0) = false := beq_eq_false_iff_ne.2 (by omega)
    have HPIC : Hid (picB X = true) := Lib.hid (by
      rw [hxe]
      have := name_node hsy (k := 0) (sysB_at hsy).1.1
      obtain ⟨_, _, _, h⟩ := nodeB_nat this
      exact h)
    have HSOL : Hid (solB s (List.replicate s.length X) (natL (List.range s.length)) = true) := Lib.hid (solB_self hsy (by simp) (by simp [natL_len]) (fun k hk => by rw [rep_get hk, hxe]) (fun k hk => natL_range_get hk))
    clear hsy hxe hxl
    have HST := Lib.hid (DueSt.start w4 38 3 (K := fun b => b < w4.heap.size) (fun b hb => hb))
    go_wp2_with fail
    clear hne
    obtain ⟨wL, hwL⟩ : ∃ v, v = w4 := ⟨_, rfl⟩
    subst hwL
    have PL0 := P4
    have XL0 := X4
    have HL0 := H4
    clear P4 X4 H4
    go_loopw [5, 6, 7] (fun xv yv kv wr => ∃ (k : Nat) (x : Option Addr) (c : Nat) (y : Option Addr) (d : Nat) (Q : List (List (List Int))) (A : List Int), k ≤ s.length ∧ kv = .int .i64 k ∧ xv = .slice x Q.length c ∧ yv = .slice y A.length d ∧ Q = List.replicate k X ∧ A = natL (List.range k) ∧
      DueSt wr 38 3 (fun b => b < wL.heap.size) x c y d Q A ∧ Below wL.heap.size wL wr) (fun _ _ kv _ => s.length - (intOf kv).toNat)
    case atStart => exact ⟨0, _, 0, _, 0, [], [], Nat.zero_le _, rfl, rfl, rfl, rfl, rfl, HST.out, (below_alloc _ _).alloc (by simp) _⟩
    case round =>
      obtain ⟨k, x, c, y, d, Q, A, hk, rfl, rfl, rfl, hQ, hA, hds, hb⟩ := hrel
      have HDS := Lib.hid hds
      have HQ := Lib.hid hQ
      have HA := Lib.hid hA
      have HB := Lib.hid hb
      have hQl3 : Q.length ≤ 3 := by rw [hQ, List.length_replicate]; omega
      have hAl3 : A.length ≤ 3 := by rw [hA, natL_len, List.length_range]; omega
      have hzr : wL.heap.size ≤ wr.heap.size := hb.size
      have HKX : Hid (∀ b, blockOf x = some b → wL.heap.size ≤ b) := Lib.hid fun b hb => by have := HDS.out.kx b hb; omega
      have HKY : Hid (∀ b, blockOf y = some b → wL.heap.size ≤ b) := Lib.hid fun b hb => by have := HDS.out.ky b hb; omega
      have HRQ := Lib.hid (XL0.out.below hb (by omega))
      clear hds hQ hA hb HST
      obtain ⟨wo, hwo⟩ : ∃ v : World, v = wr := ⟨_, rfl⟩
      subst hwo
      by_cases hlt : k < s.length
      · have hki : (k : Int) < (s.length : Int) := by omega
        go_wp2_with (at_builtin; go_loud (first
          | (refine wpList_appQ Try.underlying23 Try.infoRows rfl (by omega) wo rfl _ _ rfl _ x c y d Q A rfl HDS.out aX cX X rfl _ _ HRQ.out (by omega) (fun b h1 h2 => ⟨fun h => by have := HKX.out b h; omega, fun h => by have := HKY.out b h; omega⟩) (by omega) ?_
             intro x1 cx w17 hst7 hch7
             have HDS7 := Lib.hid hst7
             have HB7 := Lib.hid (HB.out.trans (hch7.below (D := wL.heap.size) (fun b hb => HKX.out b hb) (by omega)))
             have hz7 : wo.heap.size ≤ w17.heap.size := hch7.size
             clear hst7 hch7)
          | (refine wpList_appA Try.underlying24 Try.infoInt w17 rfl _ _ rfl _ x1 cx y d (Q ++ [X]) A rfl HDS7.out k rfl (by omega) ?_
             intro y1 dy w18 hst8 hch8
             have HDS8 := Lib.hid hst8
             have HB8 := Lib.hid (HB7.out.trans (hch8.below (D := wL.heap.size) (fun b hb => HKY.out b hb) (by omega)))
             clear hst8 hch8)))
        go_roundw
        case rel => exact ⟨k + 1, x1, cx, y1, dy, Q ++ [X], A ++ [(k : Int)], by omega, by go_num, by simp, by simp, by rw [HQ.out, List.replicate_succ'], by rw [natL_range_succ, HA.out], HDS8.out, HB8.out⟩
        case measure => simp [intOf]; omega
      · obtain rfl : k = s.length := by omega
        have HR3 := Lib.hid (HDS.out.rdQ (fun k hk => by rw [HQ.out] at hk ⊢; rw [List.length_replicate] at hk; rw [rep_get hk]; exact hmx.out))
        have HN3 := Lib.hid HDS.out.n.rd
        have hSO := implSolutionOk_any a2 c2 s x c Q y d A wo _ _ _ _ _ _ (PL0.out.below HB.out (by omega)) (by omega) hm.out HR3.out (Nat.le_refl _) (by unfold maxLen; omega) HN3.out (Nat.le_refl _) (by unfold maxLen; omega)
        rw [HQ.out, HA.out, HSOL.out, ← HQ.out, ← HA.out] at hSO
        have HSO := Lib.hid hSO
        clear hSO
        go_wp2_with fail
        refine (implPictureOk3_any aX cX X wo _ _ HRQ.out hmx.out).mono ?_
        rintro e w' ⟨rfl, rfl⟩
        rw [HPIC.out]
        go_wp2_with fail
        refine HSO.out.mono ?_
        rintro e w19 ⟨rfl, hb⟩
        have HF := Lib.hid (HL0.out.trans ((HB.out.trans (hb.mono (by omega))).mono HL0.out.size))
        clear hb
        go_wp2_with fail
        go_ret
        exact ⟨rfl, HF.out⟩
end Go.Proofs.Ytfjodcfbhpglhaa
