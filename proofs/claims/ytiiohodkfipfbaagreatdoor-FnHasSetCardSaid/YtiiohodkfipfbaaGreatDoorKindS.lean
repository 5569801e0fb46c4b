/- spec.KindsOf: the kinds of all nodes. -/
import Derived.Test.YtiiohodkfipfbaaGreatDoorHeld
import Derived.Test.YtiiohodkfipfbaaGreatDoorLeft
namespace Go.Hyp
def kindsS (p : List (List Int)) : List Int := if picB p = true then kindsL p p.length else []
theorem kindsS_no {p : List (List Int)} (h : picB p = false) : kindsS p = [] := by unfold kindsS; rw [h]; rfl
theorem kindsS_yes {p : List (List Int)} (h : picB p = true) : kindsS p = kindsL p p.length := by unfold kindsS; rw [h]; rfl
end Go.Hyp
namespace Go.Proofs.YtiiohodkfipfbaaGreatDoor
open Go.RowKit Go.Hyp Go.Deep

set_option maxRecDepth 4000 in
set_option maxHeartbeats 800000 in
theorem specKindsOf_any (a : Option Addr) (cap : Nat) (p : List (List Int)) (w : World) (B C : Nat) (h : RdII w B C a p) (hC : C ≤ w.heap.size) (hl : p.length ≤ maxLen) :
    Calls Tryz.prog 61 #[.slice a p.length cap] w (RetI 3 (kindsS p) w) := by
  have HB0 := Lib.hid (below_alloc w (.cells #[] 3))
  have HO0 := Lib.hid (OwI_empty w 3)
  have F := Lib.hid (h.below HB0.out hC)
  clear h
  have hcall := specSameRows_any a cap p _ B C F.out (by simp; omega) hl
  cases hp : picB p
  · rw [leftR_no hp] at hcall
    have HC := Lib.hid hcall
    have HK := Lib.hid (kindsS_no hp)
    clear hp hcall
    go_enter Tryz.func61, Tryz.ntmps61
    go_wp2_with fail
    refine HC.out.mono ?_
    rintro e w1 ⟨x, c, rfl, ho, hb⟩
    have HB1 := Lib.hid (HB0.out.trans (hb.mono (by simp)))
    have HO1 := Lib.hid (HO0.out.below hb (by simp))
    have hz1 : (w.alloc (.cells #[] 3)).heap.size ≤ w1.heap.size := hb.size
    simp at hz1
    clear ho hb
    go_wp2_with fail
    go_loopw [3, 5] (fun o k wr => o = .slice (some ⟨w.heap.size, 0, none⟩) 0 0 ∧ k = .int .i64 0 ∧ wr = w1) (fun _ _ _ => 0)
    case atStart => exact ⟨rfl, rfl, rfl⟩
    case round =>
      obtain ⟨rfl, rfl, rfl⟩ := hrel
      go_wp2_with fail
      go_ret
      exact retI_of (l := []) HK.out.symm (HO1.out.mono (Nat.le_refl _) hz1) HB1.out
  · rw [leftR_pic hp (by have := (picB_sq hp).2.2; omega)] at hcall
    obtain ⟨sq, s1, s5⟩ := picB_sq hp
    have HC := Lib.hid hcall
    have HK := Lib.hid (kindsS_yes hp)
    clear hp hcall sq
    go_enter Tryz.func61, Tryz.ntmps61
    go_wp2_with fail
    refine HC.out.mono ?_
    intro e w1 hret
    obtain ⟨x, c, rfl, ho, hb⟩ := hret.toM
    have HX := Lib.hid ho.rd
    have HB1 := Lib.hid (HB0.out.trans (hb.mono (by simp)))
    have HO1 := Lib.hid (HO0.out.below hb (by simp))
    have hz1 : (w.alloc (.cells #[] 3)).heap.size ≤ w1.heap.size := hb.size
    simp at hz1
    clear ho hb hret
    go_wp2_with fail
    go_loopw [3, 5] (fun o i wr => ∃ (k : Nat) (ax : Option Addr) (cx : Nat), k ≤ p.length ∧ i = .int .i64 k ∧ o = .slice ax (kindsL p k).length cx ∧ OwI wr 3 w.heap.size wr.heap.size ax cx (kindsL p k) ∧ (blockOf ax = some w.heap.size ∨ ∃ g, blockOf ax = some g ∧ w1.heap.size ≤ g) ∧ RdII wr (w.heap.size + 1) w1.heap.size x (mat p.length p.length (left p p.length)) ∧ Below w.heap.size w wr ∧ w1.heap.size ≤ wr.heap.size) (fun _ i _ => p.length - (intOf i).toNat)
    case atStart => exact ⟨0, _, 0, Nat.zero_le _, rfl, rfl, HO1.out.mono (Nat.le_refl _) hz1, .inl rfl, by simpa using HX.out, HB1.out, Nat.le_refl _⟩
    case round =>
      obtain ⟨k, ax, cx, hk, rfl, rfl, ho, hbl, hx, hb, hzw⟩ := hrel
      have HO := Lib.hid ho
      have HXR := Lib.hid hx
      have HB := Lib.hid hb
      have HBL := Lib.hid hbl
      have hkl := kindsL_len p k
      have HKL := Lib.hid hkl
      have hkl2 : (kindsL p k).length ≤ 5 := by omega
      clear ho hx hb hbl hkl HO1 HX HB1
      by_cases hlt : k < p.length
      · obtain ⟨k1, k2, k3, k4⟩ := kind_spec hlt
        have HK4 := Lib.hid k4
        have HK2 := Lib.hid k2
        have hki : (k : Int) < (p.length : Int) := by omega
        clear k2 k4
        obtain ⟨wk, rfl⟩ : ∃ wk : World, wk = wr := ⟨_, rfl⟩
        go_wp2_with fail
        go_loopw [3, 6] (fun o i wr => ∃ j : Nat, j ≤ kind p k ∧ i = .int .i64 j ∧ o = .slice ax (kindsL p k).length cx ∧ wr = wk) (fun _ i _ => kind p k - (intOf i).toNat)
        case atStart => exact ⟨0, Nat.zero_le _, rfl, rfl, rfl⟩
        case round =>
          obtain ⟨j, hj, rfl, rfl, rfl⟩ := hrel
          have hjp : j < p.length := by omega
          have hji : (j : Int) < (p.length : Int) := by omega
          obtain ⟨b1, off1, b1', off1', c1', rfl, _, _, hc1, _, _, hd1⟩ := HXR.out.bit (mat_sq _ _) k j (by rw [mat_len]; exact hlt) (by rw [mat_len]; exact hjp)
          rw [mat_len] at hc1
          rw [mat_arr _ _ _ _ _ hlt hjp] at hd1
          by_cases hjk : j < kind p k
          · have hno : left p p.length k j = false := HK4.out j hjk
            rw [hno] at hd1
            simp only [Bool.false_eq_true, if_false] at hd1
            clear hno
            go_wp2_with fail
            go_roundw
            case rel => exact ⟨j + 1, by omega, by go_num, rfl, by first | rfl | trivial⟩
            case measure => simp [intOf]; omega
          · obtain rfl : j = kind p k := by omega
            have hyes : left p p.length k (kind p k) = true := HK2.out
            rw [hyes] at hd1
            simp only [if_true] at hd1
            clear hyes
            obtain ⟨K, hK⟩ : ∃ K : Nat, K = kind p k := ⟨_, rfl⟩
            rw [← hK] at hd1 hji hjp ⊢
            have HKK := Lib.hid hK
            clear hK
            go_wp2_with (at_builtin; go_loud (refine wpList_appI Tryz.underlying37 Tryz.infoInt _ rfl _ _ rfl w.heap.size wr.heap.size ax cx (kindsL p k) rfl (HO.out.agr ((Agr.refl _ _ _).alloc (Nat.le_refl _) _)) (by simp; omega) ⟨wr.heap.size, 0, none⟩ K rfl (new_cellE _ _ _ rfl) (by omega) ?_); intro g2 c2 w3 hown hgrow hat hg2; have HG := Lib.hid hgrow; have HO3 := Lib.hid hown; clear hown hgrow)
            have hbl2 : blockOf (some ⟨g2, 0, none⟩) = some w.heap.size ∨ ∃ g, blockOf (some ⟨g2, 0, none⟩) = some g ∧ w1.heap.size ≤ g := by
              rcases hat with h | h
              · rcases HBL.out with h' | ⟨g, h', h2⟩
                · left; rw [h] at h'; exact h'
                · right; exact ⟨g, by rw [h] at h'; exact h', h2⟩
              · right; exact ⟨g2, rfl, by simp at h; omega⟩
            have HBL2 := Lib.hid hbl2
            have HB3 := Lib.hid (below_app HB.out HG.out (HO.out.app_in (Nat.le_refl _)) (Nat.le_refl _) (Nat.le_refl _))
            have hz3 : wr.heap.size + 1 ≤ w3.heap.size := by have := HG.out.size; simpa using this
            have HX3 := Lib.hid (HXR.out.agr (fun b h1 h2 => (HG.out.block b (by simp; omega) (fun e => by
              rcases HBL.out with h' | ⟨g, h', h2'⟩
              · rw [h'] at e; injection e with e; omega
              · rw [h'] at e; injection e with e; omega)).trans (Below.heap_alloc _ _ _ (by omega))))
            clear hat hbl2
            have HL2 : Hid (kindsL p (k + 1) = kindsL p k ++ [(K : Int)]) := Lib.hid (by rw [kindsL_succ, HKK.out])
            go_wp2_with fail
            go_roundw
            case rel => exact ⟨k + 1, some ⟨g2, 0, none⟩, c2, by omega, by go_num, by rw [HL2.out]; simp, by rw [HL2.out]; exact HO3.out, HBL2.out, HX3.out, HB3.out, by omega⟩
            case measure => simp [intOf]; omega
      · obtain rfl : k = p.length := by omega
        go_wp2_with fail
        go_ret
        exact retI_of HK.out.symm HO.out HB.out
end Go.Proofs.YtiiohodkfipfbaaGreatDoor
