/- The law FnSystemOk, walked. -/
import Derived.Test.YtkaekaofmaljoaaDrawY
import Derived.Test.YtkaekaofmaljoaaDrawS
import Derived.Test.YtkaekaofmaljoaaSys
namespace Go.Proofs.Ytkaekaofmaljoaa
open Go.RowKit Go.Hyp Go.Deep

theorem rdY_nil (w : World) (B C : Nat) (a : Option Addr) : RdY w B C a [] := fun i hi => by simp at hi
theorem rdY_one (w : World) (v c : Int) (E T : Nat) :
    RdY ((w.alloc (.cells #[.int .i64 v] E)).alloc (.cells #[.slice (some ⟨w.heap.size, 0, none⟩) 1 1, .int .i64 c] T)) w.heap.size (w.heap.size + 2) (some ⟨w.heap.size + 1, 0, none⟩) [([v], c)] := by
  intro i hi
  obtain rfl : i = 0 := by simpa using hi
  have b := alloc1 (w.alloc (.cells #[.int .i64 v] E)) (.cells #[.slice (some ⟨w.heap.size, 0, none⟩) 1 1, .int .i64 c] T)
  rw [World.size_alloc] at b
  obtain ⟨q0, q1, _, _⟩ := blk2 b
  refine ⟨w.heap.size + 1, 0, _, 1, rfl, by omega, by omega, q0, q1, ?_, by simp [maxLen]⟩
  intro j hj
  obtain rfl : j = 0 := by simpa using hj
  refine ⟨w.heap.size, 0, rfl, Nat.le_refl _, by omega, ?_⟩
  exact blk_cell (blk_old (alloc1 w (.cells #[.int .i64 v] E))) rfl

set_option maxHeartbeats 400000 in
theorem fnSystemOk_any (a : Option Addr) (cap : Nat) (l : List Int) (w : World) (h : RdB w w.heap.size a l) (hl : l.length ≤ maxLen ∧ l.length ≤ cap) :
    Calls Try.prog 5 #[.slice a l.length cap] w fun e w' => e = .returned (.bool true) ∧ Below w.heap.size w w' := by
  obtain ⟨hl, hcap⟩ := hl
  have HB := Lib.hid h
  clear h
  by_cases hbig : 1048576 < l.length
  · go_enter Try.func5, Try.ntmps5
    go_wp2_with fail
    go_ret
    exact ⟨rfl, Below.refl _ _⟩
  · go_enter Try.func5, Try.ntmps5
    go_wp2_with fail
    refine (drawSystemOk_any a cap l _ HB.out hl hcap).mono ?_
    rintro e w1 ⟨a1, c1, s, rfl, r1, hs, hn, hb1⟩
    have H1 := Lib.hid hb1
    have R1 := Lib.hid r1
    clear r1 hb1 hn
    go_wp2_with fail
    refine (implSystemOk_any a1 c1 s w1 _ _ R1.out (Nat.le_refl _) (by unfold maxLen; omega)).mono ?_
    rintro e w2 ⟨rfl, hb2⟩
    have H2 := Lib.hid (below_trans H1.out hb2)
    have R2 := Lib.hid (R1.out.below hb2 (Nat.le_refl _))
    clear hb2 R1 H1
    go_wp2_with fail
    refine (specSystemOk_any a1 c1 s w2 _ _ R2.out (by unfold maxLen; omega)).mono ?_
    rintro e w3 ⟨rfl, rfl⟩
    clear R2
    go_wp2_with fail
    go_loopw [5] (fun i wr => ∃ k : Nat, i = .int .i64 k ∧ k ≤ 4 ∧ Below w.heap.size w wr) (fun i _ => 4 - (intOf i).toNat)
    case atStart => exact ⟨0, rfl, by omega, H2.out⟩
    case round =>
      obtain ⟨k, rfl, hk, hb⟩ := hrel
      have H3 := Lib.hid hb
      clear hb H2
      by_cases hk4 : k < 4
      · have T1 : Hid (sysB [([1], (k : Int))] = true) := by
          have h4 : k = 0 ∨ k = 1 ∨ k = 2 ∨ k = 3 := by omega
          rcases h4 with rfl | rfl | rfl | rfl <;> rfl
        go_wp2_with fail
        refine (implSystemOk_any (some ⟨wr.heap.size + 1, 0, none⟩) 1 [([1], (k : Int))] _ _ _ (rdY_one wr 1 k 3 39) (by simp) (by simp [maxLen])).mono ?_
        rintro e w4 ⟨rfl, hb4⟩
        rw [T1.out]
        have H4 := Lib.hid (below_trans ((H3.out.alloc H3.out.size _).alloc (by simp; exact Nat.le_succ_of_le H3.out.size) _) hb4)
        clear hb4
        go_wp2_with fail
        go_roundw
        case rel => exact ⟨k + 1, int_eq (by omega), by omega, H4.out⟩
        case measure => simp [intOf]; omega
      · obtain rfl : k = 4 := by omega
        go_wp2_with fail
        have T1 : Hid (sysB [] = false) := rfl
        refine (implSystemOk_any _ 0 [] _ 0 0 (rdY_nil _ _ _ _) (by simp) (by simp [maxLen])).mono ?_
        rintro e w4 ⟨rfl, hb4⟩
        rw [T1.out]
        have H4 := Lib.hid (below_trans (H3.out.alloc H3.out.size _) hb4)
        clear hb4
        go_wp2_with fail
        refine (alive_any w4).mono ?_
        rintro e w' ⟨rfl, rfl⟩
        go_wp2_with fail
        go_ret
        exact ⟨rfl, H4.out⟩
end Go.Proofs.Ytkaekaofmaljoaa
