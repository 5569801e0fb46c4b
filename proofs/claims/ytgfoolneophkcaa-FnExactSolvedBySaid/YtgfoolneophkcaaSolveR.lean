/- impl.SolvedBy. -/
import Derived.Test.YtgfoolneophkcaaSolve
namespace Go.Hyp
open Go.RowKit Go.Deep
theorem solvedBy_small (s : List (List Int × Int)) : (solR s).length ≤ 1048576 ∧ lens (solR s) ≤ 1048576 := by
  cases h : sysB s
  · rw [solR_no h]; exact ⟨by simp, by show 0 ≤ _; omega⟩
  · rw [solR_yes h]
    have := (sysB_at h).1
    exact mat_small _ (by omega)
end Go.Hyp
namespace Go.Proofs.Ytgfoolneophkcaa
open Go.RowKit Go.Hyp Go.Deep

set_option maxHeartbeats 800000 in
theorem implSolvedBy_any (a : Option Addr) (cap : Nat) (s : List (List Int × Int)) (w : World) (B C : Nat) (h : RdY w B C a s) (hC : C ≤ w.heap.size) (hl : s.length ≤ maxLen) :
    Calls Try.prog 52 #[.slice a s.length cap] w (RetII 3 29 (solR s) w) := by
  have F := Lib.hid h
  have HIS := Lib.hid (isSystem_any a cap s w B C h hC hl)
  clear h
  cases hs : sysB s
  · have HS := Lib.hid hs
    have HE := Lib.hid (solR_no hs)
    clear hs
    go_enter Try.func52, Try.ntmps52
    go_wp2_with fail
    refine HIS.out.mono ?_
    rintro e w1 ⟨rfl, hb⟩
    rw [HS.out]
    have HB := Lib.hid hb
    clear hb
    go_wp2_with fail
    go_ret
    exact retII_of HE.out.symm (OwII_nil _ _ _ _ _) HB.out
  · have HS := Lib.hid hs
    have HE := Lib.hid (solR_yes hs)
    clear hs
    go_enter Try.func52, Try.ntmps52
    go_wp2_with fail
    refine HIS.out.mono ?_
    rintro e w1 ⟨rfl, hb⟩
    rw [HS.out]
    have HB := Lib.hid hb
    have hz1 : w.heap.size ≤ w1.heap.size := hb.size
    clear hb
    go_wp2_with fail
    refine (solvedBy_any a cap s w1 B C (F.out.below HB.out hC) (by omega) HS.out).mono ?_
    rintro e w2 ⟨x, c, rfl, ho, hb⟩
    have HO := Lib.hid ho
    have HB2 := Lib.hid (HB.out.trans (hb.mono hz1))
    clear ho hb
    go_wp2_with fail
    go_ret
    exact retII_of HE.out.symm (HO.out.mono hz1 (Nat.le_refl _)) HB2.out
end Go.Proofs.Ytgfoolneophkcaa
