/- The law FnExactAlikeNames, walked. -/
import Derived.Test.YtodjkphelildeaaSaid
import Derived.Test.YtodjkphelildeaaAlike
namespace Go.Proofs.Ytodjkphelildeaa
open Go.RowKit Go.Hyp Go.Deep

set_option maxRecDepth 4000 in
set_option maxHeartbeats 800000 in
theorem fnExactAlikeNames_any (a : Option Addr) (c : Nat) (s : List (List Int × Int)) (x y : Int) (w : World) (h : RdY w 0 w.heap.size a s) (hl : s.length ≤ maxLen) :
    Calls Try.prog 9 #[.slice a s.length c, .int .i64 x, .int .i64 y] w fun e w' => e = .returned (.bool true) ∧ Below w.heap.size w w' := by
  have F := Lib.hid h
  have HC := Lib.hid (szY_cases 1048576 s)
  clear h
  by_cases hs : szY 1048576 s < 0
  · go_enter Try.func9, Try.ntmps9
    go_wp2_with fail
    refine (szSaidS_any a c s _ w _ _ F.out (Nat.le_refl _) hl (by omega) (by omega)).mono ?_
    rintro e w1 ⟨rfl, hb1⟩
    have H1 := Lib.hid hb1
    clear hb1
    go_wp2_with fail
    go_ret
    exact ⟨rfl, H1.out⟩
  · have hn : s.length ≤ 1048576 ∧ lensY s ≤ 1048576 := by rcases HC.out with h | h <;> omega
    obtain ⟨hn1, hn2⟩ := hn
    have hm : s.length ≤ maxLen := hl
    go_enter Try.func9, Try.ntmps9
    go_wp2_with fail
    refine (szSaidS_any a c s _ w _ _ F.out (Nat.le_refl _) hl (by omega) (by omega)).mono ?_
    rintro e w1 ⟨rfl, hb1⟩
    have H1 := Lib.hid hb1
    have hz1 := hb1.size
    clear hb1
    go_wp2_with fail
    refine (toSaidS_any a c s w1 _ _ (F.out.below H1.out (Nat.le_refl _)) hz1 hn1 hn2).mono ?_
    rintro e w2 ⟨a2, c2, rfl, ho2, hb2⟩
    have O2 := Lib.hid ho2.rd
    have H2 := Lib.hid (below_trans H1.out hb2)
    have hz2 := H2.out.size
    clear ho2 hb2
    go_wp2_with fail
    refine (specAlikeNames_any a2 c2 s x y w2 _ _ O2.out (Nat.le_refl _) hm).mono ?_
    rintro e w3 ⟨rfl, hb3⟩
    have H3 := Lib.hid (below_trans H2.out hb3)
    have hz3 := H3.out.size
    clear O2 hb3
    go_wp2_with fail
    refine (toSaidS_any a c s w3 _ _ (F.out.below H3.out (Nat.le_refl _)) hz3 hn1 hn2).mono ?_
    rintro e w4 ⟨a4, c4, rfl, ho4, hb4⟩
    have O4 := Lib.hid ho4.rd
    have H4 := Lib.hid (below_trans H3.out hb4)
    have hz4 := H4.out.size
    clear ho4 hb4
    go_wp2_with fail
    refine (implAlikeNames_any a4 c4 s x y w4 _ _ O4.out (Nat.le_refl _) hm).mono ?_
    rintro e w5 ⟨rfl, hb5⟩
    have O5 := Lib.hid (O4.out.below hb5 (Nat.le_refl _))
    have H5 := Lib.hid (below_trans H4.out hb5)
    have hz5 := H5.out.size
    have hz45 := hb5.size
    clear hb5 O4
    go_wp2_with fail
    refine (toSaidS_any a c s w5 _ _ (F.out.below H5.out (Nat.le_refl _)) hz5 hn1 hn2).mono ?_
    rintro e w6 ⟨a6, c6, rfl, ho6, hb6⟩
    have O6 := Lib.hid ho6.rd
    have O5' := Lib.hid (O5.out.below hb6 hz45)
    have H6 := Lib.hid (below_trans H5.out hb6)
    have hz56 := hb6.size
    clear ho6 hb6 O5
    go_wp2_with fail
    refine (eqSaidS_any a4 a6 c4 c6 s s w6 _ _ _ _ O5'.out O6.out (by omega) (Nat.le_refl _) hm).mono ?_
    rintro e w7 ⟨rfl, hb7⟩
    rw [decide_eq_true rfl]
    have H7 := Lib.hid (below_trans H6.out hb7)
    clear hb7
    go_wp2_with fail
    go_ret
    exact ⟨rfl, H7.out⟩
end Go.Proofs.Ytodjkphelildeaa
