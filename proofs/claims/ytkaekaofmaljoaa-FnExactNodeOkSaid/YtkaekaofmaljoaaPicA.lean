/- The law FnExactNodeOk, walked. -/
import Derived.Test.YtkaekaofmaljoaaPic
namespace Go.Proofs.Ytkaekaofmaljoaa
open Go.RowKit Go.Hyp Go.Deep

set_option maxHeartbeats 400000 in
theorem fnExactNodeOk_any (a : Option Addr) (cap : Nat) (p : List (List Int)) (n : Int) (w : World) (h : RdII w 0 w.heap.size a p) (hl : p.length ≤ maxLen) :
    Calls Try.prog 6 #[.slice a p.length cap, .int .i64 n] w fun e w' => e = .returned (.bool true) ∧ Below w.heap.size w w' := by
  have F := Lib.hid h
  clear h
  by_cases hs : szII 1048576 p < 0
  · go_enter Try.func6, Try.ntmps6
    go_wp2_with fail
    refine (szIntSS_any a cap p 1048576 _ _ _ F.out hl (by omega) (by omega)).mono ?_
    rintro e w1 ⟨rfl, rfl⟩
    go_wp2_with fail
    go_ret
    exact ⟨rfl, Below.refl _ _⟩
  · have hlen : p.length ≤ 1048576 ∧ lens p ≤ 1048576 := by
      have s1 := szII_cases 1048576 p
      omega
    obtain ⟨hn1, hn2⟩ := hlen
    go_enter Try.func6, Try.ntmps6
    go_wp2_with fail
    refine (szIntSS_any a cap p 1048576 _ _ _ F.out hl (by omega) (by omega)).mono ?_
    rintro e w1 ⟨rfl, rfl⟩
    go_wp2_with fail
    refine (toIntSS_any a cap p w _ _ F.out (Nat.le_refl _) hn1 hn2).mono ?_
    rintro e w1 ⟨x1, d1, rfl, ho1, hb1⟩
    go_wp2_with fail
    refine (specNodeOk_any x1 d1 p n w1 _ _ ho1.rd hl).mono ?_
    rintro e w' ⟨rfl, rfl⟩
    have F1 := Lib.hid (F.out.below hb1 (Nat.le_refl _))
    have H1 := Lib.hid hb1
    clear ho1 hb1
    go_wp2_with fail
    refine (toIntSS_any a cap p w1 _ _ F1.out H1.out.size hn1 hn2).mono ?_
    rintro e w2 ⟨x2, d2, rfl, ho2, hb2⟩
    have F2 := Lib.hid (F1.out.below hb2 H1.out.size)
    have H2 := Lib.hid (below_trans H1.out hb2)
    have O2 := Lib.hid ho2.rd
    clear ho2 hb2
    go_wp2_with fail
    refine (implNodeOk_any x2 d2 p n w2 _ _ O2.out hl).mono ?_
    rintro e w' ⟨rfl, rfl⟩
    go_wp2_with fail
    refine (toIntSS_any a cap p w2 _ _ F2.out H2.out.size hn1 hn2).mono ?_
    rintro e w3 ⟨x3, d3, rfl, ho3, hb3⟩
    have O2' := Lib.hid (O2.out.below hb3 (Nat.le_refl _))
    have O3 := Lib.hid ho3.rd
    have H3 := Lib.hid (below_trans H2.out hb3)
    clear ho3 hb3
    go_wp2_with fail
    refine (eqIntSS_any x2 x3 d2 d3 p p w3 _ _ _ _ O2'.out O3.out hl).mono ?_
    rintro e w4 ⟨rfl, hq⟩
    have H4 := Lib.hid (H3.out.trans hq.below)
    rw [decide_eq_true rfl]
    clear hq
    go_wp2_with fail
    go_ret
    exact ⟨rfl, H4.out⟩
end Go.Proofs.Ytkaekaofmaljoaa
