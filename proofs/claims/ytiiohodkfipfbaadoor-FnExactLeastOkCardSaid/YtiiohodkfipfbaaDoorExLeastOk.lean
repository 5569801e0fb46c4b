/- The law FnExactLeastOk, walked. -/
import Derived.Test.YtiiohodkfipfbaaDoorLeastI
import Derived.Test.YtiiohodkfipfbaaDoorLeastO
namespace Go.Proofs.YtiiohodkfipfbaaDoor
open Go.RowKit Go.Hyp Go.Deep

set_option maxRecDepth 4000 in
set_option maxHeartbeats 800000 in
theorem fnExactLeastOk_any (ap : Option Addr) (cp : Nat) (p : List (List Int)) (w : World) (hp : RdII w 0 w.heap.size ap p) (hlp : p.length ≤ maxLen) :
    Calls Tryd.prog 6 #[.slice ap p.length cp] w fun e w' => e = .returned (.bool true) ∧ Below w.heap.size w w' := by
  have Fp := Lib.hid hp
  clear hp
  have HLMp := Lib.hid hlp
  unfold maxLen at hlp
  have Sp := szII_cases 1048576 p
  by_cases hsp : szII 1048576 p < 0
  · clear Sp
    go_enter Tryd.func6, Tryd.ntmps6
    go_wp2_with fail
    refine (szIntSS_any ap cp p _ w _ _ Fp.out HLMp.out (by omega) (by omega)).mono ?_
    rintro e w' ⟨rfl, rfl⟩
    go_wp2_with fail
    go_ret
    exact ⟨rfl, Below.refl _ _⟩
  have hqp : p.length ≤ 1048576 ∧ lens p ≤ 1048576 ∧ szII 1048576 p ≤ 1048576 := by rcases Sp with hx | hx <;> omega
  obtain ⟨hnp, hmp, hrp⟩ := hqp
  clear Sp
  go_enter Tryd.func6, Tryd.ntmps6
  go_wp2_with fail
  refine (szIntSS_any ap cp p _ w _ _ Fp.out HLMp.out (by omega) (by omega)).mono ?_
  rintro e w' ⟨rfl, rfl⟩
  go_wp2_with fail
  have HB0 := Lib.hid (Below.refl w.heap.size w)
  have hsz1 := HB0.out.size
  refine (toIntSS_any ap cp p w 0 w.heap.size (Fp.out.below HB0.out (Nat.le_refl _)) hsz1 hnp hmp).mono ?_
  rintro e W1 ⟨x1, d1, rfl, ho, hb⟩
  have HB1 := Lib.hid (HB0.out.trans (hb.mono HB0.out.size))
  have hz1 : w.heap.size ≤ W1.heap.size := hb.size
  clear HB0
  have O1_1 := Lib.hid ho
  clear ho hb hsz1
  go_wp2_with fail
  refine (specLeastOk_any x1 d1 p W1 w.heap.size W1.heap.size O1_1.out.rd (by omega) HLMp.out).mono ?_
  rintro e W2 ⟨rfl, hb⟩
  have HB2 := Lib.hid (HB1.out.trans (hb.mono HB1.out.size))
  have hz2 : W1.heap.size ≤ W2.heap.size := hb.size
  have O1_2 := Lib.hid (O1_1.out.below hb (by omega))
  clear O1_1
  clear HB1
  clear hb
  go_wp2_with fail
  clear O1_2
  have hsz3 := HB2.out.size
  refine (toIntSS_any ap cp p W2 0 w.heap.size (Fp.out.below HB2.out (Nat.le_refl _)) hsz3 hnp hmp).mono ?_
  rintro e W3 ⟨x3, d3, rfl, ho, hb⟩
  have HB3 := Lib.hid (HB2.out.trans (hb.mono HB2.out.size))
  have hz3 : W2.heap.size ≤ W3.heap.size := hb.size
  clear HB2
  have O3_3 := Lib.hid ho
  clear ho hb hsz3
  go_wp2_with fail
  refine (implLeastOk_any x3 d3 p W3 W2.heap.size W3.heap.size O3_3.out.rd (by omega) HLMp.out).mono ?_
  rintro e W4 ⟨rfl, hb⟩
  have HB4 := Lib.hid (HB3.out.trans (hb.mono HB3.out.size))
  have hz4 : W3.heap.size ≤ W4.heap.size := hb.size
  have O3_4 := Lib.hid (O3_3.out.below hb (by omega))
  clear O3_3
  clear HB3
  clear hb
  go_wp2_with fail
  have hsz5 := HB4.out.size
  refine (toIntSS_any ap cp p W4 0 w.heap.size (Fp.out.below HB4.out (Nat.le_refl _)) hsz5 hnp hmp).mono ?_
  rintro e W5 ⟨x5, d5, rfl, ho, hb⟩
  have HB5 := Lib.hid (HB4.out.trans (hb.mono HB4.out.size))
  have hz5 : W4.heap.size ≤ W5.heap.size := hb.size
  have O3_5 := Lib.hid (O3_4.out.below hb (by omega))
  clear O3_4
  clear HB4
  have O5_5 := Lib.hid ho
  clear ho hb hsz5
  go_wp2_with fail
  refine (eqIntSS_any x3 x5 d3 d5 p p W5 _ _ _ _ O3_5.out.rd O5_5.out.rd O3_5.out.len).mono ?_
  rintro e W6 ⟨rfl, hq⟩
  rw [decide_eq_true rfl]
  have hb : Below W5.heap.size W5 W6 := hq.below
  have HB6 := Lib.hid (HB5.out.trans (hb.mono HB5.out.size))
  have hz6 : W5.heap.size ≤ W6.heap.size := hb.size
  have O3_6 := Lib.hid (O3_5.out.below hb (by omega))
  clear O3_5
  have O5_6 := Lib.hid (O5_5.out.below hb (by omega))
  clear O5_5
  clear HB5
  clear hq hb
  go_wp2_with fail
  clear O5_6
  clear O3_6
  go_ret
  exact ⟨rfl, HB6.out⟩
end Go.Proofs.YtiiohodkfipfbaaDoor
