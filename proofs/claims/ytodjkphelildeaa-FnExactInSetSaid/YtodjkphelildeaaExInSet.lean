/- The law FnExactInSet, walked. -/
import Derived.Test.YtodjkphelildeaaHas
namespace Go.Proofs.Ytodjkphelildeaa
open Go.RowKit Go.Hyp Go.Deep

set_option maxRecDepth 4000 in
set_option maxHeartbeats 800000 in
theorem fnExactInSet_any (ap : Option Addr) (cp : Nat) (p : List (List Int)) (a : Int) (aq : Option Addr) (cq : Nat) (q : List (List Int)) (b : Int) (w : World) (hp : RdII w 0 w.heap.size ap p) (hlp : p.length ≤ maxLen) (hq : RdII w 0 w.heap.size aq q) (hlq : q.length ≤ maxLen) :
    Calls Try.prog 12 #[.slice ap p.length cp, .int .i64 a, .slice aq q.length cq, .int .i64 b] w fun e w' => e = .returned (.bool true) ∧ Below w.heap.size w w' := by
  have Fp := Lib.hid hp
  have Fq := Lib.hid hq
  clear hp hq
  have HLMp := Lib.hid hlp
  have HLMq := Lib.hid hlq
  unfold maxLen at hlp
  unfold maxLen at hlq
  have Sp := szII_cases 1048576 p
  by_cases hsp : szII 1048576 p < 0
  · clear Sp
    go_enter Try.func12, Try.ntmps12
    go_wp2_with fail
    refine (szIntSS_any ap cp p _ w _ _ Fp.out HLMp.out (by omega) (by omega)).mono ?_
    rintro e w' ⟨rfl, rfl⟩
    go_wp2_with fail
    go_ret
    exact ⟨rfl, Below.refl _ _⟩
  have hqp : p.length ≤ 1048576 ∧ lens p ≤ 1048576 ∧ szII 1048576 p ≤ 1048576 := by rcases Sp with hx | hx <;> omega
  obtain ⟨hnp, hmp, hrp⟩ := hqp
  clear Sp
  have Sq := szII_cases (szII 1048576 p) q
  by_cases hsq : szII (szII 1048576 p) q < 0
  · clear Sq
    go_enter Try.func12, Try.ntmps12
    go_wp2_with fail
    refine (szIntSS_any ap cp p _ w _ _ Fp.out HLMp.out (by omega) (by omega)).mono ?_
    rintro e w' ⟨rfl, rfl⟩
    go_wp2_with fail
    refine (szIntSS_any aq cq q _ w _ _ Fq.out HLMq.out (by omega) (by omega)).mono ?_
    rintro e w' ⟨rfl, rfl⟩
    go_wp2_with fail
    go_ret
    exact ⟨rfl, Below.refl _ _⟩
  have hqq : q.length ≤ 1048576 ∧ lens q ≤ 1048576 ∧ szII (szII 1048576 p) q ≤ 1048576 := by rcases Sq with hx | hx <;> omega
  obtain ⟨hnq, hmq, hrq⟩ := hqq
  clear Sq
  go_enter Try.func12, Try.ntmps12
  go_wp2_with fail
  refine (szIntSS_any ap cp p _ w _ _ Fp.out HLMp.out (by omega) (by omega)).mono ?_
  rintro e w' ⟨rfl, rfl⟩
  go_wp2_with fail
  refine (szIntSS_any aq cq q _ w _ _ Fq.out HLMq.out (by omega) (by omega)).mono ?_
  rintro e w' ⟨rfl, rfl⟩
  go_wp2_with fail
  have HB0 := Lib.hid (Below.refl w.heap.size w)
  have hsz1 := HB0.out.size
  refine (toIntSS_any ap cp p w 0 w.heap.size (Fp.out.below HB0.out (Nat.le_refl _)) hsz1 hnp hmp).mono ?_
  rintro e W1 ⟨x1, d1, rfl, ho, hb⟩
  have HB1 := Lib.hid (HB0.out.trans (hb.mono HB0.out.size))
  have hz1 : w.heap.size ≤ W1.heap.size := hb.size
  clear HB0
  have O1_1 := Lib.hid ho
  clear ho hb hsz1
  go_wp2_with fail
  have hsz2 := HB1.out.size
  refine (toIntSS_any aq cq q W1 0 w.heap.size (Fq.out.below HB1.out (Nat.le_refl _)) hsz2 hnq hmq).mono ?_
  rintro e W2 ⟨x2, d2, rfl, ho, hb⟩
  have HB2 := Lib.hid (HB1.out.trans (hb.mono HB1.out.size))
  have hz2 : W1.heap.size ≤ W2.heap.size := hb.size
  have O1_2 := Lib.hid (O1_1.out.below hb (by omega))
  clear O1_1
  clear HB1
  have O2_2 := Lib.hid ho
  clear ho hb hsz2
  go_wp2_with fail
  refine (specInSet_any x1 d1 p a x2 d2 q b W2 w.heap.size W1.heap.size W1.heap.size W2.heap.size O1_2.out.rd (by omega) HLMp.out O2_2.out.rd (by omega) HLMq.out).mono ?_
  rintro e W3 ⟨rfl, hb⟩
  have HB3 := Lib.hid (HB2.out.trans (hb.mono HB2.out.size))
  have hz3 : W2.heap.size ≤ W3.heap.size := hb.size
  have O1_3 := Lib.hid (O1_2.out.below hb (by omega))
  clear O1_2
  have O2_3 := Lib.hid (O2_2.out.below hb (by omega))
  clear O2_2
  clear HB2
  clear hb
  go_wp2_with fail
  clear O1_3
  clear O2_3
  have hsz4 := HB3.out.size
  refine (toIntSS_any ap cp p W3 0 w.heap.size (Fp.out.below HB3.out (Nat.le_refl _)) hsz4 hnp hmp).mono ?_
  rintro e W4 ⟨x4, d4, rfl, ho, hb⟩
  have HB4 := Lib.hid (HB3.out.trans (hb.mono HB3.out.size))
  have hz4 : W3.heap.size ≤ W4.heap.size := hb.size
  clear HB3
  have O4_4 := Lib.hid ho
  clear ho hb hsz4
  go_wp2_with fail
  have hsz5 := HB4.out.size
  refine (toIntSS_any aq cq q W4 0 w.heap.size (Fq.out.below HB4.out (Nat.le_refl _)) hsz5 hnq hmq).mono ?_
  rintro e W5 ⟨x5, d5, rfl, ho, hb⟩
  have HB5 := Lib.hid (HB4.out.trans (hb.mono HB4.out.size))
  have hz5 : W4.heap.size ≤ W5.heap.size := hb.size
  have O4_5 := Lib.hid (O4_4.out.below hb (by omega))
  clear O4_4
  clear HB4
  have O5_5 := Lib.hid ho
  clear ho hb hsz5
  go_wp2_with fail
  refine (implInSet_any x4 d4 p a x5 d5 q b W5 W3.heap.size W4.heap.size W4.heap.size W5.heap.size O4_5.out.rd (by omega) HLMp.out O5_5.out.rd (by omega) HLMq.out).mono ?_
  rintro e W6 ⟨rfl, hb⟩
  have HB6 := Lib.hid (HB5.out.trans (hb.mono HB5.out.size))
  have hz6 : W5.heap.size ≤ W6.heap.size := hb.size
  have O4_6 := Lib.hid (O4_5.out.below hb (by omega))
  clear O4_5
  have O5_6 := Lib.hid (O5_5.out.below hb (by omega))
  clear O5_5
  clear HB5
  clear hb
  go_wp2_with fail
  have hsz7 := HB6.out.size
  refine (toIntSS_any ap cp p W6 0 w.heap.size (Fp.out.below HB6.out (Nat.le_refl _)) hsz7 hnp hmp).mono ?_
  rintro e W7 ⟨x7, d7, rfl, ho, hb⟩
  have HB7 := Lib.hid (HB6.out.trans (hb.mono HB6.out.size))
  have hz7 : W6.heap.size ≤ W7.heap.size := hb.size
  have O4_7 := Lib.hid (O4_6.out.below hb (by omega))
  clear O4_6
  have O5_7 := Lib.hid (O5_6.out.below hb (by omega))
  clear O5_6
  clear HB6
  have O7_7 := Lib.hid ho
  clear ho hb hsz7
  go_wp2_with fail
  refine (eqIntSS_any x4 x7 d4 d7 p p W7 _ _ _ _ O4_7.out.rd O7_7.out.rd O4_7.out.len).mono ?_
  rintro e W8 ⟨rfl, hq⟩
  rw [decide_eq_true rfl]
  have hb : Below W7.heap.size W7 W8 := hq.below
  have HB8 := Lib.hid (HB7.out.trans (hb.mono HB7.out.size))
  have hz8 : W7.heap.size ≤ W8.heap.size := hb.size
  have O4_8 := Lib.hid (O4_7.out.below hb (by omega))
  clear O4_7
  have O5_8 := Lib.hid (O5_7.out.below hb (by omega))
  clear O5_7
  have O7_8 := Lib.hid (O7_7.out.below hb (by omega))
  clear O7_7
  clear HB7
  clear hq hb
  go_wp2_with fail
  clear O7_8
  clear O4_8
  have hsz8 := HB8.out.size
  refine (toIntSS_any aq cq q W8 0 w.heap.size (Fq.out.below HB8.out (Nat.le_refl _)) hsz8 hnq hmq).mono ?_
  rintro e W9 ⟨x8, d8, rfl, ho, hb⟩
  have HB9 := Lib.hid (HB8.out.trans (hb.mono HB8.out.size))
  have hz9 : W8.heap.size ≤ W9.heap.size := hb.size
  have O5_9 := Lib.hid (O5_8.out.below hb (by omega))
  clear O5_8
  clear HB8
  have O8_9 := Lib.hid ho
  clear ho hb hsz8
  go_wp2_with fail
  refine (eqIntSS_any x5 x8 d5 d8 q q W9 _ _ _ _ O5_9.out.rd O8_9.out.rd O5_9.out.len).mono ?_
  rintro e W10 ⟨rfl, hq⟩
  rw [decide_eq_true rfl]
  have hb : Below W9.heap.size W9 W10 := hq.below
  have HB10 := Lib.hid (HB9.out.trans (hb.mono HB9.out.size))
  have hz10 : W9.heap.size ≤ W10.heap.size := hb.size
  have O5_10 := Lib.hid (O5_9.out.below hb (by omega))
  clear O5_9
  have O8_10 := Lib.hid (O8_9.out.below hb (by omega))
  clear O8_9
  clear HB9
  clear hq hb
  go_wp2_with fail
  clear O8_10
  clear O5_10
  go_ret
  exact ⟨rfl, HB10.out⟩
end Go.Proofs.Ytodjkphelildeaa
