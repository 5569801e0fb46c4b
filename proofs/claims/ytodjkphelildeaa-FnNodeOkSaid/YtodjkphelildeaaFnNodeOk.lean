/- The law FnNodeOk, walked. -/
import Derived.Test.YtodjkphelildeaaReach
import Derived.Test.YtodjkphelildeaaDrawP
import Derived.Test.YtodjkphelildeaaAlive
namespace Go.Hyp
theorem IsReach.pos {p : List (List Int)} {i : Nat} {L : List Int} (h : IsReach p i L) (hi : i < p.length) : 0 < L.length := by
  have := (h.2 (i : Int)).2 ⟨i, rfl, hi, Rea.refl p i⟩
  cases L with
  | nil => simp at this
  | cons _ _ => simp
end Go.Hyp
namespace Go.Proofs.Ytodjkphelildeaa
open Go.RowKit Go.Hyp Go.Deep

/-- A drawn picture and a number, the reader at most K further. -/
def DrewPI (rb S : Nat) (l : List Int) (p K : Nat) (w : World) (e : Ending) (w' : World) : Prop :=
  ∃ a c P, ∃ x : Int, e = .returned (.tuple #[.slice a (P : List (List Int)).length c, .int .i64 x]) ∧ RdII w' w.heap.size w'.heap.size a P ∧ P.length ≤ 5 ∧ (∃ p', p ≤ p' ∧ p' ≤ p + K ∧ Rdr w' rb S l p') ∧ Chg (· = rb) w w'
set_option maxHeartbeats 800000 in
theorem l20Node_any (rb : Nat) (l : List Int) (p n : Nat) (w : World) (hr : Rdr w rb 85 l p) (hp : p ≤ 500000) (hn : n ≤ 1048576) :
    Calls Try.prog 86 #[.pointer (some ⟨rb, 0, none⟩), .int .i64 n] w (DrewPI rb 85 l p 50 w) := by
  have hlt := hr.lt
  have HR := Lib.hid hr
  clear hr
  go_enter Try.func86, Try.ntmps86
  go_wp2_with fail
  refine (l20Picture_any rb l p n w HR.out (by omega) hn).mono ?_
  rintro e w1 ⟨a, c, P, rfl, hrd, _, h5, h6, ⟨p1, hp1, hp1', hr1⟩, hc1⟩
  have HRD := Lib.hid hrd
  have HR1 := Lib.hid hr1
  have HC1 := Lib.hid hc1
  have hz1 : w.heap.size ≤ w1.heap.size := hc1.size
  clear hrd h6 hr1 hc1 HR
  obtain ⟨m, hm1, hm5, hmx⟩ : ∃ m : Nat, 1 ≤ m ∧ m ≤ 5 ∧ max (P.length : Int) 1 = (m : Int) := ⟨max P.length 1, by omega, by omega, by omega⟩
  have HM2 : Hid ((if (1 : Int) > (P.length : Int) then 1 else (P.length : Int)) = (m : Int)) := Lib.hid (by rw [← hmx]; omega)
  have HMX := Lib.hid hmx
  clear hmx
  go_wp2_with fail
  first | rw [HM2.out] | rw [HMX.out]
  refine (pick_rdr rb l p1 m w1 HR1.out (by omega) (by omega)).mono ?_
  rintro e w2 ⟨x, rfl, x0, x1, hr2, hc2, hz2⟩
  have HR2 := Lib.hid hr2
  have HC2 := Lib.hid hc2
  clear hr2 hc2 hz2 HR1
  go_wp2_with fail
  refine (pick_rdr rb l (p1 + 1) 20 w2 HR2.out (by omega) (by omega)).mono ?_
  rintro e w3 ⟨y, rfl, y0, y1, hr3, hc3, hz3⟩
  have HR3 := Lib.hid hr3
  have HC3 := Lib.hid (HC2.out.trans hc3)
  have hq : 0 ≤ y / 19 ∧ y / 19 ≤ 1 := by omega
  obtain ⟨hq0, hq1⟩ := hq
  clear hr3 hc3 hz3 HR2 HC2
  go_wp2_with fail
  refine (pick_rdr rb l (p1 + 1 + 1) 40 w3 HR3.out (by omega) (by omega)).mono ?_
  rintro e w4 ⟨z, rfl, z0, z1, hr4, hc4, hz4⟩
  have HR4 := Lib.hid hr4
  have HC4 := Lib.hid (HC3.out.trans hc4)
  have hq' : 0 ≤ z / 39 ∧ z / 39 ≤ 1 := by omega
  obtain ⟨hq2, hq3⟩ := hq'
  have HRD4 := Lib.hid (HRD.out.agr (HC4.out.agr (Nat.le_refl _) (fun k h1 h2 h3 => by omega)))
  have hz4' : w1.heap.size ≤ w4.heap.size := HC4.out.size
  clear hr4 hc4 hz4 HR3 HC3 HRD
  go_wp2_with fail
  go_ret2
  exact ⟨a, c, P, _, rfl, HRD4.out.mono (Nat.le_refl _) hz4', h5, ⟨p1 + 1 + 1 + 1, by omega, by omega, HR4.out⟩, HC1.out.trans HC4.out⟩

def DrewPI0 (w : World) (e : Ending) (w' : World) : Prop :=
  ∃ a c P, ∃ x : Int, e = .returned (.tuple #[.slice a (P : List (List Int)).length c, .int .i64 x]) ∧ RdII w' w.heap.size w'.heap.size a P ∧ P.length ≤ 5 ∧ Below w.heap.size w w'
set_option maxHeartbeats 400000 in
theorem drawNodeOk_any (a : Option Addr) (cap : Nat) (l : List Int) (w : World) (h : RdB w w.heap.size a l) (hl : l.length ≤ maxLen) (hcap : l.length ≤ cap) :
    Calls Try.prog 46 #[.slice a l.length cap] w (DrewPI0 w) := by
  have HB := Lib.hid h
  clear h
  go_enter Try.func46, Try.ntmps46
  go_wp2_with fail
  refine (open_any a cap l _ HB.out hl hcap).mono ?_
  rintro e w1 ⟨l', rfl, hr1, hb1, hz1⟩
  have HR1 := Lib.hid hr1
  have HH1 := Lib.hid hb1
  have hz1' : w.heap.size + 1 ≤ w1.heap.size := by omega
  clear hr1 hb1 hz1
  go_wp2_with fail
  refine (l20Node_any _ l' 0 3 w1 HR1.out (by omega) (by omega)).mono ?_
  rintro e w2 ⟨a2, c2, P, x, rfl, hrd, h5, _, hc2⟩
  have HRD := Lib.hid hrd
  have HC2 := Lib.hid hc2
  clear hrd hc2 HR1
  go_wp2_with fail
  go_ret2
  exact ⟨a2, c2, P, x, rfl, HRD.out.mono (by omega) (Nat.le_refl _), h5, HH1.out.trans (HC2.out.below (D := w.heap.size) (fun k hk => by omega) (by omega))⟩

set_option maxHeartbeats 800000 in
theorem fnNodeOk_any (a : Option Addr) (cap : Nat) (l : List Int) (w : World) (h : RdB w w.heap.size a l) (hl : l.length ≤ maxLen ∧ l.length ≤ cap) :
    Calls Try.prog 14 #[.slice a l.length cap] w fun e w' => e = .returned (.bool true) ∧ Below w.heap.size w w' := by
  obtain ⟨hl, hcap⟩ := hl
  have HB := Lib.hid h
  clear h
  by_cases hbig : 1048576 < l.length
  · go_enter Try.func14, Try.ntmps14
    go_wp2_with fail
    go_ret
    exact ⟨rfl, Below.refl _ _⟩
  · go_enter Try.func14, Try.ntmps14
    go_wp2_with fail
    refine (drawNodeOk_any a cap l _ HB.out hl hcap).mono ?_
    rintro e w1 ⟨a2, c2, p, n, rfl, hrd, h5, hb⟩
    have R1 := Lib.hid hrd
    have H1 := Lib.hid hb
    have hm : Hid (p.length ≤ maxLen) := Lib.hid (by unfold maxLen; omega)
    clear hrd hb
    have HI := Lib.hid (implNodeOk_any a2 c2 p n w1 _ _ R1.out hm.out)
    have HS := Lib.hid (specNodeOk_any a2 c2 p n w1 _ _ R1.out hm.out)
    have HR := Lib.hid (implReachedFrom_any a2 c2 p n w1 _ _ R1.out (Nat.le_refl _) hm.out)
    cases hok : nodeB p n
    · have HOK := Lib.hid hok
      clear hok
      go_wp2_with fail
      refine HI.out.mono ?_
      rintro e w2 ⟨rfl, rfl⟩
      rw [HOK.out]
      go_wp2_with fail
      refine HS.out.mono ?_
      rintro e w2 ⟨rfl, rfl⟩
      rw [HOK.out]
      go_wp2_with fail
      refine HR.out.mono ?_
      rintro e w2 (⟨_, rfl, rfl⟩ | ⟨i, rfl, hi, hp, _⟩)
      · go_wp2_with (go_at_call 21; refine (alive1_any _).mono ?_; rintro e w' ⟨rfl, rfl⟩)
        go_ret
        exact ⟨rfl, H1.out⟩
      · have := nodeB_of hp hi
        rw [HOK.out] at this; cases this
    · have HOK := Lib.hid hok
      clear hok
      go_wp2_with fail
      refine HI.out.mono ?_
      rintro e w2 ⟨rfl, rfl⟩
      rw [HOK.out]
      go_wp2_with fail
      refine HS.out.mono ?_
      rintro e w2 ⟨rfl, rfl⟩
      rw [HOK.out]
      go_wp2_with fail
      refine HR.out.mono ?_
      rintro e w2 (⟨h, _, _⟩ | ⟨i, rfl, hi, hp, L, ar, cr, rfl, hre, hll, ho, hb⟩)
      · rw [HOK.out] at h; cases h
      · have hpos := hre.pos hi
        have hpi : (0 : Int) < (L.length : Int) := by omega
        have H2 := Lib.hid (H1.out.trans (hb.mono H1.out.size))
        clear hre ho hb hp
        go_wp2_with (go_at_call 21; refine (alive1_any _).mono ?_; rintro e w' ⟨rfl, rfl⟩)
        go_ret
        exact ⟨rfl, H2.out⟩
end Go.Proofs.Ytodjkphelildeaa
