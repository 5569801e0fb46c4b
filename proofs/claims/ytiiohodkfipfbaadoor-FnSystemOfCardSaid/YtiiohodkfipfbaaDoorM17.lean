/- Drawn pictures with a number: DrawJoinedOf, DrawLeastOf, DrawManyIn, DrawLeastOk, DrawSystemOf, DrawSameSet. -/
import Derived.Test.YtiiohodkfipfbaaDoorM5
import Derived.Test.YtiiohodkfipfbaaDoorM16
namespace Go.Hyp
open Go.RowKit Go.Deep
/-- A drawn picture and a number; nothing that was there has turned. -/
def DrewPN (w : World) (e : Ending) (w' : World) : Prop :=
  ∃ a c P, ∃ x : Int, e = .returned (.tuple #[.slice a (P : List (List Int)).length c, .int .i64 x]) ∧ RdII w' w.heap.size w'.heap.size a P ∧ P.length ≤ 5 ∧ Below w.heap.size w w'
/-- A drawn picture; nothing that was there has turned. -/
def DrewP0 (w : World) (e : Ending) (w' : World) : Prop :=
  ∃ a c P, e = .returned (.slice a (P : List (List Int)).length c) ∧ RdII w' w.heap.size w'.heap.size a P ∧ P.length ≤ 5 ∧ Below w.heap.size w w'
/-- Two drawn pictures and two numbers; nothing that was there has turned. -/
def DrewQQ (w : World) (e : Ending) (w' : World) : Prop :=
  ∃ a c P, ∃ x : Int, ∃ a' c' Q, ∃ y : Int, e = .returned (.tuple #[.slice a (P : List (List Int)).length c, .int .i64 x, .slice a' (Q : List (List Int)).length c', .int .i64 y]) ∧ RdII w' w.heap.size w'.heap.size a P ∧ P.length ≤ 5 ∧
    RdII w' w.heap.size w'.heap.size a' Q ∧ Q.length ≤ 5 ∧ Below w.heap.size w w'
theorem results_4 {fn : Func} {t u v x : Tmp} (h : fn.results = #[.tmp t, .tmp u, .tmp v, .tmp x]) (tmps : Array Value) (P : Program) (w : World) :
    (results fn tmps).run P w = .ok (.tuple #[tmps.getD t undef, tmps.getD u undef, tmps.getD v undef, tmps.getD x undef]) w := by
  simp [results, h]
end Go.Hyp
namespace Go.Proofs.YtiiohodkfipfbaaDoor
open Go.RowKit Go.Hyp Go.Deep

set_option maxRecDepth 4000 in
set_option maxHeartbeats 800000 in
theorem drawLeastOf_any (a : Option Addr) (cap : Nat) (l : List Int) (w : World) (h : RdB w w.heap.size a l) (hl : l.length ≤ maxLen) (hcap : l.length ≤ cap) :
    Calls Tryd.prog 38 #[.slice a l.length cap] w (DrewPN w) := by
  have HB := Lib.hid h
  clear h
  go_enter Tryd.func38, Tryd.ntmps38
  go_wp2_with fail
  refine (open_any a cap l _ HB.out hl hcap).mono ?_
  rintro e w1 ⟨l', rfl, hr1, hb1, hz1⟩
  have HR1 := Lib.hid hr1
  have HH1 := Lib.hid hb1
  have hz1' : w.heap.size + 1 ≤ w1.heap.size := by omega
  clear hr1 hb1 hz1
  go_wp2_with fail
  refine (l20Twin_any _ l' 0 12 w1 HR1.out (by omega) (by omega)).mono ?_
  rintro e w2 ⟨a2, c2, P, rfl, hrd, _, h5, h6, ⟨p2, _, hp2, hr2⟩, hc2⟩
  have HRD := Lib.hid hrd
  have HR2 := Lib.hid hr2
  have HC2 := Lib.hid hc2
  have hz2 : w1.heap.size ≤ w2.heap.size := hc2.size
  clear hrd h6 hr2 hc2 HR1
  go_wp2_with fail
  refine (pick_rdr _ l' (p2) 4 w2 HR2.out (by omega) (by omega)).mono ?_
  rintro e w3 ⟨x, rfl, x0, x1, hr3, hc3, hz3⟩
  have HR3 := Lib.hid hr3
  have HC3 := Lib.hid hc3
  clear hr3 hc3 hz3 HR2
  go_wp2_with fail
  refine (pick_rdr _ l' (p2 + 1) 20 w3 HR3.out (by omega) (by omega)).mono ?_
  rintro e w4 ⟨z, rfl, z0, z1, hr4, hc4, hz4⟩
  have HR4 := Lib.hid hr4
  have HC4 := Lib.hid (HC3.out.trans hc4)
  have hq : 0 ≤ z / 19 ∧ z / 19 ≤ 1 := by omega
  obtain ⟨hq0, hq1⟩ := hq
  have HRD4 := Lib.hid (HRD.out.agr (HC4.out.agr (Nat.le_refl _) (fun k h1 h2 h3 => by omega)))
  have HH4 := Lib.hid ((HH1.out.trans (HC2.out.below (D := w.heap.size) (fun k hk => by omega) (by omega))).trans (HC4.out.below (D := w.heap.size) (fun k hk => by omega) (by omega)))
  have hz4' : w2.heap.size ≤ w4.heap.size := HC4.out.size
  clear hr4 hc4 hz4 HR4 HRD
  go_wp2_with fail
  go_ret2
  exact ⟨a2, c2, P, _, rfl, HRD4.out.mono (by omega) hz4', h5, HH4.out⟩

set_option maxRecDepth 4000 in
set_option maxHeartbeats 800000 in
theorem drawManyIn_any (a : Option Addr) (cap : Nat) (l : List Int) (w : World) (h : RdB w w.heap.size a l) (hl : l.length ≤ maxLen) (hcap : l.length ≤ cap) :
    Calls Tryd.prog 19 #[.slice a l.length cap] w (DrewPN w) := by
  have HB := Lib.hid h
  clear h
  go_enter Tryd.func19, Tryd.ntmps19
  go_wp2_with fail
  refine (open_any a cap l _ HB.out hl hcap).mono ?_
  rintro e w1 ⟨l', rfl, hr1, hb1, hz1⟩
  have HR1 := Lib.hid hr1
  have HH1 := Lib.hid hb1
  have hz1' : w.heap.size + 1 ≤ w1.heap.size := by omega
  clear hr1 hb1 hz1
  go_wp2_with fail
  refine (l20Twin_any _ l' 0 12 w1 HR1.out (by omega) (by omega)).mono ?_
  rintro e w2 ⟨a2, c2, P, rfl, hrd, _, h5, h6, ⟨p2, _, hp2, hr2⟩, hc2⟩
  have HRD := Lib.hid hrd
  have HR2 := Lib.hid hr2
  have HC2 := Lib.hid hc2
  have hz2 : w1.heap.size ≤ w2.heap.size := hc2.size
  clear hrd h6 hr2 hc2 HR1
  have hmx : max (P.length : Int) 1 = ((max P.length 1 : Nat) : Int) := by omega
  have hmx2 : (if (1 : Int) > (P.length : Int) then 1 else (P.length : Int)) = ((max P.length 1 : Nat) : Int) := by split <;> omega
  have hmb : max P.length 1 ≤ 5 := by omega
  obtain ⟨M, hM⟩ : ∃ M, M = max P.length 1 := ⟨_, rfl⟩
  rw [← hM] at hmx hmx2 hmb
  clear hM
  go_wp2_with fail
  refine (pick_rdr _ l' (p2) M w2 HR2.out (by omega) (by omega)).mono ?_
  rintro e w3 ⟨x, rfl, x0, x1, hr3, hc3, hz3⟩
  have HR3 := Lib.hid hr3
  have HC3 := Lib.hid hc3
  clear hr3 hc3 hz3 HR2 hmx hmx2
  go_wp2_with fail
  refine (pick_rdr _ l' (p2 + 1) 20 w3 HR3.out (by omega) (by omega)).mono ?_
  rintro e w4 ⟨z, rfl, z0, z1, hr4, hc4, hz4⟩
  have HR4 := Lib.hid hr4
  have HC4 := Lib.hid (HC3.out.trans hc4)
  have hq : 0 ≤ z / 19 ∧ z / 19 ≤ 1 := by omega
  obtain ⟨hq0, hq1⟩ := hq
  have HRD4 := Lib.hid (HRD.out.agr (HC4.out.agr (Nat.le_refl _) (fun k h1 h2 h3 => by omega)))
  have HH4 := Lib.hid ((HH1.out.trans (HC2.out.below (D := w.heap.size) (fun k hk => by omega) (by omega))).trans (HC4.out.below (D := w.heap.size) (fun k hk => by omega) (by omega)))
  have hz4' : w2.heap.size ≤ w4.heap.size := HC4.out.size
  clear hr4 hc4 hz4 HR4 HRD
  go_wp2_with fail
  go_ret2
  exact ⟨a2, c2, P, _, rfl, HRD4.out.mono (by omega) hz4', h5, HH4.out⟩

set_option maxRecDepth 4000 in
set_option maxHeartbeats 800000 in
theorem drawSystemOf_any (a : Option Addr) (cap : Nat) (l : List Int) (w : World) (h : RdB w w.heap.size a l) (hl : l.length ≤ maxLen) (hcap : l.length ≤ cap) :
    Calls Tryd.prog 11 #[.slice a l.length cap] w (DrewP0 w) := by
  have HB := Lib.hid h
  clear h
  go_enter Tryd.func11, Tryd.ntmps11
  go_wp2_with fail
  refine (open_any a cap l _ HB.out hl hcap).mono ?_
  rintro e w1 ⟨l', rfl, hr1, hb1, hz1⟩
  have HR1 := Lib.hid hr1
  have HH1 := Lib.hid hb1
  have hz1' : w.heap.size + 1 ≤ w1.heap.size := by omega
  clear hr1 hb1 hz1
  go_wp2_with fail
  refine (l20Twin_any _ l' 0 9 w1 HR1.out (by omega) (by omega)).mono ?_
  rintro e w2 ⟨a2, c2, P, rfl, hrd, _, h5, h6, ⟨p2, _, hp2, hr2⟩, hc2⟩
  have HRD := Lib.hid hrd
  have HR2 := Lib.hid hr2
  have HC2 := Lib.hid hc2
  have hz2 : w1.heap.size ≤ w2.heap.size := hc2.size
  clear hrd h6 hr2 hc2 HR1
  go_wp2_with fail
  go_ret
  exact ⟨a2, c2, P, rfl, HRD.out.mono (by omega) (Nat.le_refl _), h5, HH1.out.trans (HC2.out.below (D := w.heap.size) (fun k hk => by omega) (by omega))⟩

set_option maxRecDepth 4000 in
set_option maxHeartbeats 800000 in
theorem drawLeastOk_any (a : Option Addr) (cap : Nat) (l : List Int) (w : World) (h : RdB w w.heap.size a l) (hl : l.length ≤ maxLen) (hcap : l.length ≤ cap) :
    Calls Tryd.prog 36 #[.slice a l.length cap] w (DrewP0 w) := by
  have HB := Lib.hid h
  clear h
  go_enter Tryd.func36, Tryd.ntmps36
  go_wp2_with fail
  refine (open_any a cap l _ HB.out hl hcap).mono ?_
  rintro e w1 ⟨l', rfl, hr1, hb1, hz1⟩
  have HR1 := Lib.hid hr1
  have HH1 := Lib.hid hb1
  have hz1' : w.heap.size + 1 ≤ w1.heap.size := by omega
  clear hr1 hb1 hz1
  go_wp2_with fail
  refine (l20Twin_any _ l' 0 9 w1 HR1.out (by omega) (by omega)).mono ?_
  rintro e w2 ⟨a2, c2, P, rfl, hrd, _, h5, h6, ⟨p2, _, hp2, hr2⟩, hc2⟩
  have HRD := Lib.hid hrd
  have HR2 := Lib.hid hr2
  have HC2 := Lib.hid hc2
  have hz2 : w1.heap.size ≤ w2.heap.size := hc2.size
  clear hrd h6 hr2 hc2 HR1
  go_wp2_with fail
  refine (pick_rdr _ l' (p2) 2 w2 HR2.out (by omega) (by omega)).mono ?_
  rintro e w3 ⟨x, rfl, x0, x1, hr3, hc3, hz3⟩
  have HR3 := Lib.hid hr3
  have HC3 := Lib.hid hc3
  have HRD3 := Lib.hid (HRD.out.agr (hc3.agr (Nat.le_refl _) (fun k h1 h2 h3 => by omega)))
  have HH3 := Lib.hid ((HH1.out.trans (HC2.out.below (D := w.heap.size) (fun k hk => by omega) (by omega))).trans (hc3.below (D := w.heap.size) (fun k hk => by omega) (by omega)))
  have hz3' : w2.heap.size ≤ w3.heap.size := by omega
  have hm : Hid (P.length ≤ maxLen) := Lib.hid (by unfold maxLen; omega)
  clear hr3 hc3 hz3 HR2 HRD
  obtain rfl | rfl : x = 0 ∨ x = 1 := by omega
  · go_wp2_with fail
    refine (specLeastOf_any a2 c2 P 0 w3 _ _ HRD3.out hz3' hm.out).mono ?_
    rintro e w4 ⟨y, d, rfl, ho, hb⟩
    have HO := Lib.hid ho.rd
    have HH4 := Lib.hid (HH3.out.trans (hb.mono (by omega)))
    have hz4 : w.heap.size ≤ w3.heap.size := by omega
    clear ho hb
    go_wp2_with fail
    go_ret
    exact ⟨y, d, leastR P 0, rfl, HO.out.mono hz4 (Nat.le_refl _), leastR_len, HH4.out⟩
  · go_wp2_with fail
    go_ret
    exact ⟨a2, c2, P, rfl, HRD3.out.mono (by omega) hz3', h5, HH3.out⟩

end Go.Proofs.YtiiohodkfipfbaaDoor
