/- Walks of the functions by which the laws draw streams: what comes is a pair of short slices of numbers. Drawn systems with numbers: DrawAlikeNames, DrawNameIs, DrawSolvedBy. -/
import Derived.Deep.RegionHeld3
import Derived.Deep.RegionLaw
import Derived.Deep.Cut
import Derived.Test.YtfjodcfbhpglhaaM4
import Derived.Test.YtfjodcfbhpglhaaM3
import Derived.Test.YtfjodcfbhpglhaaM5
namespace Go.Proofs.Ytfjodcfbhpglhaa
open Go.RowKit Go.Hyp Go.Deep

set_option maxHeartbeats 400000 in
theorem alive_any (w : World) : Calls Try.prog 20 #[] w fun e w' => e = .returned (.bool true) ∧ w = w' := by
  go_enter Try.func20, Try.ntmps20
  go_wp2
  go_ret
  exact ⟨ret_bool (by decide), rfl⟩
end Go.Proofs.Ytfjodcfbhpglhaa
namespace Go.Hyp
open Go.RowKit Go.Deep
/-- A drawn system; nothing that was there has turned. -/
def DrewYs (w : World) (e : Ending) (w' : World) : Prop :=
  ∃ a c s, e = .returned (.slice a (s : List (List Int × Int)).length c) ∧ RdY w' w.heap.size w'.heap.size a s ∧ s.length ≤ 3 ∧ (∀ x ∈ s, x.1.length ≤ 3) ∧ Below w.heap.size w w'
/-- A drawn system and a number. -/
def DrewYN (w : World) (e : Ending) (w' : World) : Prop :=
  ∃ a c s, ∃ x : Int, e = .returned (.tuple #[.slice a (s : List (List Int × Int)).length c, .int .i64 x]) ∧ RdY w' w.heap.size w'.heap.size a s ∧ s.length ≤ 3 ∧ (∀ x ∈ s, x.1.length ≤ 3) ∧ Below w.heap.size w w'
/-- A drawn system and two numbers. -/
def DrewYNN (w : World) (e : Ending) (w' : World) : Prop :=
  ∃ a c s, ∃ x y : Int, e = .returned (.tuple #[.slice a (s : List (List Int × Int)).length c, .int .i64 x, .int .i64 y]) ∧ RdY w' w.heap.size w'.heap.size a s ∧ s.length ≤ 3 ∧ (∀ x ∈ s, x.1.length ≤ 3) ∧ Below w.heap.size w w'
end Go.Hyp
namespace Go.Proofs.Ytfjodcfbhpglhaa
open Go.RowKit Go.Hyp Go.Deep

set_option maxRecDepth 4000 in
set_option maxHeartbeats 800000 in
theorem drawSolvedBy_any (a : Option Addr) (cap : Nat) (l : List Int) (w : World) (h : RdB w w.heap.size a l) (hl : l.length ≤ maxLen) (hcap : l.length ≤ cap) :
    Calls Try.prog 15 #[.slice a l.length cap] w (DrewYs w) := by
  have HB := Lib.hid h
  clear h
  go_enter Try.func15, Try.ntmps15
  go_wp2_with fail
  refine (open_any a cap l _ HB.out hl hcap).mono ?_
  rintro e w1 ⟨l', rfl, hr1, hb1, hz1⟩
  have HR1 := Lib.hid hr1
  have HH1 := Lib.hid hb1
  have hz1' : w.heap.size + 1 ≤ w1.heap.size := by omega
  clear hr1 hb1 hz1
  go_wp2_with fail
  refine (l20System_any _ l' 0 9 w1 HR1.out (by omega) (by omega)).mono ?_
  rintro e w2 ⟨a2, c2, s, rfl, hrd, hs3, hn3, ⟨p2, _, hp2, hr2⟩, hc2⟩
  have HRD := Lib.hid hrd
  have HN := Lib.hid hn3
  have HR2 := Lib.hid hr2
  have HC2 := Lib.hid hc2
  have hz2 : w1.heap.size ≤ w2.heap.size := hc2.size
  clear hrd hr2 hc2 hn3 HR1
  go_wp2_with fail
  go_ret
  exact ⟨a2, c2, s, rfl, HRD.out.mono (by omega) (Nat.le_refl _), hs3, HN.out, HH1.out.trans (HC2.out.below (D := w.heap.size) (fun k hk => by omega) (by omega))⟩
end Go.Proofs.Ytfjodcfbhpglhaa
