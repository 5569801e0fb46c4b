/- The statement FnExactSolutionOk: for all arguments the law answers true, and its arguments read as they did. No condition. -/
import Derived.Test.YtfjodcfbhpglhaaM35
import Derived.Test.YtfjodcfbhpglhaaMExSolutionOk
namespace Go.Proofs.Ytfjodcfbhpglhaa
open Go.ChangeShapes Go.WideShapes Go.ChangeAt Go.RowKit Go.Hyp

theorem Try.own : ownKnob Try.prog.godebug = none := by kernel_rfl
theorem Try.laidOut : laidOutB Try.prog = true := by kernel_rfl
theorem Try.cellsInt : Try.prog.cellsOf 3 = 1 := by kernel_rfl
theorem Try.cellsRow : Try.prog.cellsOf 24 = 1 := by kernel_rfl
theorem Try.cellsRows : Try.prog.cellsOf 38 = 1 := by kernel_rfl
theorem Try.cellsSaid : Try.prog.cellsOf 47 = 2 := by kernel_rfl

set_option maxRecDepth 100000 in
theorem fnExactSolutionOk_lifted (os : Os) (started : os.Started) (H : Type) (enc : TypeId × Value → H) :
    ReturnsInHanded {} Try.checked os 3 .any (Rows.fnExactSolutionOkSpec.pre6 enc Try.prog Try.f3 Rows.fnExactSolutionOkRow.domain false) (Rows.fnExactSolutionOkSpec.post enc Try.prog Try.f3 false true false false) := by
  refine returnsInHanded_of_change (C := Try.checked) Try.own started (by kernel_rfl) Try.func3
    (ChangeSpec.witness6 (enc := enc) (C := Try.checked) false ⟨#[], #[.slice none 0 0, .slice none 0 0, .slice none 0 0], []⟩ 8 (by kernel_rfl) (by kernel_rfl) (by kernel_rfl) (by kernel_rfl)) ?_
  intro W base args ds gs before hval0 hW _ _
  have hval : ∀ (j : Nat) t v, Try.f3.params[j]? = some t → args[j]? = some v → Value.okWide Try.prog W .any base t v := hval0
  have hW' := hW
  obtain ⟨p, q, hA0, hV, rfl, _, _⟩ := hW
  have hA : DataW.TrodAll enc Try.prog W 0 (fun _ => true) true Try.f3.params.toList args.toList ds p := hA0
  rw [Try.params3] at hA hval
  obtain ⟨v0, v1, v2, d0, d1, d2, p0, p1, p2, rfl, rfl, rfl, h0, h1, h2⟩ := trodAll_three hA
  obtain ⟨rfl, rfl⟩ := trodVars_none hV
  clear hA0 hval0
  simp only [List.append_nil] at hW'
  have hlt0 : ∀ x ∈ p0, x.block < W.heap.size := fun x hx => hW'.lt x (by simp [hx])
  have hlt1 : ∀ x ∈ p1, x.block < W.heap.size := fun x hx => hW'.lt x (by simp [hx])
  have hlt2 : ∀ x ∈ p2, x.block < W.heap.size := fun x hx => hW'.lt x (by simp [hx])
  obtain ⟨a0, c0, l0, rfl, r0, k0⟩ := open_saids Try.underlying22 Try.underlying47 Try.cellsSaid rfl rfl rfl rfl Try.underlying24 Try.underlying3 Try.cellsRow Try.cellsInt (hval 0 22 v0 rfl rfl) h0
  obtain ⟨a1, c1, l1, rfl, r1, k1⟩ := open_pics Try.underlying23 Try.underlying38 Try.underlying24 Try.underlying3 Try.cellsRows Try.cellsRow Try.cellsInt (hval 1 23 v1 rfl rfl) h1
  obtain ⟨a2, c2, l2, rfl, r2, k2⟩ := open_sliceI Try.underlying24 Try.underlying3 Try.cellsInt (hval 2 24 v2 rfl rfl) h2
  refine (fnExactSolutionOk_any a0 c0 l0 a1 c1 l1 a2 c2 l2 W r0 k0 r1 k1 r2 k2).mono fun e W' ⟨he, hb⟩ => ?_
  subst he
  refine ⟨_, rfl, _, _, _, [], p0 ++ (p1 ++ p2), [], hW', ?_, ?_, rfl, hb.frame _, fun h => by cases h⟩
  · exact trodAll_mk1 (shut_bool Try.underlying4 true)
  · exact trodAll_mk3 (Below.trod Try.laidOut (by kernel_rfl) (of_decide_eq_true (by kernel_rfl)) h0 hb hlt0) (Below.trod Try.laidOut (by kernel_rfl) (of_decide_eq_true (by kernel_rfl)) h1 hb hlt1) (Below.trod Try.laidOut (by kernel_rfl) (of_decide_eq_true (by kernel_rfl)) h2 hb hlt2)

theorem fnExactSolutionOk_holds : Rows.FnExactSolutionOkSaid :=
  OpenClaim.holds_of_wide 3 Try.f3 rfl rfl rfl rfl rfl rfl rfl ⟨rfl, rfl, rfl, rfl, rfl⟩ rfl rfl rfl rfl rfl (by kernel_rfl) Try.func3 (by kernel_rfl)
    (of_decide_eq_true (by kernel_rfl)) (by unfold Func.isWrapper; rw [if_neg (of_decide_eq_false (by kernel_rfl))]; exact ⟨rfl, rfl⟩)
    (fun os started H enc _ => fnExactSolutionOk_lifted os started H enc)

end Go.Proofs.Ytfjodcfbhpglhaa
