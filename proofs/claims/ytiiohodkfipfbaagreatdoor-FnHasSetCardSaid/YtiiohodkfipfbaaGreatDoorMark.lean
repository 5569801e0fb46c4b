/- The laws' marks: numbers written into owned memory, and found there again. -/
import Derived.Test.YtiiohodkfipfbaaGreatDoorInt
namespace Go.Hyp
open Go.RowKit Go.Deep

/-- k, k + 1 and so on, n of them. -/
def marks (k n : Nat) : List Int := (List.range n).map fun i => ((k + i : Nat) : Int)
theorem marks_len (k n : Nat) : (marks k n).length = n := by simp [marks]
theorem marks_get (k n i : Nat) (h : i < (marks k n).length) : (marks k n)[i] = ((k + i : Nat) : Int) := by simp [marks]
theorem OwI.setAt {w : World} {E B C g cap : Nat} {l : List Int} (h : OwI w E B C (some ⟨g, 0, none⟩) cap l) (i : Nat) (hi : i < l.length) (v : Int) : OwI (w.setCell ⟨g, i, none⟩ (.int .i64 v)) E B C (some ⟨g, 0, none⟩) cap (l.set i v) := by
  rcases h with ⟨e, _⟩ | ⟨g', f, e, h1, h2, hr, hl, hm, hf⟩
  · cases e
  · cases e
    refine .inr ⟨g, _, rfl, h1, h2, hr.set i _, by simpa using hl, hm, fun j hj => ?_⟩
    rw [List.length_set] at hj
    by_cases e : j = i
    · subst e; simp [List.getD, hj]
    · rw [if_neg e, hf j hj]
      have e' : ¬ i = j := fun h => e h.symm
      simp [List.getD, e']
theorem OwI.cells {w : World} {E B C cap : Nat} {a : Option Addr} {l : List Int} (h : OwI w E B C a cap l) (i : Nat) (hi : i < l.length) : ∃ g, a = some ⟨g, 0, none⟩ ∧ B ≤ g ∧ g < C ∧ w.cell? ⟨g, i, none⟩ = some (.int .i64 l[i]) ∧ w.frozen? ⟨g, i, none⟩ = false ∧ g < w.heap.size := by
  rcases h with ⟨_, rfl, _⟩ | ⟨g, f, e, h1, h2, hr, hl, hm, hf⟩
  · simp at hi
  · exact ⟨g, e, h1, h2, by rw [hr.cell (by omega), hf i hi]; simp [List.getD, hi], hr.frozen i, hr.lt⟩
/-- Owned memory stays where nothing turned in its block. -/
theorem OwI.keep {S : Nat → Prop} {w w' : World} {E B C cap : Nat} {a : Option Addr} {l : List Int} (h : OwI w E B C a cap l) (hc : Chg S w w') (hS : ∀ b, blockOf a = some b → ¬ S b) : OwI w' E B C a cap l := by
  rcases h with h | ⟨g, f, e, h1, h2, hr, r⟩
  · exact .inl h
  · subst e
    exact .inr ⟨g, f, rfl, h1, h2, hr.of_block (hc.block g hr.lt (hS g rfl)), r⟩
theorem Dis.blocks {a a' : Option Addr} (h : Dis a a') (b : Nat) (h1 : blockOf a = some b) (h2 : blockOf a' = some b) : False := by
  cases a with
  | none => simp [blockOf] at h1
  | some x =>
    cases a' with
    | none => simp [blockOf] at h2
    | some y =>
      simp [blockOf] at h1 h2
      exact h x y rfl rfl (h1.trans h2.symm)
theorem Chg.wide {S T : Nat → Prop} {w w' : World} (h : Chg S w w') (hT : ∀ k, S k → T k) : Chg T w w' := ⟨h.os, h.tape, h.output, h.size, fun k hk hn => h.block k hk (fun hs => hn (hT k hs))⟩
end Go.Hyp
namespace Go.Proofs.YtiiohodkfipfbaaGreatDoor
open Go.RowKit Go.Hyp Go.Deep


end Go.Proofs.YtiiohodkfipfbaaGreatDoor
