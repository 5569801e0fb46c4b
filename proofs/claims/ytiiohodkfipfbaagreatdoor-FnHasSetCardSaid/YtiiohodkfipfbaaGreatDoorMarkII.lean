/- The laws' marks over rows of numbers. -/
import Derived.Test.YtiiohodkfipfbaaGreatDoorPic
import Derived.Test.YtiiohodkfipfbaaGreatDoorOwn
namespace Go.Hyp
open Go.RowKit Go.Deep
/-- Rows of marks, as long as those of p. -/
def marksII (K : Nat) (p : List (List Int)) : List (List Int) := (List.range p.length).map fun i => marks (K + lens (p.take i)) (p.getD i []).length
theorem marksII_len (K : Nat) (p : List (List Int)) : (marksII K p).length = p.length := by simp [marksII]
theorem marksII_get (K : Nat) (p : List (List Int)) (i : Nat) (h : i < (marksII K p).length) : (marksII K p)[i] = marks (K + lens (p.take i)) (p.getD i []).length := by simp [marksII]
/-- The first k rows marked. -/
def markUp (K : Nat) (p : List (List Int)) (k : Nat) : List (List Int) := (List.range p.length).map fun i => if i < k then marks (K + lens (p.take i)) (p.getD i []).length else p.getD i []
theorem markUp_len (K : Nat) (p : List (List Int)) (k : Nat) : (markUp K p k).length = p.length := by simp [markUp]
theorem markUp_getD (K : Nat) (p : List (List Int)) (k i : Nat) (h : i < p.length) : (markUp K p k).getD i [] = if i < k then marks (K + lens (p.take i)) (p.getD i []).length else p.getD i [] := by simp [markUp, List.getD, h]
theorem markUp_zero (K : Nat) (p : List (List Int)) : markUp K p 0 = p := by
  apply List.ext_getElem (by rw [markUp_len])
  intro i h1 h2
  simp [markUp, List.getD, h2]
theorem markUp_all (K : Nat) (p : List (List Int)) : markUp K p p.length = marksII K p := by
  unfold markUp marksII
  apply List.map_congr_left
  intro i hi
  rw [if_pos (by simpa using hi)]
theorem markUp_set (K : Nat) (p : List (List Int)) (k : Nat) (_h : k < p.length) : (markUp K p k).set k (marks (K + lens (p.take k)) (p.getD k []).length) = markUp K p (k + 1) := by
  apply List.ext_getElem (by simp [markUp_len])
  intro i h1 h2
  rw [List.getElem_set]
  have hi : i < p.length := by rw [markUp_len] at h2; exact h2
  have e1 := markUp_getD K p k i hi
  have e2 := markUp_getD K p (k + 1) i hi
  rw [List.getD, List.getElem?_eq_getElem (by rw [markUp_len]; exact hi)] at e1
  rw [List.getD, List.getElem?_eq_getElem h2] at e2
  simp only [Option.getD_some] at e1 e2
  rw [e1, e2]
  by_cases e : k = i
  · subst e; rw [if_pos rfl, if_pos (by omega)]
  · rw [if_neg e]
    by_cases h : i < k
    · rw [if_pos h, if_pos (by omega)]
    · rw [if_neg h, if_neg (by omega)]
/-- One row of owned rows rewritten in place. -/
theorem OwII.rowNew {w : World} {E R B C : Nat} {a : Option Addr} {cap : Nat} {p : List (List Int)} (h : OwII w E R B C a cap p) (i : Nat) (hi : i < p.length) :
    ∃ g ar cr, a = some ⟨g, 0, none⟩ ∧ g < w.heap.size ∧ w.cell? ⟨g, i, none⟩ = some (.slice ar (p.getD i []).length cr) ∧ OwI w E B C ar cr (p.getD i []) ∧
      ∀ w' l, OwI w' E B C ar cr l → l.length = (p.getD i []).length → Chg (fun b => blockOf ar = some b) w w' → OwII w' E R B C a cap (p.set i l) := by
  obtain ⟨ra, rc, h1, h2, h3, h4⟩ := h
  rcases h1 with ⟨_, h0, _⟩ | ⟨g, F, e, g1, g2, hr, hl, hm, hf⟩
  · omega
  · refine ⟨g, ra i, rc i, e, hr.lt, by rw [hr.cell (by omega), hf i hi], h2 i hi, fun w' l hl' hll hc => ?_⟩
    have hls : (p.set i l).length = p.length := by simp
    have eg : ∀ k, k < p.length → (p.set i l).getD k [] = if k = i then l else p.getD k [] := fun k hk => by
      unfold List.getD
      rw [List.getElem?_set]
      by_cases e : i = k
      · subst e; simp [hk]
      · rw [if_neg e, if_neg (fun h => e h.symm)]
    have hgb : ¬ blockOf (ra i) = some g := fun hb => (h4 i hi).blocks g (by rw [e]; rfl) hb
    refine ⟨ra, rc, .inr ⟨g, F, e, g1, g2, hr.of_block (hc.block g hr.lt hgb), by omega, hm, fun k hk => ?_⟩, fun k hk => ?_, fun k m hkm hm' => h3 k m hkm (by omega), fun k hk => h4 k (by omega)⟩
    · rw [hls] at hk
      rw [hf k hk]
      show Value.slice (ra k) (p.getD k []).length (rc k) = Value.slice (ra k) (List.getD _ k []).length (rc k)
      rw [eg k hk]
      by_cases e : k = i
      · subst e; rw [if_pos rfl, hll]
      · rw [if_neg e]
    · rw [hls] at hk
      rw [eg k hk]
      by_cases ek : k = i
      · subst ek; rw [if_pos rfl]; exact hl'
      · rw [if_neg ek]
        refine (h2 k hk).keep hc (fun b hb hs => ?_)
        rcases Nat.lt_or_gt_of_ne ek with hlt | hlt
        · exact (h3 k i hlt hi).blocks b hb hs
        · exact (h3 i k hlt hk).blocks b hs hb
theorem lens_take_succ (p : List (List Int)) (k : Nat) (h : k < p.length) : lens (p.take (k + 1)) = lens (p.take k) + (p.getD k []).length := by
  rw [lens_succ p k h]; simp [List.getD, h]
end Go.Hyp
namespace Go.Proofs.YtiiohodkfipfbaaGreatDoor
open Go.RowKit Go.Hyp Go.Deep

end Go.Proofs.YtiiohodkfipfbaaGreatDoor
