/- Walks of the functions that shorten streams. -/
import Derived.Deep.RegionLaw
import Derived.Deep.Cut
import Derived.Test.YtfjodcfbhpglhaaM3
import Derived.Test.YtfjodcfbhpglhaaM1
namespace Go.Hyp
open Go.RowKit Go.Deep
theorem RdI.drop {w : World} {B C : Nat} {b off : Nat} {l : List Int} (h : RdI w B C (some ⟨b, off, none⟩) l) (n : Nat) : RdI w B C (some ⟨b, off + n, none⟩) (l.drop n) := by
  intro i hi
  rw [List.length_drop] at hi
  obtain ⟨b', off', e, h1, h2, h3⟩ := h (n + i) (by omega)
  cases e
  refine ⟨b, off + n, rfl, h1, h2, ?_⟩
  rw [Nat.add_assoc, h3]
  simp [List.getD]
theorem RdI.take {w : World} {B C : Nat} {a : Option Addr} {l : List Int} (h : RdI w B C a l) (n : Nat) : RdI w B C a (l.take n) := by
  intro i hi
  rw [List.length_take] at hi
  obtain ⟨b', off', e, h1, h2, h3⟩ := h i (by omega)
  refine ⟨b', off', e, h1, h2, ?_⟩
  rw [h3]
  have hin : i < n := by omega
  simp only [List.getD, List.getElem?_take, if_pos hin]
theorem slice_len' {a : Option Addr} {c n m : Nat} (h : m = n) : Value.slice a m c = Value.slice a n c := by rw [h]
theorem blk_agr {w w' : World} {k : Nat} {x : Obj} {B C : Nat} (h : Agr B C w w') (hk : w.heap[k]? = some x) (h1 : B ≤ k) (h2 : k < C) : w'.heap[k]? = some x := by rw [h k h1 h2, hk]
theorem OwI.take {w : World} {E B C cap : Nat} {a : Option Addr} {l : List Int} (h : OwI w E B C a cap l) (n : Nat) : OwI w E B C a cap (l.take n) := by
  rcases h with ⟨h1, rfl, h2⟩ | ⟨g, f, e, h1, h2, hr, hl, hm, hf⟩
  · exact .inl ⟨h1, by simp, h2⟩
  · refine .inr ⟨g, f, e, h1, h2, hr, by simp; omega, hm, fun i hi => ?_⟩
    rw [List.length_take] at hi
    have hin : i < n := by omega
    rw [hf i (by omega)]
    simp only [List.getD, List.getElem?_take, if_pos hin]
def lenOf : Value → Nat
  | .slice _ n _ => n
  | _ => 0
theorem OwI.at0 {w : World} {E B C cap : Nat} {a : Option Addr} {l : List Int} (h : OwI w E B C a cap l) (h0 : 0 < l.length) : ∃ g, a = some ⟨g, 0, none⟩ ∧ B ≤ g ∧ g < C ∧ l.length ≤ cap ∧ cap ≤ maxLen ∧ g < w.heap.size := by
  rcases h with ⟨_, rfl, _⟩ | ⟨g, f, e, h1, h2, hr, hl, hm, hf⟩
  · simp at h0
  · exact ⟨g, e, h1, h2, hl, hm, hr.lt⟩
end Go.Hyp
namespace Go.Proofs.Ytfjodcfbhpglhaa
open Go.RowKit Go.Hyp Go.Deep

end Go.Proofs.Ytfjodcfbhpglhaa
