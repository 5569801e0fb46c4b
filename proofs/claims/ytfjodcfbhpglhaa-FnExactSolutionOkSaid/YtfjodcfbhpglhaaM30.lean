/- The search for the least picture: impl.leastOf's closure. UNDER WAY: the walk is not done. -/
import Derived.Deep.RegionHeld3
import Derived.Test.YtfjodcfbhpglhaaM13
import Derived.Test.YtfjodcfbhpglhaaM28
import Derived.Test.YtfjodcfbhpglhaaM12
import Derived.Test.YtfjodcfbhpglhaaM29
import Derived.Test.YtfjodcfbhpglhaaM3
namespace Go.Hyp
open Go.RowKit Go.Deep
/-- What stands in memory while orders are tried: the joined picture's cell jb, the best one's bb, the order's ob, the closure's fb; X the joined picture (below jb), o the order so far (its block g is no cell's and lies outside the best picture), b the best picture. -/
def PlaceSt (E R S T f jb bb ob fb BX CX : Nat) (X : List (List Int)) (o : List Int) (b : List (List Int)) (w : World) : Prop :=
  ∃ ja jc ba bc g oc Bb Cb, w.heap[jb]? = some (.cells #[.slice ja X.length jc] S (0, 0)) ∧ w.heap[bb]? = some (.cells #[.slice ba X.length bc] S (0, 0)) ∧ w.heap[ob]? = some (.cells #[.slice (some ⟨g, 0, none⟩) o.length oc] R (0, 0)) ∧
    w.heap[fb]? = some (.cells #[.func (.func f) #[] #[.pointer (some ⟨ob, 0, none⟩), .pointer (some ⟨jb, 0, none⟩), .pointer (some ⟨bb, 0, none⟩), .pointer (some ⟨fb, 0, none⟩)]] T (0, 0)) ∧
    RdII w BX CX ja X ∧ CX ≤ jb ∧ OwII w E R Bb Cb ba bc b ∧ Cb ≤ w.heap.size ∧ (Cb ≤ jb ∨ fb < Bb) ∧ OwI w E (bb + 1) w.heap.size (some ⟨g, 0, none⟩) oc o ∧ g ≠ ob ∧ g ≠ fb ∧ (g < Bb ∨ Cb ≤ g) ∧ jb < bb ∧ bb < ob ∧ ob < fb ∧ BX ≤ Bb
theorem grown_agr {w w1 : World} {o : Obj} {g B C : Nat} (hg : (w.alloc o).grownBy w1 (some g)) (h : g < B ∨ C ≤ g) (hC : C ≤ w.heap.size) : Agr B C w w1 :=
  fun k h1 h2 => (hg.block k (by simp; omega) (fun e => by injection e with e; omega)).trans (Below.heap_alloc _ _ _ (by omega))
theorem grown_one {w w1 : World} {o x : Obj} {g k : Nat} (hg : (w.alloc o).grownBy w1 (some g)) (hb : w.heap[k]? = some x) (h : g ≠ k) : w1.heap[k]? = some x :=
  (hg.block k (by have := blk_lt hb; simp; omega) (fun e => by injection e with e; omega)).trans (blk_old hb)
theorem OwI.setOther {w : World} {E B C g cap k i : Nat} {l : List Int} {v : Value} (h : OwI w E B C (some ⟨g, 0, none⟩) cap l) (hk : g ≠ k) : OwI (w.setCell ⟨k, i, none⟩ v) E B C (some ⟨g, 0, none⟩) cap l :=
  h.keep (S := fun x => x = k) ((Chg.refl (fun x => x = k) w).set (.inl rfl) v) (fun b hb e => by simp [blockOf] at hb; omega)
end Go.Hyp
namespace Go.Proofs.Ytfjodcfbhpglhaa
open Go.RowKit Go.Hyp Go.Deep

end Go.Proofs.Ytfjodcfbhpglhaa
