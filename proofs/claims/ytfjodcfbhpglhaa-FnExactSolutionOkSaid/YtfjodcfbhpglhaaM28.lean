/- The text of a picture, as the program makes it: impl.pictureText. -/
import Derived.Test.YtfjodcfbhpglhaaM3
import Derived.Test.YtfjodcfbhpglhaaM27
import Derived.Test.YtfjodcfbhpglhaaM7
import Derived.Test.YtfjodcfbhpglhaaM10
import Derived.Test.YtfjodcfbhpglhaaM19
namespace Go.Hyp
open Go.RowKit Go.Deep
/-- The text of some nodes. -/
def digs (A : List Int) : List UInt8 := A.map fun v => UInt8.ofNat (48 + v.toNat)
theorem digs_row (p : List (List Int)) (k n : Nat) : digs (arrL p k n) = rowT p k n := by
  unfold digs arrL rowT
  rw [List.map_map]
  exact List.map_congr_left fun x _ => by simp
theorem joinT_is : ∀ l : List (List UInt8), joinT l = Lib.join l [47] := by
  intro l
  induction l with
  | nil => rfl
  | cons r l ih =>
    cases l with
    | nil => rw [Lib.join_one]; rfl
    | cons s l =>
      have h1 : joinT (r :: s :: l) = r ++ 47 :: joinT (s :: l) := rfl
      rw [h1, ih, Lib.join_cons, Lib.join_cons]
      simp [Lib.joinTail]
theorem OwV_empty (w : World) (E : Nat) (f : Nat → Value) : OwV (w.alloc (.cells #[] E)) E w.heap.size (w.heap.size + 1) (some ⟨w.heap.size, 0, none⟩) 0 0 f :=
  .inr ⟨w.heap.size, fun _ => undef, rfl, Nat.le_refl _, Nat.lt_succ_self _, ⟨#[], alloc1 _ _, rfl, fun i hi => by omega⟩, Nat.le_refl _, by simp, fun i hi => by omega⟩
theorem OwV.fn {w : World} {E B C : Nat} {a : Option Addr} {cap n : Nat} {f g : Nat → Value} (h : OwV w E B C a cap n f) (e : ∀ i, i < n → f i = g i) : OwV w E B C a cap n g := by
  rcases h with h | ⟨b, F, h1, h2, h3, h4, h5, h6, h7⟩
  · exact .inl h
  · exact .inr ⟨b, F, h1, h2, h3, h4, h5, h6, fun i hi => (h7 i hi).trans (e i hi)⟩
theorem OwV.block_ge {w : World} {E B C k : Nat} {a : Option Addr} {cap n : Nat} {f : Nat → Value} (h : OwV w E B C a cap n f) (hk : blockOf a = some k) : B ≤ k := by
  rcases h with ⟨rfl, _⟩ | ⟨g, F, rfl, h1, _⟩
  · cases hk
  · cases hk; exact h1
/-- The rows' texts as strings. -/
def rowsS (p : List (List Int)) : List ByteArray := (List.range p.length).map fun i => ⟨(rowT p i p.length).toArray⟩
theorem rowsS_join (p : List (List Int)) : Lib.join ((rowsS p).map (·.data.toList)) ([47] : List UInt8) = textP p := by
  unfold textP textK rowsS
  rw [joinT_is, List.map_map]
  rfl
theorem OwV.cells {w : World} {E B C : Nat} {a : Option Addr} {cap : Nat} {p : List (List Int)} (h : OwV w E B C a cap p.length (fun i => .string ⟨(rowT p i p.length).toArray⟩)) (h1 : 1 ≤ p.length) :
    ∃ g, a = some ⟨g, 0, none⟩ ∧ g < C ∧ p.length ≤ cap ∧ ∀ (j : Nat) y, (rowsS p)[j]? = some y → w.cell? ⟨g, 0 + j, none⟩ = some (.string y) := by
  rcases h with ⟨_, h, _⟩ | ⟨g, F, e, h2, h3, h4, h5, _, h6⟩
  · omega
  · refine ⟨g, e, h3, h5, fun j y hy => ?_⟩
    unfold rowsS at hy
    rw [List.getElem?_map] at hy
    have hj : j < p.length := by
      rcases Nat.lt_or_ge j p.length with h | h
      · exact h
      · rw [List.getElem?_eq_none (by simpa using h)] at hy; cases hy
    rw [List.getElem?_range hj] at hy
    cases hy
    rw [Nat.zero_add, h4.cell (by omega), h6 j hj]
section
variable {P : Program}
/-- append of one string to strings that the call owns. -/
theorem wpList_appStr {E T : Nat} (hT : P.underlying T = some (.slice E)) (hE : (P.info? E).map (fun i => (i.zero, i.size, i.bytes)) = some (some (.string ⟨#[]⟩), 1, 16))
    (w : World) {ops : Array Oper} {rest : List Oper} {o : Oper} {a : Act} {Q : Exit → Act → World → Prop} (hgd : o.guard = none) (s x : Operand)
    (ho : o.op = .call { callee := .builtin .append, args := #[s, x], argTypes := #[T, T] }) (B C : Nat) (a0 : Option Addr) (cap n : Nat) (f : Nat → Value) (hs : a.eval s = .slice a0 n cap) (hown : OwV w E B C a0 cap n f)
    (hB : B ≤ w.heap.size) (ad : Addr) (v : ByteArray) (hx : a.eval x = .slice (some ad) 1 1) (hnew : w.cell? (ad.add 0) = some (.string v)) (hn : n ≤ 1048576) (g : Nat → Value) (hg1 : ∀ i, i < n → f i = g i) (hg2 : g n = .string v)
    (h : ∀ a1 cap' (w' : World), OwV w' E B w'.heap.size a1 cap' (n + 1) g → w.grownBy w' (blockOf a0) → (blockOf a1 = blockOf a0 ∨ blockOf a1 = some w.heap.size) →
      wpList P ops Q rest (a.put o.dst (.slice a1 (n + 1) cap')) w') : wpList P ops Q (o :: rest) a w := by
  refine wpList_plain hgd fun K hK => wp_appVs hT hE rfl (by omega) w s x ho B C a0 cap n f hs hown hB (some ad) 1 1 [.string v] hx rfl ?_ (fun e => by cases e) (by simp [Value.oneCell']) (by omega) ?_
  · intro ad' e j u hu
    cases e
    match j, hu with
    | 0, hu => simp at hu; subst hu; exact hnew
  · intro a1 cap' w' hv hg hb
    refine hK _ _ (h a1 cap' w' (hv.fn fun i hi => ?_) hg hb)
    by_cases e : i < n
    · rw [if_pos e]; exact hg1 i e
    · obtain rfl : i = n := by omega
      rw [if_neg e, hg2]; simp
end
end Go.Hyp
namespace Go.Proofs.Ytfjodcfbhpglhaa
open Go.RowKit Go.Hyp Go.Deep

end Go.Proofs.Ytfjodcfbhpglhaa
