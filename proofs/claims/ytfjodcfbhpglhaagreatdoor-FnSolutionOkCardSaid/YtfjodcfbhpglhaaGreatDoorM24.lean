/- Sentences as the laws' arguments: read, copied, measured, compared. Systems of pictures: impl.SystemOf, spec.SystemOf. -/
import Derived.Deep.RegionLaw
import Derived.Test.YtfjodcfbhpglhaaGreatDoorM3
import Derived.Test.YtfjodcfbhpglhaaGreatDoorM1
namespace Go.Hyp
open Go.RowKit Go.Deep

/-- A sentence's slice, under way: block g has n pairs of cells, of which the first k are in place, the names each in a block of their own from B on. -/
def PartY (w : World) (E T B g n : Nat) (s : List (List Int × Int)) (k : Nat) : Prop :=
  ∃ (ra : Nat → Option Addr) (rc : Nat → Nat) (G : Nat → Value), w.rowIs g T (n * 2) G ∧
    (∀ j, j < k → G (j * 2) = .slice (ra j) (s.getD j ([], 0)).1.length (rc j) ∧ G (j * 2 + 1) = .int .i64 (s.getD j ([], 0)).2) ∧
    (∀ j, j < k → OwI w E B w.heap.size (ra j) (rc j) (s.getD j ([], 0)).1) ∧ (∀ i j, i < j → j < k → Dis (ra i) (ra j))
theorem PartY.start {w : World} {E T B g n : Nat} {s : List (List Int × Int)} {G : Nat → Value} (h : w.rowIs g T (n * 2) G) : PartY w E T B g n s 0 :=
  ⟨fun _ => none, fun _ => 0, G, h, fun j hj => by omega, fun j hj => by omega, fun i j _ hj => by omega⟩
theorem PartY.cells {w : World} {E T B g n : Nat} {s : List (List Int × Int)} {k : Nat} (h : PartY w E T B g n s k) (hk : k < n) :
    (∃ v, w.cell? ⟨g, k * 2, none⟩ = some v) ∧ (∃ v, w.cell? ⟨g, k * 2 + 1, none⟩ = some v) ∧ (∀ o, w.frozen? ⟨g, o, none⟩ = false) ∧ g < w.heap.size := by
  obtain ⟨ra, rc, G, h1, _⟩ := h
  exact ⟨⟨_, h1.cell (by omega)⟩, ⟨_, h1.cell (by omega)⟩, h1.frozen, h1.lt⟩
theorem PartY.below {w w1 : World} {E T B g n : Nat} {s : List (List Int × Int)} {k : Nat} (h : PartY w E T B g n s k) (hb : Below w.heap.size w w1) : PartY w1 E T B g n s k := by
  obtain ⟨ra, rc, G, h1, h2, h3, h4⟩ := h
  exact ⟨ra, rc, G, h1.of_block (hb.block g h1.lt), h2, fun j hj => ((h3 j hj).agr (agr_below hb (Nat.le_refl _))).mono (Nat.le_refl _) hb.size, h4⟩
theorem PartY.step {w w1 : World} {E T B g n : Nat} {s : List (List Int × Int)} {k : Nat} {a' : Option Addr} {c' : Nat} {l : List Int} {c : Int} (h : PartY w E T B g n s k) (hb : Below w.heap.size w w1)
    (ho : OwI w1 E w.heap.size w1.heap.size a' c' l) (hl : l = (s.getD k ([], 0)).1) (hc : c = (s.getD k ([], 0)).2) (hg : g < B) (hB : B ≤ w.heap.size) :
    PartY ((w1.setCell ⟨g, k * 2, none⟩ (.slice a' l.length c')).setCell ⟨g, k * 2 + 1, none⟩ (.int .i64 c)) E T B g n s (k + 1) := by
  subst hl hc
  obtain ⟨ra, rc, G, h1, h2, h3, h4⟩ := h
  have hgw := h1.lt
  have hA : ∀ lo hi, g < lo → Agr lo hi w1 ((w1.setCell ⟨g, k * 2, none⟩ (.slice a' (s.getD k ([], 0)).1.length c')).setCell ⟨g, k * 2 + 1, none⟩ (.int .i64 (s.getD k ([], 0)).2)) := fun lo hi hlo => ((Agr.refl _ _ _).set (by left; exact hlo) _).set (by left; exact hlo) _
  refine ⟨fun j => if j = k then a' else ra j, fun j => if j = k then c' else rc j, _, ((h1.of_block (hb.block g hgw)).set (k * 2) _).set (k * 2 + 1) _, fun j hj => ?_, fun j hj => ?_, fun i j hij hj => ?_⟩
  · by_cases e : j = k
    · subst e; simp
    · have n1 : ¬ j * 2 = k * 2 + 1 := by omega
      have n2 : ¬ j * 2 = k * 2 := by omega
      have n3 : ¬ j * 2 + 1 = k * 2 + 1 := by omega
      have n4 : ¬ j * 2 + 1 = k * 2 := by omega
      simp only [if_neg e, if_neg n1, if_neg n2, if_neg n3, if_neg n4]
      exact h2 j (by omega)
  · simp only [World.size_setCell]
    by_cases e : j = k
    · subst e
      simp only [if_true]
      exact (ho.agr (hA _ _ (by omega))).mono hB (Nat.le_refl _)
    · simp only [if_neg e]
      exact ((h3 j (by omega)).agr (fun k' k1 k2 => (hA B w.heap.size hg k' k1 k2).trans (hb.block k' k2))).mono (Nat.le_refl _) hb.size
  · by_cases e : j = k
    · subst e
      simp only [if_true, if_neg (show i ≠ j by omega)]
      exact (h3 i hij).dis ho (Nat.le_refl _)
    · simp only [if_neg e, if_neg (show i ≠ k by omega)]
      exact h4 i j hij (by omega)
theorem PartY.done {w : World} {E T g n : Nat} {s : List (List Int × Int)} (h : PartY w E T (g + 1) g n s s.length) (hn : n = s.length) (hm : n ≤ maxLen) : OwY w E T g w.heap.size (some ⟨g, 0, none⟩) n s := by
  subst hn
  obtain ⟨ra, rc, G, h1, h2, h3, h4⟩ := h
  refine ⟨ra, rc, .inr ⟨g, G, rfl, Nat.le_refl _, h1.lt, h1, Nat.le_refl _, hm, h2⟩, fun i hi => (h3 i hi).mono (Nat.le_succ _) (Nat.le_refl _), h4, ?_⟩
  intro i hi x y hx hy
  cases hx
  rcases h3 i hi with ⟨e, _⟩ | ⟨g', f', e, b1, b2, _⟩
  · rw [e] at hy; cases hy
  · rw [e] at hy; cases hy
    show g ≠ g'; omega

/-- make of pairs. -/
theorem run_make_two {P : Program} (t e : Nat) (z : Value) (bytes : Nat) (ht : P.underlying t = some (.slice e)) (hinfo : (P.info? e).map (fun i => (i.zero, i.size, i.bytes)) = some (some z, 2, bytes))
    (kl kc : IntKind) (n : Nat) (hbytes : bytes * n ≤ 281474976710656) (h63 : n ≤ 9223372036854775807) (w : World) :
    (Instr.makeSlice t (.int kl (n : Int)) (.int kc (n : Int))).run P w = .ok (.slice (some ⟨w.heap.size, 0, none⟩) n n) (w.alloc (.cells (madeCells z.cells (n * 2)) e)) := by
  obtain ⟨i, hi, hz, hs, hb⟩ := info_parts hinfo
  subst hb
  have hb' : (i.bytes : Int) * (n : Int) ≤ 281474976710656 := by
    have h : ((i.bytes * n : Nat) : Int) ≤ 281474976710656 := Int.ofNat_le.2 hbytes
    rwa [Int.natCast_mul] at h
  have hr := run_make (P := P) w t e i z ht hi hz kl kc n n (by omega) (Int.le_refl _) hb' (by omega)
  simp only [Int.toNat_natCast, hs] at hr
  exact hr
theorem rowIs_any (w : World) (z : Array Value) (n : Nat) (t : Nat) : (w.alloc (.cells (madeCells z n) t)).rowIs w.heap.size t n (fun i => (madeCells z n).toList.getD i undef) :=
  ⟨_, alloc1 _ _, size_madeCells _ _, fun i hi => by
    have h : i < (madeCells z n).size := by rw [size_madeCells]; exact hi
    simp [List.getD, h]⟩

def RetY (E T : Nat) (s : List (List Int × Int)) (w : World) (e : Ending) (w' : World) : Prop :=
  ∃ a cap, e = .returned (.slice a s.length cap) ∧ OwY w' E T w.heap.size w'.heap.size a cap s ∧ Below w.heap.size w w'
/-- All numbers of a system's names. -/
def lensY (s : List (List Int × Int)) : Nat := lens (s.map Prod.fst)
theorem lensY_succ (s : List (List Int × Int)) (k : Nat) (h : k < s.length) : lensY (s.take (k + 1)) = lensY (s.take k) + s[k].1.length := by
  have := lens_succ (s.map Prod.fst) k (by simpa using h)
  simpa [lensY, List.map_take] using this
theorem lensY_le (s : List (List Int × Int)) (k : Nat) : lensY (s.take k) ≤ lensY s := by
  have := lens_le (s.map Prod.fst) k
  simpa [lensY, List.map_take] using this
theorem lensY_at (s : List (List Int × Int)) (k : Nat) (h : k < s.length) : s[k].1.length ≤ lensY s := by
  have := lensY_succ s k h; have := lensY_le s (k + 1); omega
def szY (k : Int) (s : List (List Int × Int)) : Int := if k < s.length + lensY s then -1 else k - (s.length + lensY s)
theorem szY_cases (k : Int) (s : List (List Int × Int)) : (k < s.length + lensY s ∧ szY k s = -1) ∨ ((s.length + lensY s : Int) ≤ k ∧ szY k s = k - (s.length + lensY s)) := by
  unfold szY
  by_cases h : k < s.length + lensY s
  · exact .inl ⟨h, by rw [if_pos h]⟩
  · exact .inr ⟨by omega, by rw [if_neg h]⟩
end Go.Hyp
namespace Go.Proofs.YtfjodcfbhpglhaaGreatDoor
open Go.RowKit Go.Hyp Go.Deep

theorem Tryz.infoSaidI : (Tryz.prog.info? 37).map (fun i => (i.zero, i.size, i.bytes)) = some (some (.agg #[.slice none 0 0, .int .i64 0]), 2, 32) := by kernel_rfl

end Go.Proofs.YtfjodcfbhpglhaaGreatDoor
namespace Go.Hyp
open Go.RowKit Go.Deep
/-- The system of a picture. -/
def sysOfL (p : List (List Int)) : List (List Int × Int) := p.map fun r => (r, 0)
theorem sysOfL_len (p : List (List Int)) : (sysOfL p).length = p.length := by simp [sysOfL]
def sysOfB (p : List (List Int)) : Bool := picB p && decide (p.length ≤ 3)
/-- What SystemOf answers. -/
def sysOfR (p : List (List Int)) : List (List Int × Int) := if sysOfB p = true then sysOfL p else []
/-- A call that hands back a new system and a truth. -/
def RetYB (E T : Nat) (s : List (List Int × Int)) (b : Bool) (w : World) (e : Ending) (w' : World) : Prop :=
  ∃ a c, e = .returned (.tuple #[.slice a s.length c, .bool b]) ∧ OwY w' E T w.heap.size w'.heap.size a c s ∧ Below w.heap.size w w'
theorem retYB_of {E T : Nat} {p q : List (List Int × Int)} {b : Bool} {w w' : World} {a : Option Addr} {c : Nat} (e : p = q) (h : OwY w' E T w.heap.size w'.heap.size a c p) (hb : Below w.heap.size w w') : RetYB E T q b w (.returned (.tuple #[.slice a p.length c, .bool b])) w' := by
  subst e; exact ⟨a, c, rfl, h, hb⟩
theorem OwY_nil (w : World) (E T B C : Nat) : OwY w E T B C none 0 [] := ⟨fun _ => none, fun _ => 0, .inl ⟨rfl, rfl, rfl⟩, fun i hi => by simp at hi, fun i j _ hj => by simp at hj, fun i hi => by simp at hi⟩
theorem lens_rows (p : List (List Int)) : lensY (sysOfL p) = lens p := by unfold lensY sysOfL; rw [List.map_map]; congr 1; exact List.map_id p
theorem systemOf_small (p : List (List Int)) : (sysOfR p).length ≤ 1048576 ∧ lensY (sysOfR p) ≤ 1048576 := by
  unfold sysOfR
  split
  · rename_i h
    unfold sysOfB at h
    rw [Bool.and_eq_true, decide_eq_true_eq] at h
    have hs := picB_sq h.1
    rw [sysOfL_len, lens_rows, hs.1.eq_mat, mat_len, lens_mat]
    have := Nat.mul_le_mul h.2 h.2
    omega
  · exact ⟨by simp, by show 0 ≤ _; omega⟩
end Go.Hyp
namespace Go.Proofs.YtfjodcfbhpglhaaGreatDoor
open Go.RowKit Go.Hyp Go.Deep

end Go.Proofs.YtfjodcfbhpglhaaGreatDoor
