/- Sentences as the laws' arguments: read, copied, measured, compared. Systems of pictures: impl.SystemOf, spec.SystemOf. -/
import Derived.Deep.RegionLaw
import Derived.Test.YtfjodcfbhpglhaaM3
import Derived.Test.YtfjodcfbhpglhaaM1
namespace Go.Hyp
open Go.RowKit Go.Deep

/-- A sentence's slice, under way: block g has n pairs of cells, of which the first k are in place, the names each in a block of their own from B on. -/
def PartY (w : World) (E T B g n : Nat) (s : List (List Int × Int)) (k : Nat) : Prop :=
  ∃ (ra : Nat → Option Addr) (rc : Nat → Nat) (G : Nat → Value), w.rowIs g T (n * 2) G ∧
    (∀ j, j < k → G (j * 2) = .slice (ra j) (s.getD j ([], 0)).1.length (rc j) ∧ G (j * 2 + 1) = .int .i64 (s.getD j ([], 0)).2) ∧
    (∀ j, j < k → OwI w E B w.heap.size (ra j) (rc j) (s.getD j ([], 0)).1) ∧ (∀ i j, i < j → j < k → Dis (ra i) (ra j))
theorem PartY.start {w : World} {E T B g n : Nat} {s : List (List Int × Int)} {G : Nat → Value} (h : w.rowIs g T (n * 2) G) : PartY w E T B g n s 0 :=
  ⟨fun _ => none, fun _ => 0, G, h, fun j hj => by omega, fun j hj => by omega, fun i j _ hj => by omega⟩
theorem PartY.cells {w : World} {E T B g n : Nat} {s : List (List Int × Int)} {k : Nat} (h : PartY w E T B g n s k) (hk : k < n) :
    (∃ v, w.cell? ⟨g, k * 2, none⟩ = some v) ∧ (∃ v, w.cell? ⟨g, k * 2 + 1, none⟩ = some v) ∧ (∀ o, w.frozen? ⟨g, o, none⟩ = false) ∧ g < w.heap.size := by
  obtain ⟨ra, rc, G, h1, _⟩ := h
  exact ⟨⟨_, h1.cell (by omega)⟩, ⟨_, h1.cell (by omega)⟩, h1.frozen, h1.lt⟩
theorem PartY.below {w w1 : World} {E T B g n : Nat} {s : List (List Int × Int)} {k : Nat} (h : PartY w E T B g n s k) (hb : Below w.heap.size w w1) : PartY w1 E T B g n s k := by
  obtain ⟨ra, rc, G, h1, h2, h3, h4⟩ := h
  exact ⟨ra, rc, G, h1.of_block (hb.block g h1.lt), h2, fun j hj => ((h3 j hj).agr (agr_below hb (Nat.le_refl _))).mono (Nat.le_refl _) hb.size, h4⟩
theorem PartY.step {w w1 : World} {E T B g n : Nat} {s : List (List Int × Int)} {k : Nat} {a' : Option Addr} {c' : Nat} {l : List Int} {c : Int} (h : PartY w E T B g n s k) (hb : Below w.heap.size w w1)
    (ho : OwI w1 E w.heap.size w1.heap.size a' c' l) (hl : l = (s.getD k ([], 0)).1) (hc : c = (s.getD k ([], 0)).2) (hg : g < B) (hB : B ≤ w.heap.size) :
    PartY ((w1.setCell ⟨g, k * 2, none⟩ (.slice a' l.length c')).setCell ⟨g, k * 2 + 1, none⟩ (.int .i64 c)) E T B g n s (k + 1) := by
  subst hl hc
  obtain ⟨ra, rc, G, h1, h2, h3, h4⟩ := h
  have hgw := h1.lt
  have hA : ∀ lo hi, g < lo → Agr lo hi w1 ((w1.setCell ⟨g, k * 2, none⟩ (.slice a' (s.getD k ([], 0)).1.length c')).setCell ⟨g, k * 2 + 1, none⟩ (.int .i64 (s.getD k ([], 0)).2)) := fun lo hi hlo => ((Agr.refl _ _ _).set (by left; exact hlo) _).set (by left; exact hlo) _
  refine ⟨fun j => if j = k then a' else ra j, fun j => if j = k then c' else rc j, _, ((h1.of_block (hb.block g hgw)).set (k * 2) _).set (k * 2 + 1) _, fun j hj => ?_, fun j hj => ?_, fun i j hij hj => ?_⟩
  · by_cases e : j = k
    · subst e; simp
    · have n1 : ¬ j * 2 = k * 2 + 1 := by omega
      have n2 : ¬ j * 2 = k * 2 := by omega
      have n3 : ¬ j * 2 + 1 = k * 2 + 1 := by omega
      have n4 : ¬ j * 2 + 1 = k * 2 := by omega
      simp only [if_neg e, if_neg n1, if_neg n2, if_neg n3, if_neg n4]
      exact h2 j (by omega)
  · simp only [World.size_setCell]
    by_cases e : j = k
    · subst e
      simp only [if_true]
      exact (ho.agr (hA _ _ (by omega))).mono hB (Nat.le_refl _)
    · simp only [if_neg e]
      exact ((h3 j (by omega)).agr (fun k' k1 k2 => (hA B w.heap.size hg k' k1 k2).trans (hb.block k' k2))).mono (Nat.le_refl _) hb.size
  · by_cases e : j = k
    · subst e
      simp only [if_true, if_neg (show i ≠ j by omega)]
      exact (h3 i hij).dis ho (Nat.le_refl _)
    · simp only [if_neg e, if_neg (show i ≠ k by omega)]
      exact h4 i j hij (by omega)
theorem PartY.done {w : World} {E T g n : Nat} {s : List (List Int × Int)} (h : PartY w E T (g + 1) g n s s.length) (hn : n = s.length) (hm : n ≤ maxLen) : OwY w E T g w.heap.size (some ⟨g, 0, none⟩) n s := by
  subst hn
  obtain ⟨ra, rc, G, h1, h2, h3, h4⟩ := h
  refine ⟨ra, rc, .inr ⟨g, G, rfl, Nat.le_refl _, h1.lt, h1, Nat.le_refl _, hm, h2⟩, fun i hi => (h3 i hi).mono (Nat.le_succ _) (Nat.le_refl _), h4, ?_⟩
  intro i hi x y hx hy
  cases hx
  rcases h3 i hi with ⟨e, _⟩ | ⟨g', f', e, b1, b2, _⟩
  · rw [e] at hy; cases hy
  · rw [e] at hy; cases hy
    show g ≠ g'; omega

/-- make of pairs. -/
theorem run_make_two {P : Program} (t e : Nat) (z : Value) (bytes : Nat) (ht : P.underlying t = some (.slice e)) (hinfo : (P.info? e).map (fun i => (i.zero, i.size, i.bytes)) = some (some z, 2, bytes))
    (kl kc : IntKind) (n : Nat) (hbytes : bytes * n ≤ 281474976710656) (h63 : n ≤ 9223372036854775807) (w : World) :
    (Instr.makeSlice t (.int kl (n : Int)) (.int kc (n : Int))).run P w = .ok (.slice (some ⟨w.heap.size, 0, none⟩) n n) (w.alloc (.cells (madeCells z.cells (n * 2)) e)) := by
  obtain ⟨i, hi, hz, hs, hb⟩ := info_parts hinfo
  subst hb
  have hb' : (i.bytes : Int) * (n : Int) ≤ 281474976710656 := by
    have h : ((i.bytes * n : Nat) : Int) ≤ 281474976710656 := Int.ofNat_le.2 hbytes
    rwa [Int.natCast_mul] at h
  have hr := run_make (P := P) w t e i z ht hi hz kl kc n n (by omega) (Int.le_refl _) hb' (by omega)
  simp only [Int.toNat_natCast, hs] at hr
  exact hr
theorem rowIs_any (w : World) (z : Array Value) (n : Nat) (t : Nat) : (w.alloc (.cells (madeCells z n) t)).rowIs w.heap.size t n (fun i => (madeCells z n).toList.getD i undef) :=
  ⟨_, alloc1 _ _, size_madeCells _ _, fun i hi => by
    have h : i < (madeCells z n).size := by rw [size_madeCells]; exact hi
    simp [List.getD, h]⟩

def RetY (E T : Nat) (s : List (List Int × Int)) (w : World) (e : Ending) (w' : World) : Prop :=
  ∃ a cap, e = .returned (.slice a s.length cap) ∧ OwY w' E T w.heap.size w'.heap.size a cap s ∧ Below w.heap.size w w'
/-- All numbers of a system's names. -/
def lensY (s : List (List Int × Int)) : Nat := lens (s.map Prod.fst)
theorem lensY_succ (s : List (List Int × Int)) (k : Nat) (h : k < s.length) : lensY (s.take (k + 1)) = lensY (s.take k) + s[k].1.length := by
  have := lens_succ (s.map Prod.fst) k (by simpa using h)
  simpa [lensY, List.map_take] using this
theorem lensY_le (s : List (List Int × Int)) (k : Nat) : lensY (s.take k) ≤ lensY s := by
  have := lens_le (s.map Prod.fst) k
  simpa [lensY, List.map_take] using this
theorem lensY_at (s : List (List Int × Int)) (k : Nat) (h : k < s.length) : s[k].1.length ≤ lensY s := by
  have := lensY_succ s k h; have := lensY_le s (k + 1); omega
def szY (k : Int) (s : List (List Int × Int)) : Int := if k < s.length + lensY s then -1 else k - (s.length + lensY s)
theorem szY_cases (k : Int) (s : List (List Int × Int)) : (k < s.length + lensY s ∧ szY k s = -1) ∨ ((s.length + lensY s : Int) ≤ k ∧ szY k s = k - (s.length + lensY s)) := by
  unfold szY
  by_cases h : k < s.length + lensY s
  · exact .inl ⟨h, by rw [if_pos h]⟩
  · exact .inr ⟨by omega, by rw [if_neg h]⟩
end Go.Hyp
namespace Go.Proofs.Ytfjodcfbhpglhaa
open Go.RowKit Go.Hyp Go.Deep

theorem Try.infoSaidI : (Try.prog.info? 50).map (fun i => (i.zero, i.size, i.bytes)) = some (some (.agg #[.slice none 0 0, .int .i64 0]), 2, 32) := by kernel_rfl

set_option maxRecDepth 8000 in
set_option maxHeartbeats 400000 in
theorem szSaid_any (a : Option Addr) (c n : Nat) (d k : Int) (w : World) (hl : n ≤ maxLen) (h0 : 0 ≤ k) (h1 : k ≤ 1048576) :
    Calls Try.prog 22 #[.agg #[.slice a n c, .int .i64 d], .int .i64 k] w fun e w' => e = .returned (.int .i64 (szI k n)) ∧ Below w.heap.size w w' := by
  have S1 := Lib.hid (szI_cases k n)
  by_cases hn : szI k n < 0
  all_goals
    go_enter Try.func22, Try.ntmps22
    go_wp2_with fail
    refine (szIntS_any a c n _ _ hl h0 h1).mono ?_
    rintro e w' ⟨rfl, rfl⟩
    go_wp2_with fail
    go_ret
    exact ⟨ret_int (by rcases S1.out with h | h <;> omega), below_alloc w _⟩

set_option maxRecDepth 8000 in
set_option maxHeartbeats 400000 in
theorem szSaidS_any (a : Option Addr) (cap : Nat) (p : List (List Int × Int)) (n : Int) (w : World) (B C : Nat) (h : RdY w B C a p) (hC : C ≤ w.heap.size) (hl : p.length ≤ maxLen) (h0 : 0 ≤ n) (h1 : n ≤ 1048576) :
    Calls Try.prog 5 #[.slice a p.length cap, .int .i64 n] w fun e w' => e = .returned (.int .i64 (szY n p)) ∧ Below w.heap.size w w' := by
  unfold maxLen at hl
  by_cases hlt : n < p.length
  · have hc : n - p.length < 0 := by omega
    go_enter Try.func5, Try.ntmps5
    go_wp2_with fail
    go_ret
    exact ⟨ret_int (by unfold szY; rw [if_pos (by omega)]), Below.refl _ _⟩
  · have hc : ¬ (n - p.length < 0) := by omega
    have HF := Lib.hid h
    clear h
    go_enter Try.func5, Try.ntmps5
    go_wp2_with fail
    go_loopw [1, 4, 5] (fun m r i wr => ∃ (k : Nat) (m' : Int), k ≤ p.length ∧ r = .int .i64 0 ∧ i = .int .i64 k ∧ m = .int .i64 m' ∧ 0 ≤ m' ∧ m' ≤ 1048576 ∧ m' = n - p.length - lensY (p.take k) ∧ Below w.heap.size w wr) (fun _ _ i _ => p.length - (intOf i).toNat)
    case atStart => exact ⟨0, _, Nat.zero_le _, rfl, rfl, rfl, by omega, by omega, by simp [lensY, lens], Below.refl _ _⟩
    case round =>
      obtain ⟨k, m', hk, rfl, rfl, rfl, hm0, hm1, hm, hb⟩ := hrel
      have HM := Lib.hid hm
      have HB := Lib.hid hb
      have hzb := hb.size
      clear hm hb
      by_cases hlt' : k < p.length
      · obtain ⟨b, off, a', c', rfl, _, _, hc, hd, hr, hll⟩ := (HF.out.below HB.out hC).at k hlt'
        have HS := Lib.hid (lensY_succ p k hlt')
        have HL := Lib.hid (lensY_le p (k + 1))
        have HC := Lib.hid (szI_cases m' p[k].1.length)
        clear hr
        by_cases hneg : szI m' p[k].1.length < 0
        · go_wp2_with fail
          refine (szSaid_any a' c' p[k].1.length p[k].2 m' _ hll hm0 hm1).mono ?_
          rintro e w' ⟨rfl, hb'⟩
          have HB' := Lib.hid (below_trans HB.out hb')
          clear hb'
          go_wp2_with fail
          go_ret
          exact ⟨ret_int (by unfold szY; rw [if_pos (by have := HM.out; have := HS.out; have := HL.out; rcases HC.out with hx | hx <;> omega)]), HB'.out⟩
        · go_wp2_with fail
          refine (szSaid_any a' c' p[k].1.length p[k].2 m' _ hll hm0 hm1).mono ?_
          rintro e w' ⟨rfl, hb'⟩
          have HB' := Lib.hid (below_trans HB.out hb')
          clear hb'
          go_wp2_with fail
          go_roundw
          case rel => exact ⟨k + 1, _, by omega, rfl, by go_num, rfl, by omega, by rcases HC.out with hx | hx <;> omega, by have := HM.out; have := HS.out; rcases HC.out with hx | hx <;> omega, HB'.out⟩
          case measure => simp [intOf]; omega
      · go_wp2_with fail
        go_ret
        exact ⟨ret_int (by have := HM.out; rw [List.take_of_length_le (by omega)] at this; unfold szY; rw [if_neg (by omega)]; omega), HB.out⟩

set_option maxRecDepth 8000 in
set_option maxHeartbeats 400000 in
theorem toSaid_any (a1 : Option Addr) (c1 : Nat) (l1 : List Int) (d : Int) (w : World) (B C : Nat) (h1 : RdI w B C a1 l1) (hC : C ≤ w.heap.size) (hl1 : l1.length ≤ 1048576) :
    Calls Try.prog 28 #[.agg #[.slice a1 l1.length c1, .int .i64 d]] w fun e w' => ∃ a' c', e = .returned (.agg #[.slice a' l1.length c', .int .i64 d]) ∧ OwI w' 3 w.heap.size w'.heap.size a' c' l1 ∧ Below w.heap.size w w' := by
  have F1 := Lib.hid h1
  clear h1
  go_enter Try.func28, Try.ntmps28
  go_wp2_with fail
  refine (toIntS_any a1 c1 l1 _ B C (F1.out.below (below_alloc w _ |>.alloc (by simp) _ |>.alloc (by simp; omega) _) hC) (by simp; omega) hl1).mono ?_
  rintro e w1 ⟨a', c', rfl, ho, hb⟩
  have hz := hb.size
  have b1 : w1.heap[w.heap.size]? = some (.cells #[.slice a1 l1.length c1, .int .i64 d] 47 (0, 0)) := hb.blk (alloc3 w _ _ _).1 (by simp; omega)
  have b2 : w1.heap[w.heap.size + 1]? = some (.cells #[.slice none 0 0, .int .i64 0] 50 (0, 0)) := hb.blk (alloc3 w _ _ _).2.1 (by simp)
  have b3 : w1.heap[w.heap.size + 1 + 1]? = some (.cells #[.slice none 0 0, .int .i64 0] 50 (0, 0)) := hb.blk (alloc3 w _ _ _).2.2 (by simp)
  obtain ⟨p1, p2, p3, p4⟩ := blk2 b1
  obtain ⟨t1, t2, t3, t4⟩ := blk2 b2
  obtain ⟨q1, q2, q3, q4⟩ := blk2 b3
  simp at hz
  have HO := Lib.hid ho
  have HB := Lib.hid hb
  have B2 := Lib.hid b2
  have B3 := Lib.hid b3
  clear ho hb b1 b2 b3
  go_wp2_with fail
  have r0 := blk_set (.int .i64 d) (i := 1) (blk_set (.slice a' l1.length c') (i := 0) (blk_set_other (.int .i64 d) (i := 1) (k := w.heap.size + 1 + 1) (blk_set_other (w := w1) (.slice a' l1.length c') (i := 0) (k := w.heap.size + 1 + 1) B2.out (by omega)) (by omega)))
  obtain ⟨r1, r2, _, _⟩ := blk2 r0
  clear r0 p1 p2 p3 p4 q1 q2 q3 q4 t1 t2 t3 t4
  refine bodyPost_ret (v := .agg #[.slice a' l1.length c', .int .i64 d]) (by simp [results, Try.results28, go_sem, r1, r2]) rfl ⟨a', c', rfl, ?_, ?_⟩
  · exact (HO.out.agr ((((Agr.refl _ _ _).set (by simp) _).set (by simp) _).set (by simp) _ |>.set (by simp) _)).mono (by simp; omega) (by simp)
  · exact ((((below_alloc w _ |>.alloc (by simp) _ |>.alloc (by simp; omega) _).trans (HB.out.mono (by simp; omega))).setCell (by simp; omega) _).setCell (by simp; omega) _).setCell (by simp) _ |>.setCell (by simp) _

set_option maxRecDepth 8000 in
set_option maxHeartbeats 400000 in
theorem toSaidS_any (a : Option Addr) (cap : Nat) (p : List (List Int × Int)) (w : World) (B C : Nat) (h : RdY w B C a p) (hC : C ≤ w.heap.size) (hl : p.length ≤ 1048576) (hls : lensY p ≤ 1048576) :
    Calls Try.prog 8 #[.slice a p.length cap] w (RetY 3 50 p w) := by
  have hmk := run_make_two (P := Try.prog) 28 50 _ _ rfl Try.infoSaidI .i64 .i64 p.length (by omega) (by omega)
  have HF := Lib.hid h
  clear h
  go_enter Try.func8, Try.ntmps8
  go_wp2_with fail
  go_loopw [4] (fun i wr => ∃ k : Nat, k ≤ p.length ∧ i = .int .i64 k ∧ PartY wr 3 50 (w.heap.size + 1) w.heap.size p.length p k ∧ Below w.heap.size w wr ∧ w.heap.size < wr.heap.size) (fun i _ => p.length - (intOf i).toNat)
  case atStart => exact ⟨0, Nat.zero_le _, rfl, .start (rowIs_any w _ _ _), below_alloc _ _, by simp⟩
  case round =>
    obtain ⟨k, hk, rfl, hpart, hb, hz⟩ := hrel
    have HP := Lib.hid hpart
    have HB := Lib.hid hb
    clear hpart hb
    by_cases hlt : k < p.length
    · obtain ⟨b, off, a', c', rfl, h1, h2, hc, hd, hr, hll⟩ := (HF.out.below HB.out hC).at k hlt
      have hle : p[k].1.length ≤ 1048576 := Nat.le_trans (lensY_at p k hlt) hls
      have HR := Lib.hid hr
      clear hr
      go_wp2_with fail
      refine (toSaid_any a' c' p[k].1 p[k].2 _ B C HR.out (by have := HB.out.size; omega) hle).mono ?_
      rintro e w1 ⟨a'', c'', rfl, ho, hb1⟩
      obtain ⟨⟨v0, hv0⟩, ⟨v1, hv1⟩, hfz, hg1⟩ := (HP.out.below hb1).cells hlt
      have eg : p.getD k ([], 0) = p[k] := by simp [List.getD, hlt]
      have HPS := Lib.hid (HP.out.step (k := k) (c := p[k].2) hb1 ho (by rw [eg]) (by rw [eg]) (by omega) (by omega))
      have HB1 := Lib.hid (HB.out.trans (hb1.mono (by omega)))
      have hz1 : w.heap.size < w1.heap.size := by have := hb1.size; omega
      clear ho hb1 eg
      go_wp2_with fail
      go_roundw
      case rel => exact ⟨k + 1, by omega, by go_num, HPS.out, (HB1.out.setCell (by simp) _).setCell (by simp) _, by simpa using hz1⟩
      case measure => simp [intOf]; omega
    · obtain rfl : k = p.length := by omega
      go_wp2_with fail
      go_ret
      exact ⟨_, _, rfl, HP.out.done rfl (by unfold maxLen; omega), HB.out⟩

set_option maxRecDepth 8000 in
set_option maxHeartbeats 400000 in
theorem eqSaid_any (a1 b1 : Option Addr) (c1 d1 : Nat) (l1 m1 : List Int) (x y : Int) (w : World) (B C B' C' : Nat) (h1 : RdI w B C a1 l1) (h3 : RdI w B' C' b1 m1) (hC : C ≤ w.heap.size) (hC' : C' ≤ w.heap.size)
    (hl1 : l1.length ≤ maxLen) (hm1 : m1.length ≤ maxLen) :
    Calls Try.prog 33 #[.agg #[.slice a1 l1.length c1, .int .i64 x], .agg #[.slice b1 m1.length d1, .int .i64 y]] w fun e w' =>
      e = .returned (.bool (decide (l1 = m1) && decide (x = y))) ∧ Below w.heap.size w w' := by
  have F1 := Lib.hid h1
  have F3 := Lib.hid h3
  clear h1 h3
  have hbb := Lib.hid ((below_alloc w (.cells #[.slice a1 l1.length c1, .int .i64 x] 50)).alloc (by simp) (.cells #[.slice b1 m1.length d1, .int .i64 y] 50))
  by_cases e1 : l1 = m1
  · have X1 := Lib.hid (decide_eq_true e1)
    have E1 := Lib.hid e1
    clear e1
    rcases (show ((x != y) = false ∧ x = y) ∨ ((x != y) = true ∧ ¬ x = y) by by_cases e : x = y <;> simp [e]) with ⟨eb, e2⟩ | ⟨eb, e2⟩
    all_goals
      have E2 := Lib.hid e2
      clear e2
      go_enter Try.func33, Try.ntmps33
      go_wp2_with fail
      refine (eqIntS_any a1 b1 c1 d1 l1 m1 _ B _ B' _ (F1.out.below hbb.out hC) (F3.out.below hbb.out hC') hl1 hm1).mono ?_
      rintro e w' ⟨rfl, n, rfl⟩
      rw [X1.out]
      go_wp2_with fail
      go_ret
      exact ⟨ret_bool (by have e := E2.out; simp [E1.out, e]), below_drewN hbb.out _⟩
  · have X1 := Lib.hid (decide_eq_false e1)
    have E1 := Lib.hid e1
    clear e1
    go_enter Try.func33, Try.ntmps33
    go_wp2_with fail
    refine (eqIntS_any a1 b1 c1 d1 l1 m1 _ B _ B' _ (F1.out.below hbb.out hC) (F3.out.below hbb.out hC') hl1 hm1).mono ?_
    rintro e w' ⟨rfl, n, rfl⟩
    rw [X1.out]
    go_wp2_with fail
    go_ret
    exact ⟨ret_bool (by simp [E1.out]), below_drewN hbb.out _⟩

set_option maxRecDepth 8000 in
set_option maxHeartbeats 400000 in
theorem eqSaidS_any (a a' : Option Addr) (cap cap' : Nat) (p p' : List (List Int × Int)) (w : World) (B C B' C' : Nat) (h : RdY w B C a p) (h' : RdY w B' C' a' p') (hC : C ≤ w.heap.size) (hC' : C' ≤ w.heap.size) (hl : p.length ≤ maxLen) :
    Calls Try.prog 12 #[.slice a p.length cap, .slice a' p'.length cap'] w fun e w' => e = .returned (.bool (decide (p = p'))) ∧ Below w.heap.size w w' := by
  unfold maxLen at hl
  have HF := Lib.hid h
  have HF' := Lib.hid h'
  clear h h'
  by_cases hlen : p.length = p'.length
  · have hb : (((p.length : Nat) : Int) != ((p'.length : Nat) : Int)) = false := by simp [hlen]
    have Hlen := Lib.hid hlen
    clear hlen
    go_enter Try.func12, Try.ntmps12
    go_wp2_with fail
    go_loopw [4, 5] (fun r i wr => ∃ k : Nat, k ≤ p.length ∧ r = .bool false ∧ i = .int .i64 k ∧ p.take k = p'.take k ∧ Below w.heap.size w wr) (fun _ i _ => p.length - (intOf i).toNat)
    case atStart => exact ⟨0, Nat.zero_le _, rfl, rfl, rfl, Below.refl _ _⟩
    case round =>
      obtain ⟨k, hk, rfl, rfl, he, hq⟩ := hrel
      have HE := Lib.hid he
      have HQ := Lib.hid hq
      have hzq := hq.size
      clear he hq
      by_cases hlt : k < p.length
      · have hlt' : k < p'.length := by have := Hlen.out; omega
        obtain ⟨b, off, x, c, rfl, _, _, hc, hd, hr, hll⟩ := (HF.out.below HQ.out hC).at k hlt
        obtain ⟨b', off', x', c', rfl, _, _, hc', hd', hr', hll'⟩ := (HF'.out.below HQ.out hC').at k hlt'
        have HR := Lib.hid hr
        have HR' := Lib.hid hr'
        clear hr hr'
        by_cases hx : p[k] = p'[k]
        · have HX := Lib.hid hx
          have HD := Lib.hid (show (decide (p[k].1 = p'[k].1) && decide (p[k].2 = p'[k].2)) = true by rw [hx]; simp)
          clear hx
          go_wp2_with fail
          go_region_law (first
              | (go_simp
                 go_at_call 33
                 refine (eqSaid_any x x' c c' p[k].1 p'[k].1 p[k].2 p'[k].2 _ B C B' C' (by exact HR.out) (by exact HR'.out) (by simp; omega) (by simp; omega) hll hll').mono ?_
                 rintro e w2 ⟨rfl, hb2⟩
                 rw [HD.out]
                 have HB2 := Lib.hid (below_trans HQ.out (undrew hb2))
                 clear hb2))
          all_goals
            go_wp2_with fail
            go_roundw
            case rel => exact ⟨k + 1, by omega, rfl, by go_num, take_eq_succ hlt hlt' HE.out HX.out, HB2.out⟩
            case measure => simp [intOf]; omega
        · have HX := Lib.hid hx
          have HD := Lib.hid (show (decide (p[k].1 = p'[k].1) && decide (p[k].2 = p'[k].2)) = false by
            simp; intro e1 e2; exact hx (Prod.ext e1 e2))
          clear hx
          go_wp2_with fail
          go_region_law (first
              | (go_simp
                 go_at_call 33
                 refine (eqSaid_any x x' c c' p[k].1 p'[k].1 p[k].2 p'[k].2 _ B C B' C' (by exact HR.out) (by exact HR'.out) (by simp; omega) (by simp; omega) hll hll').mono ?_
                 rintro e w2 ⟨rfl, hb2⟩
                 rw [HD.out]
                 have HB2 := Lib.hid (below_trans HQ.out (undrew hb2))
                 clear hb2))
          all_goals
            go_wp2_with fail
            go_ret
            exact ⟨ret_bool (by rw [decide_eq_false]; exact fun e => HX.out (by simp [e])), HB2.out⟩
      · go_wp2_with fail
        go_ret
        exact ⟨ret_bool (by rw [decide_eq_true]; have e := HE.out; have := Hlen.out; rwa [List.take_of_length_le (by omega), List.take_of_length_le (by omega)] at e), HQ.out⟩
  · have hb : (((p.length : Nat) : Int) != ((p'.length : Nat) : Int)) = true := by simp; omega
    have hne : p ≠ p' := fun e => hlen (by rw [e])
    go_enter Try.func12, Try.ntmps12
    go_wp2_with fail
    go_ret
    exact ⟨ret_bool (by simp [hne]), Below.refl _ _⟩
end Go.Proofs.Ytfjodcfbhpglhaa
namespace Go.Hyp
open Go.RowKit Go.Deep
/-- The system of a picture. -/
def sysOfL (p : List (List Int)) : List (List Int × Int) := p.map fun r => (r, 0)
theorem sysOfL_len (p : List (List Int)) : (sysOfL p).length = p.length := by simp [sysOfL]
def sysOfB (p : List (List Int)) : Bool := picB p && decide (p.length ≤ 3)
/-- What SystemOf answers. -/
def sysOfR (p : List (List Int)) : List (List Int × Int) := if sysOfB p = true then sysOfL p else []
/-- A call that hands back a new system and a truth. -/
def RetYB (E T : Nat) (s : List (List Int × Int)) (b : Bool) (w : World) (e : Ending) (w' : World) : Prop :=
  ∃ a c, e = .returned (.tuple #[.slice a s.length c, .bool b]) ∧ OwY w' E T w.heap.size w'.heap.size a c s ∧ Below w.heap.size w w'
theorem retYB_of {E T : Nat} {p q : List (List Int × Int)} {b : Bool} {w w' : World} {a : Option Addr} {c : Nat} (e : p = q) (h : OwY w' E T w.heap.size w'.heap.size a c p) (hb : Below w.heap.size w w') : RetYB E T q b w (.returned (.tuple #[.slice a p.length c, .bool b])) w' := by
  subst e; exact ⟨a, c, rfl, h, hb⟩
theorem OwY_nil (w : World) (E T B C : Nat) : OwY w E T B C none 0 [] := ⟨fun _ => none, fun _ => 0, .inl ⟨rfl, rfl, rfl⟩, fun i hi => by simp at hi, fun i j _ hj => by simp at hj, fun i hi => by simp at hi⟩
theorem lens_rows (p : List (List Int)) : lensY (sysOfL p) = lens p := by unfold lensY sysOfL; rw [List.map_map]; congr 1; exact List.map_id p
theorem systemOf_small (p : List (List Int)) : (sysOfR p).length ≤ 1048576 ∧ lensY (sysOfR p) ≤ 1048576 := by
  unfold sysOfR
  split
  · rename_i h
    unfold sysOfB at h
    rw [Bool.and_eq_true, decide_eq_true_eq] at h
    have hs := picB_sq h.1
    rw [sysOfL_len, lens_rows, hs.1.eq_mat, mat_len, lens_mat]
    have := Nat.mul_le_mul h.2 h.2
    omega
  · exact ⟨by simp, by show 0 ≤ _; omega⟩
end Go.Hyp
namespace Go.Proofs.Ytfjodcfbhpglhaa
open Go.RowKit Go.Hyp Go.Deep

end Go.Proofs.Ytfjodcfbhpglhaa
