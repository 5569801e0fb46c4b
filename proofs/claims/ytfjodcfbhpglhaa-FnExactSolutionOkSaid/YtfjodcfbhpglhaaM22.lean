/- The picture of a system: impl.solvedBy, spec.SolvedBy. Systems: what the picture of one draws, and that a system has one solution. No program in sight. Names that are alike: impl.AlikeNames, spec.AlikeNames. impl.SolvedBy. -/
import Derived.Deep.RegionLaw
import Derived.RegionTactic
import Derived.Laws.NewBlocks
import Derived.Test.YtfjodcfbhpglhaaM3
import Derived.Test.YtfjodcfbhpglhaaM18
import Derived.Test.YtfjodcfbhpglhaaM14
namespace Go.Hyp
open Go.RowKit Go.Deep
/-- The arrows of a system's picture. -/
def solF (s : List (List Int × Int)) (i j : Nat) : Bool :=
  if i < s.length then (if j < s.length then (s.getD i ([], 0)).1.getD j 0 == 1 else if j = s.length then (s.getD i ([], 0)).2 % 2 == 1 else (s.getD i ([], 0)).2 / 2 == 1) else (decide (i = s.length + 1) && decide (j = s.length))
def solL (s : List (List Int × Int)) : List (List Int) := mat (s.length + 2) (s.length + 2) (solF s)
/-- What SolvedBy answers. -/
def solR (s : List (List Int × Int)) : List (List Int) := if sysB s = true then solL s else []
theorem solR_no {s : List (List Int × Int)} (h : sysB s = false) : solR s = [] := by unfold solR; rw [h]; rfl
theorem solR_yes {s : List (List Int × Int)} (h : sysB s = true) : solR s = solL s := by unfold solR; rw [h]; rfl
theorem solL_len (s : List (List Int × Int)) : (solL s).length = s.length + 2 := mat_len _ _ _
theorem solL_sq (s : List (List Int × Int)) : Sq (solL s) := mat_sq _ _
theorem sysB_at {s : List (List Int × Int)} (h : sysB s = true) : (1 ≤ s.length ∧ s.length ≤ 3) ∧ ∀ k (hk : k < s.length), bitsB s[k].1 = true ∧ s[k].1.length = s.length ∧ 0 ≤ s[k].2 ∧ s[k].2 ≤ 3 := by
  unfold sysB at h
  simp only [Bool.and_eq_true, decide_eq_true_eq] at h
  refine ⟨h.2, fun k hk => ?_⟩
  have h1 := h.1
  unfold saidsB at h1
  rw [List.all_eq_true] at h1
  have h2 := h1 s[k] (List.getElem_mem hk)
  unfold saidB at h2
  simp only [Bool.and_eq_true, decide_eq_true_eq] at h2
  exact ⟨h2.1.1, h2.1.2, h2.2.1, h2.2.2⟩
/-- The row of a name: its names, and the two bits of its code. -/
theorem sol_row {s : List (List Int × Int)} (h : sysB s = true) {k : Nat} (hk : k < s.length) : s[k].1 ++ [s[k].2 % 2, s[k].2 / 2] = rowOf (s.length + 2) (solF s k) := by
  obtain ⟨_, hat⟩ := sysB_at h
  obtain ⟨h1, h2, h3, h4⟩ := hat k hk
  have e : s.getD k ([], 0) = s[k] := by simp [List.getD, hk]
  apply List.ext_getElem
  · rw [List.length_append, rowOf_len, h2]; rfl
  · intro j g1 g2
    rw [rowOf_len] at g2
    rw [rowOf_get]
    unfold solF
    rw [if_pos hk, e]
    by_cases hj : j < s.length
    · rw [if_pos hj, List.getElem_append_left (by omega)]
      have hb := bit_get h1 j
      rw [getD_lt (by omega)] at hb ⊢
      rcases hb with hb | hb <;> rw [hb] <;> rfl
    · rw [if_neg hj, List.getElem_append_right (by omega)]
      have hj2 : j = s.length ∨ j = s.length + 1 := by omega
      rcases hj2 with rfl | rfl
      · rw [if_pos (rfl : s.length = s.length)]
        have e2 : s.length - s[k].1.length = 0 := by omega
        simp only [e2, List.getElem_cons_zero]
        have : s[k].2 % 2 = 0 ∨ s[k].2 % 2 = 1 := by omega
        rcases this with e3 | e3 <;> rw [e3] <;> rfl
      · rw [if_neg (show ¬ (s.length + 1 = s.length) by omega)]
        have e2 : s.length + 1 - s[k].1.length = 1 := by omega
        simp only [e2, List.getElem_cons_succ, List.getElem_cons_zero]
        have : s[k].2 / 2 = 0 ∨ s[k].2 / 2 = 1 := by omega
        rcases this with e3 | e3 <;> rw [e3] <;> rfl
theorem OwI_zerosSet (w : World) (E n k : Nat) (hn : n ≤ maxLen) (hk : k < n) (v : Int) : OwI (w.alloc (.cells ((madeCells #[.int .i64 0] n).setIfInBounds k (.int .i64 v)) E)) E w.heap.size (w.heap.size + 1) (some ⟨w.heap.size, 0, none⟩) n ((rowOf n fun _ => false).set k v) := by
  have h := (OwI_zeros w E n hn).setAt k (by rw [rowOf_len]; exact hk) v
  rwa [World.setCell_alloc_at _ _ _ _ _ rfl] at h
theorem sol_last (s : List (List Int × Int)) : (solL s).take s.length ++ [rowOf (s.length + 2) fun _ => false] ++ [(rowOf (s.length + 2) fun _ => false).set s.length 1] = solL s := by
  have h1 : (solL s).take (s.length + 1) = (solL s).take s.length ++ [rowOf (s.length + 2) (solF s s.length)] := mat_take _ _ _ _ (by omega)
  have h2 : (solL s).take (s.length + 1 + 1) = (solL s).take (s.length + 1) ++ [rowOf (s.length + 2) (solF s (s.length + 1))] := mat_take _ _ _ _ (by omega)
  have h3 : (solL s).take (s.length + 1 + 1) = solL s := mat_all _ _ _
  have r1 : rowOf (s.length + 2) (solF s s.length) = rowOf (s.length + 2) fun _ => false := rowOf_congr fun j _ => by
    unfold solF; rw [if_neg (Nat.lt_irrefl _)]; simp
  have r2 : rowOf (s.length + 2) (solF s (s.length + 1)) = (rowOf (s.length + 2) fun _ => false).set s.length 1 := by
    apply List.ext_getElem
    · simp [rowOf_len]
    · intro j h1 h2
      have e : solF s (s.length + 1) j = decide (j = s.length) := by
        unfold solF
        rw [if_neg (show ¬ s.length + 1 < s.length by omega)]
        simp
      rw [rowOf_get, List.getElem_set, rowOf_get, e]
      by_cases ej : s.length = j
      · subst ej; simp
      · have : ¬ j = s.length := fun h => ej h.symm
        simp [ej, this]
  rw [h3, h1, r1, r2] at h2
  exact h2.symm
section
variable {P : Program}
/-- copy of numbers into an owned slice: at a step of a region that draws its order. -/
theorem step_copyI {E T : Nat} (hT : P.underlying T = some (.slice E)) (hE : (P.info? E).map (·.size) = some 1) (w : World) {ops : Array Oper} {o : Oper} {a : Act} {K : Act → World → Prop} {Q : Exit → Act → World → Prop} {R : Prop} (hgd : o.guard = none) (d s : Operand)
    (ho : o.op = .call { callee := .builtin .copy, args := #[d, s], argTypes := #[T, T] }) (B C r cap : Nat) (l : List Int) (off dl dc : Nat) (hd : a.eval d = .slice (some ⟨r, off, none⟩) dl dc) (hown : OwI w E B C (some ⟨r, 0, none⟩) cap l)
    (B' C' : Nat) (ax : Option Addr) (m : List Int) (cx : Nat) (hs : a.eval s = .slice ax m.length cx) (hrd : RdI w B' C' ax m) (hpos : 0 < m.length) (hm : m.length ≤ dl) (hfit : off + m.length ≤ l.length)
    (h : ∀ w', OwI w' E B C (some ⟨r, 0, none⟩) cap (l.take off ++ (m ++ l.drop (off + m.length))) → Chg (fun b => blockOf (some (⟨r, 0, none⟩ : Addr)) = some b) w w' → K (a.put o.dst (goInt m.length)) w') :
    if Region.wanted o (yielded ops a.tmps) = true then Oper.wp P o a w K Q else R := by
  have hw : Region.wanted o (yielded ops a.tmps) = true := by simp [Region.wanted, hgd]
  rw [if_pos hw]
  rcases hown with ⟨e, _⟩ | ⟨g, f, e, h1, h2, ⟨cur, hc, hcs, hcv⟩, hl, hmax, hf⟩
  · cases e
  · cases e
    have hres := copyI_of (l := l) (m := m) (off := off) hc h1 h2 hcs hmax hl (fun i hi => by rw [hcv i (by omega), hf i hi]) hfit
    obtain ⟨b0, o0, ea, _⟩ := hrd 0 (by omega)
    subst ea
    have hlen : (m.map (Value.int .i64)).length = m.length := by simp
    have hrun := run_copy_row (P := P) w T T o.type E r off dl dc ⟨b0, o0, none⟩ m.length cx cur E (m.map (Value.int .i64)) hT hE hc (by rw [hlen]; exact (Nat.min_eq_left hm).symm) (srcI hrd _ rfl) (by rw [hlen]; omega) (ints_one m)
    rw [hlen] at hrun
    unfold Oper.wp
    simp only [execOp, ho, resolve, invoke, builtin, Sem.run_bind, Sem.run_pure, Result.andThen_ok, List.map_toArray, List.map_cons, List.map_nil, hd, hs, hrun]
    rw [List.append_assoc]
    exact h _ hres chg_setRow
/-- append of one row to rows that the call owns: at a step of a region that draws its order. -/
theorem step_appII {E R S : Nat} (hT : P.underlying S = some (.slice R)) (hE : (P.info? R).map (fun i => (i.zero, i.size, i.bytes)) = some (some (.slice none 0 0), 1, 24))
    (w : World) {ops : Array Oper} {o : Oper} {a : Act} {K : Act → World → Prop} {Q : Exit → Act → World → Prop} {Z : Prop} (hgd : o.guard = none) (s x : Operand)
    (ho : o.op = .call { callee := .builtin .append, args := #[s, x], argTypes := #[S, S] }) (B C : Nat) (a0 : Option Addr) (cap : Nat) (p : List (List Int)) (hs : a.eval s = .slice a0 p.length cap) (hown : OwII w E R B C a0 cap p)
    (hB : B ≤ w.heap.size) (hC : C ≤ w.heap.size) (ad : Addr) (ar : Option Addr) (cr : Nat) (l : List Int) (hx : a.eval x = .slice (some ad) 1 1) (hnew : w.cell? (ad.add 0) = some (.slice ar l.length cr))
    (Br Cr : Nat) (hrow : OwI w E Br Cr ar cr l) (hBr : C ≤ Br) (hBB : B ≤ Br) (hCr : Cr ≤ w.heap.size) (hl : p.length ≤ 1048576)
    (h : ∀ a1 cap' (w' : World), OwII w' E R B w'.heap.size a1 cap' (p ++ [l]) → w.grownBy w' (blockOf a0) → (blockOf a1 = blockOf a0 ∨ blockOf a1 = some w.heap.size) →
      K (a.put o.dst (.slice a1 (p.length + 1) cap')) w') : if Region.wanted o (yielded ops a.tmps) = true then Oper.wp P o a w K Q else Z := by
  have hw : Region.wanted o (yielded ops a.tmps) = true := by simp [Region.wanted, hgd]
  rw [if_pos hw]
  obtain ⟨ra, rc, h1, h2, h3, h4⟩ := id hown
  refine wp_appVs hT hE rfl (by omega) w s x ho B C a0 cap p.length (fun i => .slice (ra i) (p.getD i []).length (rc i)) hs h1 hB (some ad) 1 1 [.slice ar l.length cr] hx rfl ?_ (fun e => by cases e) (by simp [Value.oneCell']) (by omega) ?_
  · intro ad' e j u hu
    cases e
    match j, hu with
    | 0, hu => simp at hu; subst hu; exact hnew
  · intro a1 cap' w' hv hg hb
    exact h a1 cap' w' (appII_of h1 h2 h3 h4 hC hrow hBr hBB hCr hv hg hb) hg hb
end
theorem grown_undrew' {w w' : World} {r : Option Nat} (h : w.drew.grownBy w' r) : w.grownBy w' r := ⟨h.os, h.tape, h.output, h.size, h.block⟩
/-- A new row of two, read. -/
theorem rdI_two (w : World) (E : Nat) (x y : Int) : RdI (w.alloc (.cells #[.int .i64 x, .int .i64 y] E)).drew w.heap.size (w.heap.size + 1) (some ⟨w.heap.size, 0, none⟩) [x, y] := by
  have hb := alloc1 w (.cells #[.int .i64 x, .int .i64 y] E)
  intro i hi
  refine ⟨w.heap.size, 0, rfl, Nat.le_refl _, Nat.lt_succ_self _, ?_⟩
  match i, hi with
  | 0, _ => exact blk_cell hb rfl
  | 1, _ => exact blk_cell hb rfl
/-- One row of owned rows set anew twice. -/
theorem set_row_len (p : List (List Int)) (k : Nat) (l : List Int) (h : k < p.length) : (p.set k l).getD k [] = l := by simp [List.getD, h]
end Go.Hyp
namespace Go.Proofs.Ytfjodcfbhpglhaa
open Go.RowKit Go.Hyp Go.Deep

set_option maxRecDepth 4000 in
set_option maxHeartbeats 4000000 in
theorem solvedBy_any (a : Option Addr) (cap : Nat) (s : List (List Int × Int)) (w : World) (B C : Nat) (h : RdY w B C a s) (hC : C ≤ w.heap.size) (hs : sysB s = true) :
    Calls Try.prog 37 #[.slice a s.length cap] w (RetII 3 24 (solL s) w) := by
  obtain ⟨⟨hn1, hn3⟩, hat⟩ := sysB_at hs
  have F := Lib.hid h
  have HAT := Lib.hid hat
  have HROW := Lib.hid (fun k hk => sol_row (s := s) hs (k := k) hk)
  have HSL := Lib.hid (solL_len s)
  clear h hs hat
  obtain ⟨n, hn⟩ : ∃ n, n = s.length := ⟨_, rfl⟩
  have HN := Lib.hid hn
  rw [← hn] at hn1 hn3 ⊢
  have hn2 : n ≤ s.length := by omega
  have hn4 : s.length ≤ n := by omega
  clear hn
  have hN2 : (n : Int) + 2 = ((n + 2 : Nat) : Int) := by omega
  have HN2 := Lib.hid hN2
  clear hN2
  go_enter Try.func37, Try.ntmps37
  go_wp2_with fail
  rw [HN2.out]
  refine (emptyPicture_any (n + 2) w (by omega)).mono ?_
  rintro e w1 ⟨x, c, rfl, ho, hb⟩
  have HO1 := Lib.hid ho
  have HB1 := Lib.hid hb
  have hz1 : w.heap.size ≤ w1.heap.size := hb.size
  rw [mat_len]
  clear ho hb
  go_wp2_with fail
  go_loopw [14] (fun i wr => ∃ k : Nat, k ≤ n ∧ i = .int .i64 k ∧ OwII wr 3 24 w.heap.size w1.heap.size x c (mat (n + 2) (n + 2) (upB k 0 (solF s))) ∧ Below w.heap.size w wr ∧ w1.heap.size ≤ wr.heap.size) (fun i _ => n - (intOf i).toNat)
  case atStart => exact ⟨0, Nat.zero_le _, rfl, HO1.out.matCongr (fun x y _ _ => (upB_start x y).symm), HB1.out, Nat.le_refl _⟩
  case round =>
    obtain ⟨k, hk, rfl, ho, hb, hz⟩ := hrel
    have HO := Lib.hid ho
    have HB := Lib.hid hb
    clear ho hb HO1 HB1
    by_cases hlt : k < n
    · obtain ⟨b, off, an, cn, rfl, _, hbC, hc, hd, hr, hll⟩ := (F.out.below HB.out hC).at k (by omega)
      obtain ⟨q1, q2, q3, q4⟩ := HAT.out k (by omega)
      obtain ⟨V, hV⟩ : ∃ V, V = s[k].2 := ⟨_, rfl⟩
      obtain ⟨L, hL⟩ : ∃ L, L = s[k].1 := ⟨_, rfl⟩
      have HRW : Hid (L ++ [V % 2, V / 2] = rowOf (n + 2) (solF s k)) := Lib.hid (by
        rw [hV, hL, show n + 2 = s.length + 2 by omega]; exact HROW.out k (by omega))
      rw [← hL] at hc hr q2
      rw [← hV] at hd q3 q4
      have hbw : b < wr.heap.size := by have := HB.out.size; omega
      have HRL := Lib.hid hr
      have hLn : L.length ≤ n := by omega
      have hnL : n ≤ L.length := by omega
      clear hr hV hL q1 q2 hll
      obtain ⟨g, ar, cr, rfl, hg, hcell, hrow, hnew⟩ := HO.out.rowNew k (by rw [mat_len]; omega)
      rw [mat_get? _ _ _ k (by omega)] at hcell hrow hnew
      rw [rowOf_len] at hcell hnew
      have hrow0 : rowOf (n + 2) (upB k 0 (solF s) k) = rowOf (n + 2) fun _ => false := rowOf_congr fun j _ => by unfold upB; simp
      rw [hrow0] at hrow
      obtain ⟨r, ear, hr1, hr2, _, _, hrl⟩ := hrow.cells 0 (by rw [rowOf_len]; omega)
      subst ear
      have HROW2 := Lib.hid hrow
      have HNEW := Lib.hid hnew
      have hki : (k : Int) < (n : Int) + 2 := by omega
      clear hrow hnew hrow0
      go_wp2_with fail
      have hBs : B ≤ B := Nat.le_refl _
      have hwz : w.heap.size ≤ wr.heap.size := HB.out.size
      have HZL : Hid ((rowOf (n + 2) fun _ => false).take 0 ++ (L ++ (rowOf (n + 2) fun _ => false).drop (0 + L.length)) = L ++ [0, 0]) := Lib.hid (by
        have e : L.length = n := by omega
        rw [e, List.take_zero, List.nil_append, Nat.zero_add]
        have : (rowOf (n + 2) fun _ => false).drop n = [0, 0] := by
          apply List.ext_getElem
          · simp [rowOf_len]
          · intro i h1 h2
            simp [rowOf_get]
            have : i = 0 ∨ i = 1 := by simp at h2; omega
            rcases this with rfl | rfl <;> rfl
        rw [this])
      have HA1 := Lib.hid (alloc1 wr (.cells #[.slice an L.length cn, .int .i64 V] 50))
      have HR3 : Hid (OwI (wr.alloc (.cells #[.slice an L.length cn, .int .i64 V] 50)).drew 3 w.heap.size w1.heap.size (some ⟨r, 0, none⟩) cr (rowOf (n + 2) fun _ => false)) := Lib.hid (HROW2.out.agr ((Agr.refl _ _ _).alloc hz _).drew)
      have HL3 : Hid (RdI (wr.alloc (.cells #[.slice an L.length cn, .int .i64 V] 50)).drew B C an L) := Lib.hid (HRL.out.agr ((Agr.refl _ _ _).alloc (by omega) _).drew)
      have hL0 : 0 < L.length := by omega
      have hLn2 : L.length ≤ n + 2 := by omega
      have hLf : 0 + L.length ≤ (rowOf (n + 2) fun _ => false).length := by rw [rowOf_len]; omega
      go_region_law (go_loud (
                     refine step_copyI Try.underlying24 Try.sizeInt _ (by rfl) (.tmp 22) (.tmp 24) (by rfl) w.heap.size w1.heap.size r cr (rowOf (n + 2) fun _ => false) 0 (n + 2) cr (by rfl) HR3.out B C an L cn (by rfl) HL3.out hL0 hLn2 hLf ?_
                     intro w2 hown hchg
                     rw [HZL.out] at hown
                     have HC2 : Hid (Chg (fun b => blockOf (some (⟨r, 0, none⟩ : Addr)) = some b) wr w2) := Lib.hid (((Chg.refl _ wr).alloc _).trans hchg.undrew)
                     have HO2 := Lib.hid (HNEW.out w2 _ hown (by simp; omega) HC2.out)
                     have HS2 := Lib.hid (hchg.undrew.blk HA1.out (by simp [blockOf]; omega))
                     clear hown hchg))
      all_goals
        have hln : (L ++ [(0 : Int), 0]).length = n + 2 := by simp; omega
        have HLNN := Lib.hid hln
        have hz2 : wr.heap.size ≤ w2.heap.size := HC2.out.size
        clear hln
        obtain ⟨g', f, ci, eg, hg1, hg2, hgl, hh, hf1, hf2, hfl, hd1, hfz, hgf, hput⟩ := HO2.out.at2 k n (by rw [List.length_set, mat_len]; omega) (by rw [set_row_len _ _ _ (by rw [mat_len]; omega)]; simp; omega)
        cases eg
        rw [set_row_len _ _ _ (by rw [mat_len]; omega), HLNN.out] at hh
        rw [set_row_len _ _ _ (by rw [mat_len]; omega)] at hput
        obtain ⟨q0, q1, _, _⟩ := blk2 HS2.out
        have HO3 : Hid (∀ x y : Int, OwII ((w2.setCell ⟨f, n, none⟩ (.int .i64 x)).setCell ⟨f, n + 1, none⟩ (.int .i64 y)) 3 24 w.heap.size w1.heap.size (some ⟨g, 0, none⟩) c ((mat (n + 2) (n + 2) (upB k 0 (solF s))).set k (L ++ [x, y])) ∧
            (∃ v, w2.cell? ⟨f, n + 1, none⟩ = some v) ∧ w2.frozen? ⟨f, n + 1, none⟩ = false) := Lib.hid (fun x y => by
          have h1 := hput x
          rw [List.set_set] at h1
          have e1 : (L ++ [(0 : Int), 0]).set n x = L ++ [x, 0] := by
            have e : n = L.length := by omega
            rw [e, List.set_append_right _ _ (Nat.le_refl _), Nat.sub_self]; rfl
          rw [e1] at h1
          obtain ⟨g', f', ci', eg, _, _, _, hh', _, _, _, hd', hfz', _, hput'⟩ := h1.at2 k (n + 1) (by rw [List.length_set, mat_len]; omega) (by rw [set_row_len _ _ _ (by rw [mat_len]; omega)]; simp; omega)
          cases eg
          have hln2 : (L ++ [x, (0 : Int)]).length = n + 2 := by simp; omega
          rw [set_row_len _ _ _ (by rw [mat_len]; omega), hln2, World.cell?_of_block (w := w2) (Below.heap_setCell _ _ _ _ hgf), hh] at hh'
          cases hh'
          have h2 := hput' y
          rw [set_row_len _ _ _ (by rw [mat_len]; omega), List.set_set] at h2
          have e2 : (L ++ [x, (0 : Int)]).set (n + 1) y = L ++ [x, y] := by
            have e : n + 1 = L.length + 1 := by omega
            rw [e, List.set_append_right _ _ (by omega), show L.length + 1 - L.length = 1 by omega]; rfl
          rw [e2] at h2
          refine ⟨h2, ?_, ?_⟩
          · obtain ⟨g3, f3, ci3, eg3, _, _, _, hh3, _, _, _, hd3, hfz3, _, _⟩ := HO2.out.at2 k (n + 1) (by rw [List.length_set, mat_len]; omega) (by rw [set_row_len _ _ _ (by rw [mat_len]; omega)]; simp; omega)
            cases eg3
            rw [set_row_len _ _ _ (by rw [mat_len]; omega), HLNN.out, hh] at hh3
            cases hh3
            exact ⟨_, hd3⟩
          · obtain ⟨g3, f3, ci3, eg3, _, _, _, hh3, _, _, _, hd3, hfz3, _, _⟩ := HO2.out.at2 k (n + 1) (by rw [List.length_set, mat_len]; omega) (by rw [set_row_len _ _ _ (by rw [mat_len]; omega)]; simp; omega)
            cases eg3
            rw [set_row_len _ _ _ (by rw [mat_len]; omega), HLNN.out, hh] at hh3
            cases hh3
            exact hfz3)
        have HFIN : Hid (∀ x y : Int, x = V % 2 → y = V / 2 → OwII ((w2.setCell ⟨f, n, none⟩ (.int .i64 x)).setCell ⟨f, n + 1, none⟩ (.int .i64 y)).drew.drew 3 24 w.heap.size w1.heap.size (some ⟨g, 0, none⟩) c (mat (n + 2) (n + 2) (upB (k + 1) 0 (solF s)))) := Lib.hid (fun x y hx hy => by
          have h1 := (HO3.out x y).1
          rw [hx, hy, HRW.out, mat_row_set _ _ _ k (by omega), ← hx, ← hy] at h1
          exact h1)
        have HBF : Hid (∀ x y : Int, Below w.heap.size w ((w2.setCell ⟨f, n, none⟩ (.int .i64 x)).setCell ⟨f, n + 1, none⟩ (.int .i64 y)).drew.drew) := Lib.hid (fun x y => by
          have h1 := HB.out.trans (HC2.out.below (D := w.heap.size) (fun k hk => by simp [blockOf] at hk; omega) hwz)
          have h2 := (h1.setCell (p := ⟨f, n, none⟩) hf1 (.int .i64 x)).setCell (p := ⟨f, n + 1, none⟩) hf1 (.int .i64 y)
          exact h2.drew.drew)
        obtain ⟨vx, hd2⟩ := (HO3.out 0 0).2.1
        have hfz2 := (HO3.out 0 0).2.2
        have hsf : wr.heap.size ≠ f := by omega
        have hfs : f ≠ wr.heap.size := by omega
        have hV4 : V = 0 ∨ V = 1 ∨ V = 2 ∨ V = 3 := by omega
        clear hput hcell hc hd HNEW HROW2 HR3 HL3 HA1
        have hval : bits BinOp.and IntKind.i64 V 1 = V % 2 ∧ V / 2 = V / 2 := ⟨by rcases hV4 with rfl | rfl | rfl | rfl <;> rfl, rfl⟩
        have HVAL := Lib.hid hval
        clear hV4 hval
        go_wp2_with fail
        go_region
        go_wp2_with fail
        go_region
        go_wp2_with fail
        go_roundw
        case rel => exact ⟨k + 1, by omega, by go_num, HFIN.out _ _ HVAL.out.1 (by first | rfl | omega | (rw [Int.fdiv_eq_ediv_of_nonneg _ (by omega)]; done) | simp), by exact HBF.out _ _, by simp; omega⟩
        case measure => simp [intOf]; omega
    · obtain rfl : k = n := by omega
      have HE : Hid (OwII wr 3 24 w.heap.size w1.heap.size x c (mat (k + 2) (k + 2) (upB k 0 (solF s)))) := HO
      obtain ⟨g', f, ci, eg, hg1, hg2, hgl, hh, hf1, hf2, hfl, hd1, hfz, hgf, hput⟩ := HO.out.bitAt (k + 1) k (by omega) (by omega)
      subst eg
      have HPUT := Lib.hid (hput true (solF s) (fun i j hi hj => by
        by_cases e : i = k + 1 ∧ j = k
        · rw [if_pos e, e.1, e.2]
          unfold solF
          rw [if_neg (by omega)]
          have : k = s.length := by omega
          simp [this]
        · rw [if_neg e]
          by_cases hik : i < k
          · exact (upB_end i j hik).symm
          · unfold upB solF
            rw [if_neg (by omega)]
            have h1 : ¬ i < k := hik
            by_cases e1 : i = k + 1
            · have e2 : ¬ j = s.length := fun h => e ⟨e1, by omega⟩
              simp [e2, h1]
            · have e2 : ¬ i = s.length + 1 := fun h => e1 (by omega)
              simp [e2, h1]))
      have hki : (k : Int) + 1 < (k : Int) + 2 := by omega
      have hkj : (k : Int) < (k : Int) + 2 := by omega
      clear hput
      go_wp2_with fail
      go_ret
      refine ⟨some ⟨g', 0, none⟩, c, by rw [solL_len, ← HN.out]; rfl, ?_, ?_⟩
      · have := HPUT.out
        unfold solL
        rw [← HN.out]
        exact this.mono (Nat.le_refl _) (by simpa using hz)
      · exact HB.out.setCell (p := ⟨f, k, none⟩) hf1 _

set_option maxRecDepth 4000 in
set_option maxHeartbeats 4000000 in
theorem specSolvedBy_any (a : Option Addr) (cap : Nat) (s : List (List Int × Int)) (w : World) (B C : Nat) (h : RdY w B C a s) (hC : C ≤ w.heap.size) (hl : s.length ≤ maxLen) :
    Calls Try.prog 18 #[.slice a s.length cap] w (RetII 3 24 (solR s) w) := by
  have HB0 := Lib.hid (below_alloc w (.cells #[] 24))
  have HO0 := Lib.hid (OwII_empty w 3 24)
  have F := Lib.hid h
  have HSO := Lib.hid (specSystemOk_any a cap s _ B C (h.below HB0.out hC) hl)
  clear h
  cases hs : sysB s
  · have HR := Lib.hid (solR_no hs)
    have HS := Lib.hid hs
    clear hs
    go_enter Try.func18, Try.ntmps18
    go_wp2_with fail
    refine HSO.out.mono ?_
    rintro e w' ⟨rfl, rfl⟩
    rw [HS.out]
    go_wp2_with fail
    go_ret
    exact retII_of (p := []) HR.out.symm (HO0.out.mono (Nat.le_refl _) (by simp)) HB0.out
  · obtain ⟨⟨hn1, hn3⟩, hat⟩ := sysB_at hs
    have HR := Lib.hid (solR_yes hs)
    have HS := Lib.hid hs
    have HAT := Lib.hid hat
    have HROW := Lib.hid (fun k hk => sol_row (s := s) hs (k := k) hk)
    clear hs hat
    obtain ⟨n, hn⟩ : ∃ n, n = s.length := ⟨_, rfl⟩
    have HN := Lib.hid hn
    rw [← hn] at hn1 hn3 HSO ⊢
    have hn2 : n ≤ s.length := by omega
    have hn4 : s.length ≤ n := by omega
    clear hn
    go_enter Try.func18, Try.ntmps18
    go_wp2_with fail
    refine HSO.out.mono ?_
    rintro e w' ⟨rfl, rfl⟩
    rw [HS.out]
    go_wp2_with fail
    go_loopw [3, 5] (fun o i wr => ∃ (k : Nat) (x : Option Addr) (c : Nat) (P : List (List Int)), k ≤ n ∧ i = .int .i64 k ∧ P.length = k ∧ P = (solL s).take k ∧ o = .slice x P.length c ∧ OwII wr 3 24 w.heap.size wr.heap.size x c P ∧ Below w.heap.size w wr) (fun _ i _ => n - (intOf i).toNat)
    case atStart => exact ⟨0, _, 0, [], Nat.zero_le _, rfl, rfl, by simp, rfl, HO0.out.mono (Nat.le_refl _) (by simp), HB0.out⟩
    case round =>
      obtain ⟨k, x, c, P, hk, rfl, hPk, hP, rfl, ho, hb⟩ := hrel
      have HO := Lib.hid ho
      have HB := Lib.hid hb
      have HP := Lib.hid hP
      have hpl1 : P.length ≤ k := by omega
      have hpl2 : k ≤ P.length := by omega
      have hwz : w.heap.size ≤ wr.heap.size := hb.size
      clear ho hb hP hPk HO0 HB0
      by_cases hlt : k < n
      · obtain ⟨b, off, an, cn, rfl, _, hbC, hc, hd, hr, hll⟩ := (F.out.below HB.out hC).at k (by omega)
        obtain ⟨q1, q2, q3, q4⟩ := HAT.out k (by omega)
        obtain ⟨V, hV⟩ : ∃ V, V = s[k].2 := ⟨_, rfl⟩
        obtain ⟨L, hL⟩ : ∃ L, L = s[k].1 := ⟨_, rfl⟩
        have HRW : Hid (L ++ [V % 2, V / 2] = rowOf (n + 2) (solF s k)) := Lib.hid (by
          rw [hV, hL, show n + 2 = s.length + 2 by omega]; exact HROW.out k (by omega))
        rw [← hL] at hc hr q2
        rw [← hV] at hd q3 q4
        have hbw : b < wr.heap.size := by omega
        have hLn : L.length ≤ 3 := by omega
        have HRL := Lib.hid (hr.below (below_alloc wr (.cells #[] 3)) (by omega))
        have HE := Lib.hid (OwI_empty wr 3)
        have hcn : an = none → cn = 0 := by
          intro e
          obtain ⟨b', o', e', _⟩ := hr 0 (by omega)
          rw [e] at e'; cases e'
        clear hr hV hL q1 q2 hll
        have hki : (k : Int) < (n : Int) := by omega
        go_wp2_with (at_builtin; (refine wpList_appIs Try.underlying24 Try.infoInt (wr.alloc (.cells #[] 3)) rfl _ _ rfl wr.heap.size (wr.heap.size + 1) (some ⟨wr.heap.size, 0, none⟩) 0 [] rfl HE.out (by simp) _ _ an cn L rfl HRL.out hcn (by simp; omega) ?_); intro a3 c3 w3 hown3 hgrow3 hat3; rw [List.nil_append] at hown3; have HO3 := Lib.hid hown3; have HG3 := Lib.hid hgrow3; clear hown3 hgrow3 hat3)
        have hz3 : wr.heap.size + 1 ≤ w3.heap.size := by have := HG3.out.size; simpa using this
        have HA3 : Hid (Agr 0 wr.heap.size wr w3) := Lib.hid (fun b h1 h2 => (HG3.out.block b (by simp; omega) (fun e => by simp [blockOf] at e; omega)).trans (Below.heap_alloc _ _ _ (by omega)))
        have hd3 : w3.cell? ⟨b, off + k * 2 + 1, none⟩ = some (.int .i64 V) := by rw [World.cell?_of_block (w := wr) (HA3.out b (by omega) hbw)]; exact hd
        have hbw3 : b < w3.heap.size := by omega
        have HP3 := Lib.hid (HO.out.agr (HA3.out.mono (Nat.zero_le _) (Nat.le_refl _)))
        have HB3 := Lib.hid (below_app HB.out HG3.out (fun k hk => by simp [blockOf] at hk; exact Nat.le_of_eq hk) hwz (Nat.le_refl _))
        clear hc hd HE HRL hcn
        have HTK : Hid ((solL s).take (k + 1) = P ++ [rowOf (n + 2) (solF s k)]) := Lib.hid (by
          rw [HP.out, show n + 2 = s.length + 2 by omega]
          exact mat_take _ _ _ _ (by omega))
        have hVV : V.tmod 2 = V % 2 ∧ IntKind.i64.wrap (V.tdiv 2) = V / 2 := by
          have hV4 : V = 0 ∨ V = 1 ∨ V = 2 ∨ V = 3 := by omega
          rcases hV4 with rfl | rfl | rfl | rfl <;> exact ⟨by rfl, by rfl⟩
        have HVV : Hid (L ++ [V.tmod 2, IntKind.i64.wrap (V.tdiv 2)] = rowOf (n + 2) (solF s k)) := Lib.hid (by rw [hVV.1, hVV.2]; exact HRW.out)
        clear hVV
        have HO3A : Hid (∀ o, OwI (w3.alloc o).drew 3 wr.heap.size w3.heap.size a3 c3 L) := Lib.hid (fun o => HO3.out.agr ((Agr.refl _ _ _).alloc (Nat.le_refl _) _).drew)
        have hw3z : ∀ o, wr.heap.size ≤ (w3.alloc o).drew.heap.size := fun o => by show _ ≤ (w3.alloc o).heap.size; simp; omega
        have HW3Z := Lib.hid hw3z
        clear hw3z
        have hlen24 : L.length + 2 ≤ 4194304 := by omega
        have hpl : P.length ≤ 1048576 := by omega
        have HP3A : Hid (∀ w4, Agr 0 w3.heap.size w3 w4 → OwII w4 3 24 w.heap.size wr.heap.size x c P) := Lib.hid (fun w4 h4 => HP3.out.agr (h4.mono (Nat.zero_le _) (by omega)))
        have h0wr : w.heap.size ≤ wr.heap.size := hwz
        go_region_law (first
          | (refine step_appIs Try.underlying24 Try.infoInt _ (by rfl) (.tmp 28) (.tmp 41) (by rfl) wr.heap.size w3.heap.size a3 c3 L (by rfl) (HO3A.out _) (HW3Z.out _) w3.heap.size (w3.heap.size + 1) (some ⟨w3.heap.size, 0, none⟩) 2 [V.tmod 2, IntKind.i64.wrap (V.tdiv 2)] (by rfl) (rdI_two w3 3 _ _) (fun e => by cases e) hlen24 ?_
             intro a4 c4 w4 hown4 hgrow4 hat4
             have HO4 := Lib.hid hown4
             have HG4 := Lib.hid (grown_undrew' hgrow4)
             have hbin4 : ∀ k, blockOf a3 = some k → wr.heap.size ≤ k ∧ k < w3.heap.size := fun k hk => HO3.out.block_in hk
             have HBI := Lib.hid hbin4
             have hz4 : w3.heap.size + 1 ≤ w4.heap.size := by have := hgrow4.size; have h2 : (w3.alloc (.cells #[.int .i64 (V.tmod 2), .int .i64 (IntKind.i64.wrap (V.tdiv 2))] 3)).drew.heap.size = w3.heap.size + 1 := (by show (w3.alloc _).heap.size = _; simp); omega
             have HA4 : Hid (Agr 0 wr.heap.size w3 w4) := Lib.hid (fun b h1 h2 => (HG4.out.block b (by simp; omega) (fun e => by have := (HBI.out b e.symm).1; omega)).trans (Below.heap_alloc _ _ _ (by omega)))
             have HP4 := Lib.hid (HP3.out.agr (HA4.out.mono (Nat.zero_le _) (Nat.le_refl _)))
             have HB4 := Lib.hid (below_app HB3.out HG4.out (fun k hk => (HBI.out k hk).1) hwz (Nat.le_refl _))
             have Q1 : Hid (∀ o, OwII (w4.alloc o) 3 24 w.heap.size wr.heap.size x c P) := Lib.hid (fun o => HP4.out.agr ((Agr.refl _ _ _).alloc (by omega) _))
             have Q2 : Hid (∀ o, w.heap.size ≤ (w4.alloc o).heap.size ∧ wr.heap.size ≤ (w4.alloc o).heap.size ∧ w4.heap.size ≤ (w4.alloc o).heap.size) := Lib.hid (fun o => by simp; omega)
             have Q5 : Hid (∀ o, OwI (w4.alloc o) 3 wr.heap.size w4.heap.size a4 c4 (L ++ [V.tmod 2, IntKind.i64.wrap (V.tdiv 2)])) := Lib.hid (fun o => HO4.out.agr ((Agr.refl _ _ _).alloc (Nat.le_refl _) _))
             have Q4 : Hid ((w4.alloc (.cells #[.slice a4 (L.length + 2) c4] 24)).cell? ((⟨w4.heap.size, 0, none⟩ : Addr).add 0) = some (.slice a4 (L ++ [V.tmod 2, IntKind.i64.wrap (V.tdiv 2)]).length c4)) := Lib.hid (by rw [List.length_append]; exact new_cellE _ _ _ rfl)
             clear hown4 hgrow4 hat4 hbin4)
          | (refine step_appII Try.underlying38 Try.infoRow _ (by rfl) (.tmp 27) (.tmp 43) (by rfl) w.heap.size wr.heap.size x c P (by rfl) (Q1.out _) (Q2.out _).1 (Q2.out _).2.1 ⟨w4.heap.size, 0, none⟩ a4 c4 (L ++ [V.tmod 2, IntKind.i64.wrap (V.tdiv 2)]) (by rfl) Q4.out wr.heap.size w4.heap.size (Q5.out _) (Nat.le_refl _) h0wr (Q2.out _).2.2 hpl ?_
             intro a5 c5 w5 hown5 hgrow5 hat5
             rw [HVV.out] at hown5
             have HO5 := Lib.hid hown5
             have HB5 := Lib.hid (below_app HB4.out hgrow5 (fun k hk => (HP4.out.block_in hk).1) (Nat.le_refl _) (Nat.le_refl _))
             clear hown5 hgrow5 hat5))
        all_goals
          go_wp2_with fail
          go_roundw
          case rel => exact ⟨k + 1, a5, c5, P ++ [rowOf (n + 2) (solF s k)], by omega, by go_num, by simp; omega, HTK.out.symm, by simp, HO5.out, HB5.out⟩
          case measure => simp [intOf]; omega
      · obtain rfl : k = n := by omega
        have hmk := run_make_row' (P := Try.prog) 24 3 _ _ Try.underlying24 Try.infoInt rfl .i64 .i64 (k + 2) (by omega) (by omega)
        have hk2 : (k : Int) + 2 = ((k + 2 : Nat) : Int) := by omega
        rw [← hk2] at hmk
        have HK2 := Lib.hid hk2
        clear hk2
        have hpl : P.length ≤ 1048576 := by omega
        have hk2l : k + 2 ≤ maxLen := by unfold maxLen; omega
        have HFIN : Hid (P ++ [rowOf (k + 2) fun _ => false] ++ [(rowOf (k + 2) fun _ => false).set k 1] = solL s) := Lib.hid (by
          have e : k = s.length := by omega
          rw [HP.out, e]
          exact sol_last s)
        go_wp2_with (at_builtin; first
          | (refine wpList_appII Try.underlying38 Try.infoRow _ rfl (.tmp 45) (.tmp 49) rfl w.heap.size wr.heap.size x c P rfl ((HO.out.agr ((Agr.refl _ _ _).alloc (Nat.le_refl _) _)).agr ((Agr.refl _ _ _).alloc (by simp) _)) (by simp; omega) (by simp; omega) ⟨wr.heap.size + 1, 0, none⟩ (some ⟨wr.heap.size, 0, none⟩) (k + 2) (rowOf (k + 2) fun _ => false) rfl (by rw [rowOf_len]; exact new_cellE _ _ _ (by simp)) wr.heap.size (wr.heap.size + 1) ((OwI_zeros wr 3 (k + 2) hk2l).agr ((Agr.refl _ _ _).alloc (by simp) _)) (Nat.le_refl _) hwz (by simp) hpl ?_; intro a3 c3 w3 hown3 hgrow3 hat3; have HO3 := Lib.hid hown3; have HB3 := Lib.hid (below_app (HB.out.alloc hwz _) hgrow3 (HO.out.app_in (Nat.le_refl _)) (Nat.le_refl _) (Nat.le_refl _)); have hz3 : w.heap.size ≤ w3.heap.size := HB3.out.size; clear hown3 hgrow3 hat3; have HZ3 := Lib.hid (OwI_zeros w3 3 (k + 2) hk2l); obtain ⟨gz, egz, _, _, hcz, hfz, _⟩ := HZ3.out.cells k (by rw [rowOf_len]; omega); cases egz; have hki : (k : Int) < (k : Int) + 2 := (by omega))
          | (go_loud (refine wpList_appII Try.underlying38 Try.infoRow _ rfl (.tmp 57) (.tmp 59) rfl w.heap.size w3.heap.size a3 c3 (P ++ [rowOf (k + 2) fun _ => false]) (by rw [List.length_append]; rfl) ((HO3.out.agr ((Agr.refl _ _ _).alloc (Nat.le_refl _) _)).agr ((Agr.refl _ _ _).alloc (by simp) _)) (by simp; omega) (by simp; omega) ⟨w3.heap.size + 1, 0, none⟩ (some ⟨w3.heap.size, 0, none⟩) (k + 2) ((rowOf (k + 2) fun _ => false).set k 1) rfl (by rw [List.length_set, rowOf_len]; exact new_cellE _ _ _ (by simp)) w3.heap.size (w3.heap.size + 1) ((OwI_zerosSet w3 3 (k + 2) k hk2l (by omega) 1).agr ((Agr.refl _ _ _).alloc (by simp) _)) (Nat.le_refl _) hz3 (by simp) (by simp; omega) ?_); intro a5 c5 w5 hown5 hgrow5 hat5; rw [HFIN.out] at hown5; have HO5 := Lib.hid hown5; have HB5 := Lib.hid (below_app (HB3.out.alloc hz3 _) hgrow5 (HO3.out.app_in (Nat.le_refl _)) (Nat.le_refl _) (Nat.le_refl _)); clear hown5 hgrow5 hat5))
        go_ret
        have hlen : (solR s).length = P.length + 1 + 1 := by rw [HR.out, solL_len]; omega
        refine ⟨a5, c5, ?_, ?_, HB5.out⟩
        · rw [hlen]
          first
            | rfl
            | (rw [List.length_append]; rfl)
            | simp
        · rw [HR.out]; exact HO5.out
end Go.Proofs.Ytfjodcfbhpglhaa
namespace Go.Hyp
/-- The name of number m is a member of that of number k. -/
def nameB (s : List (List Int × Int)) (k m : Nat) : Bool := (s.getD k ([], 0)).1.getD m 0 == 1
/-- The code of a sentence. -/
def codeY (s : List (List Int × Int)) (k : Nat) : Int := (s.getD k ([], 0)).2
theorem sol_arr {s : List (List Int × Int)} {i j : Nat} (hi : i < s.length + 2) (hj : j < s.length + 2) : arr (solL s) i j = solF s i j := mat_arr _ _ _ _ _ hi hj
theorem sol_mem {s : List (List Int × Int)} {k u : Nat} (hk : k < s.length) : Mem (solL s) k u ↔ (u < s.length ∧ nameB s k u = true) ∨ (u = s.length ∧ codeY s k % 2 = 1) ∨ (u = s.length + 1 ∧ codeY s k / 2 = 1) := by
  unfold Mem
  rw [solL_len]
  constructor
  · rintro ⟨h1, h2⟩
    rw [sol_arr (by omega) h1] at h2
    unfold solF at h2
    rw [if_pos hk] at h2
    by_cases e1 : u < s.length
    · rw [if_pos e1] at h2; exact .inl ⟨e1, h2⟩
    · rw [if_neg e1] at h2
      by_cases e2 : u = s.length
      · rw [if_pos e2] at h2; exact .inr (.inl ⟨e2, beq_iff_eq.1 h2⟩)
      · rw [if_neg e2] at h2; exact .inr (.inr ⟨by omega, beq_iff_eq.1 h2⟩)
  · intro h
    rcases h with ⟨h1, h2⟩ | ⟨rfl, h2⟩ | ⟨rfl, h2⟩
    · refine ⟨by omega, ?_⟩
      rw [sol_arr (by omega) (by omega)]
      unfold solF
      rw [if_pos hk, if_pos h1]
      exact h2
    · refine ⟨by omega, ?_⟩
      rw [sol_arr (by omega) (by omega)]
      unfold solF
      rw [if_pos hk, if_neg (Nat.lt_irrefl _), if_pos (rfl : s.length = s.length)]
      show ((codeY s k) % 2 == 1) = true
      rw [h2]; rfl
    · refine ⟨by omega, ?_⟩
      rw [sol_arr (by omega) (by omega)]
      unfold solF
      rw [if_pos hk, if_neg (show ¬ s.length + 1 < s.length by omega), if_neg (show ¬ s.length + 1 = s.length by omega)]
      show ((codeY s k) / 2 == 1) = true
      rw [h2]; rfl
theorem sol_mem0 {s : List (List Int × Int)} {u : Nat} : ¬ Mem (solL s) s.length u := by
  rintro ⟨h1, h2⟩
  rw [solL_len] at h1
  rw [sol_arr (by omega) h1] at h2
  unfold solF at h2
  rw [if_neg (Nat.lt_irrefl _)] at h2
  simp at h2
theorem sol_mem1 {s : List (List Int × Int)} {u : Nat} : Mem (solL s) (s.length + 1) u ↔ u = s.length := by
  unfold Mem
  rw [solL_len]
  constructor
  · rintro ⟨h1, h2⟩
    rw [sol_arr (by omega) h1] at h2
    unfold solF at h2
    rw [if_neg (by omega)] at h2
    simpa using h2
  · rintro rfl
    refine ⟨by omega, ?_⟩
    rw [sol_arr (by omega) (by omega)]
    unfold solF
    rw [if_neg (by omega)]
    simp
/-- The codes of the last two nodes. -/
theorem code_none {p : List (List Int)} {i : Nat} (h : ∀ u, ¬ Mem p i u) : Code p i 0 := .mk i 0 (fun _ => 0) (fun _ _ => Nat.zero_le _) (fun v hv => absurd hv (h v)) (fun m => by
  constructor
  · intro hm; simp at hm
  · rintro ⟨v, hv, _⟩; exact absurd hv (h v))
theorem code_one {p : List (List Int)} {i v : Nat} (h : ∀ u, Mem p i u ↔ u = v) (hv : Code p v 0) : Code p i 1 := .mk i 1 (fun _ => 0) (fun _ _ => Nat.zero_le _) (fun u hu => by rw [(h u).1 hu]; exact hv) (fun m => by
  constructor
  · intro hm
    refine ⟨v, (h v).2 rfl, ?_⟩
    cases m with
    | zero => rfl
    | succ m =>
      have : (1 : Nat).testBit (m + 1) = false := by rw [Nat.testBit_succ]; simp
      rw [this] at hm; cases hm
  · rintro ⟨u, hu, rfl⟩; rfl)
theorem sol_code0 (s : List (List Int × Int)) : Code (solL s) s.length 0 := code_none fun _ => sol_mem0
theorem sol_code1 (s : List (List Int × Int)) : Code (solL s) (s.length + 1) 1 := code_one (fun _ => sol_mem1) (sol_code0 s)
/-- The sets with the codes 0 and 1. -/
def pic0 : List (List Int) := [[0]]
def pic1 : List (List Int) := [[0, 1], [0, 0]]
theorem pic0_mem {u : Nat} : ¬ Mem pic0 0 u := by
  rintro ⟨h1, h2⟩
  have : u = 0 := by simp [pic0] at h1; omega
  subst this
  revert h2; decide
theorem pic1_mem1 {u : Nat} : ¬ Mem pic1 1 u := by
  rintro ⟨h1, h2⟩
  have : u = 0 ∨ u = 1 := by simp [pic1] at h1; omega
  rcases this with rfl | rfl <;> (revert h2; decide)
theorem pic1_mem0 {u : Nat} : Mem pic1 0 u ↔ u = 1 := by
  constructor
  · rintro ⟨h1, h2⟩
    have : u = 0 ∨ u = 1 := by simp [pic1] at h1; omega
    rcases this with rfl | rfl
    · revert h2; decide
    · rfl
  · rintro rfl; exact ⟨by decide, by decide⟩
theorem code_pic0 : Code pic0 0 0 := code_none fun _ => pic0_mem
theorem code_pic1' : Code pic1 1 0 := code_none fun _ => pic1_mem1
theorem code_pic1 : Code pic1 0 1 := code_one (fun _ => pic1_mem0) code_pic1'
/-- Sets that are a solution. -/
def Sol (s : List (List Int × Int)) (P : Nat → List (List Int)) (nd : Nat → Nat) : Prop := ∀ k, k < s.length →
  (∀ v, Mem (P k) (nd k) v → (∃ m, m < s.length ∧ nameB s k m = true ∧ Same (P k) v (P m) (nd m)) ∨ (codeY s k % 2 = 1 ∧ Same (P k) v pic0 0) ∨ (codeY s k / 2 = 1 ∧ Same (P k) v pic1 0)) ∧
  (∀ m, m < s.length → nameB s k m = true → ∃ v, Mem (P k) (nd k) v ∧ Same (P k) v (P m) (nd m)) ∧ (codeY s k % 2 = 1 → ∃ v, Mem (P k) (nd k) v ∧ Same (P k) v pic0 0) ∧ (codeY s k / 2 = 1 → ∃ v, Mem (P k) (nd k) v ∧ Same (P k) v pic1 0)
/-- THE LAW OF SOLUTIONS: each system has one. -/
theorem sol_unique {s : List (List Int × Int)} {P : Nat → List (List Int)} {nd : Nat → Nat} (h : Sol s P nd) (hn : ∀ k, k < s.length → nd k < (P k).length) {k : Nat} (hk : k < s.length) : Same (P k) (nd k) (solL s) k := by
  refine ⟨fun x y => (∃ j, j < s.length ∧ Same (P k) x (P j) (nd j) ∧ y = j) ∨ (Same (P k) x pic0 0 ∧ y = s.length) ∨ (Same (P k) x pic1 0 ∧ y = s.length + 1), ?_, .inl ⟨k, hk, Same.refl (hn k hk), rfl⟩⟩
  rintro x y (⟨j, hj, hs, rfl⟩ | ⟨hs, rfl⟩ | ⟨hs, rfl⟩)
  · obtain ⟨h1, h2, h3, h4⟩ := h y hj
    refine ⟨hs.lt.1, by rw [solL_len]; omega, fun v hv ha => ?_, fun u hu ha => ?_⟩
    · obtain ⟨v', hv', ha', hvv⟩ := hs.to hv ha
      rcases h1 v' ⟨hv', ha'⟩ with ⟨m, hm, hb, hms⟩ | ⟨hc, hms⟩ | ⟨hc, hms⟩
      · have hmem := (sol_mem hj).2 (.inl ⟨hm, hb⟩)
        exact ⟨m, hmem.1, hmem.2, .inl ⟨m, hm, hvv.trans hms, rfl⟩⟩
      · have hmem := (sol_mem hj).2 (.inr (.inl ⟨rfl, hc⟩))
        exact ⟨_, hmem.1, hmem.2, .inr (.inl ⟨hvv.trans hms, rfl⟩)⟩
      · have hmem := (sol_mem hj).2 (.inr (.inr ⟨rfl, hc⟩))
        exact ⟨_, hmem.1, hmem.2, .inr (.inr ⟨hvv.trans hms, rfl⟩)⟩
    · rcases (sol_mem hj).1 ⟨hu, ha⟩ with ⟨hm, hb⟩ | ⟨rfl, hc⟩ | ⟨rfl, hc⟩
      · obtain ⟨v', hv', hms⟩ := h2 u hm hb
        obtain ⟨v, hv, hav, hvv⟩ := hs.symm.to hv'.1 hv'.2
        exact ⟨v, hv, hav, .inl ⟨u, hm, hvv.symm.trans hms, rfl⟩⟩
      · obtain ⟨v', hv', hms⟩ := h3 hc
        obtain ⟨v, hv, hav, hvv⟩ := hs.symm.to hv'.1 hv'.2
        exact ⟨v, hv, hav, .inr (.inl ⟨hvv.symm.trans hms, rfl⟩)⟩
      · obtain ⟨v', hv', hms⟩ := h4 hc
        obtain ⟨v, hv, hav, hvv⟩ := hs.symm.to hv'.1 hv'.2
        exact ⟨v, hv, hav, .inr (.inr ⟨hvv.symm.trans hms, rfl⟩)⟩
  · refine ⟨hs.lt.1, by rw [solL_len]; omega, fun v hv ha => ?_, fun u hu ha => absurd (show Mem (solL s) s.length u from ⟨hu, ha⟩) sol_mem0⟩
    obtain ⟨v', hv', ha', _⟩ := hs.to hv ha
    exact absurd (show Mem pic0 0 v' from ⟨hv', ha'⟩) pic0_mem
  · refine ⟨hs.lt.1, by rw [solL_len]; omega, fun v hv ha => ?_, fun u hu ha => ?_⟩
    · obtain ⟨v', hv', ha', hvv⟩ := hs.to hv ha
      have e := pic1_mem0.1 ⟨hv', ha'⟩
      subst e
      have hm := (sol_mem1 (s := s)).2 rfl
      exact ⟨s.length, hm.1, hm.2, .inr (.inl ⟨hvv.trans (code_pic1'.inj (by decide) 0 (by decide) code_pic0), rfl⟩)⟩
    · have e := (sol_mem1 (s := s)).1 ⟨hu, ha⟩
      subst e
      have hm := pic1_mem0.2 rfl
      obtain ⟨v, hv, hav, hvv⟩ := hs.symm.to hm.1 hm.2
      exact ⟨v, hv, hav, .inr (.inl ⟨hvv.symm.trans (code_pic1'.inj (by decide) 0 (by decide) code_pic0), rfl⟩)⟩
/-- The picture of a system is a solution. -/
theorem sol_self (s : List (List Int × Int)) : Sol s (fun _ => solL s) (fun k => k) := by
  intro k hk
  have h0 : Same (solL s) s.length pic0 0 := (sol_code0 s).inj (by rw [solL_len]; omega) 0 (by decide) code_pic0
  have h1 : Same (solL s) (s.length + 1) pic1 0 := (sol_code1 s).inj (by rw [solL_len]; omega) 0 (by decide) code_pic1
  refine ⟨fun v hv => ?_, fun m hm hb => ?_, fun hc => ?_, fun hc => ?_⟩
  · rcases (sol_mem hk).1 hv with ⟨hm, hb⟩ | ⟨rfl, hc⟩ | ⟨rfl, hc⟩
    · exact .inl ⟨v, hm, hb, Same.refl (by rw [solL_len]; omega)⟩
    · exact .inr (.inl ⟨hc, h0⟩)
    · exact .inr (.inr ⟨hc, h1⟩)
  · exact ⟨m, (sol_mem hk).2 (.inl ⟨hm, hb⟩), Same.refl (by rw [solL_len]; omega)⟩
  · exact ⟨_, (sol_mem hk).2 (.inr (.inl ⟨rfl, hc⟩)), h0⟩
  · exact ⟨_, (sol_mem hk).2 (.inr (.inr ⟨rfl, hc⟩)), h1⟩
/-- A name without members among the names has its code. -/
theorem sol_code {s : List (List Int × Int)} {k : Nat} (hk : k < s.length) (h0 : 0 ≤ codeY s k) (h3 : codeY s k ≤ 3) (hno : ∀ m, m < s.length → nameB s k m = false) : Code (solL s) k (codeY s k).toNat := by
  refine .mk k _ (fun v => if v = s.length then 0 else 1) (fun v _ => by show (if v = s.length then 0 else 1) ≤ 15; split <;> omega) (fun v hv => ?_) (fun m => ?_)
  · rcases (sol_mem hk).1 hv with ⟨hm, hb⟩ | ⟨rfl, _⟩ | ⟨rfl, _⟩
    · rw [hno v hm] at hb; cases hb
    · show Code (solL s) s.length (if s.length = s.length then 0 else 1)
      rw [if_pos rfl]; exact sol_code0 s
    · show Code (solL s) (s.length + 1) (if s.length + 1 = s.length then 0 else 1)
      rw [if_neg (by omega)]; exact sol_code1 s
  · obtain ⟨c, hc⟩ : ∃ c : Nat, codeY s k = c := ⟨(codeY s k).toNat, by omega⟩
    rw [hc, Int.toNat_natCast]
    have hc4 : c = 0 ∨ c = 1 ∨ c = 2 ∨ c = 3 := by omega
    have key : c.testBit m = true ↔ (m = 0 ∧ c % 2 = 1) ∨ (m = 1 ∧ c / 2 = 1) := by
      match m with
      | 0 => rw [Nat.testBit_zero]; simp
      | 1 => rw [Nat.testBit_succ, Nat.testBit_zero]; rcases hc4 with rfl | rfl | rfl | rfl <;> simp
      | m + 2 =>
        have : c.testBit (m + 2) = false := Nat.testBit_lt_two_pow (Nat.lt_of_lt_of_le (show c < 2 ^ 2 by omega) (Nat.pow_le_pow_right (by omega) (by omega)))
        rw [this]; simp
    rw [key]
    constructor
    · rintro (⟨rfl, h⟩ | ⟨rfl, h⟩)
      · exact ⟨s.length, (sol_mem hk).2 (.inr (.inl ⟨rfl, by omega⟩)), by simp⟩
      · exact ⟨s.length + 1, (sol_mem hk).2 (.inr (.inr ⟨rfl, by omega⟩)), by simp⟩
    · rintro ⟨v, hv, e⟩
      rcases (sol_mem hk).1 hv with ⟨hm, hb⟩ | ⟨rfl, h⟩ | ⟨rfl, h⟩
      · rw [hno v hm] at hb; cases hb
      · left; simp at e; omega
      · right; simp at e; omega
/-- Names with one sentence are alike. -/
theorem sol_alike {s : List (List Int × Int)} {a b : Nat} (ha : a < s.length) (hb : b < s.length) (h : s.getD a ([], 0) = s.getD b ([], 0)) : Same (solL s) a (solL s) b := by
  have key : ∀ u, Mem (solL s) a u ↔ Mem (solL s) b u := fun u => by
    rw [sol_mem ha, sol_mem hb]
    unfold nameB codeY
    rw [h]
  refine same_of_members (by rw [solL_len]; omega) (by rw [solL_len]; omega) (fun k hk hak => ?_) (fun k hk hak => ?_)
  · have h1 := (key k).1 ⟨hk, hak⟩
    exact ⟨k, h1.1, h1.2, Same.refl h1.1⟩
  · have h1 := (key k).2 ⟨hk, hak⟩
    exact ⟨k, h1.1, h1.2, Same.refl h1.1⟩
end Go.Hyp
namespace Go.Hyp
open Go.RowKit Go.Deep
/-- A number of a name. -/
def numB (s : List (List Int × Int)) (n : Int) : Bool := decide (0 ≤ n) && decide (n < s.length)
/-- What AlikeNames answers. -/
def alikeB (s : List (List Int × Int)) (a b : Int) : Bool := sysB s && numB s a && numB s b && simB (solL s) a.toNat b.toNat
theorem numB_nat {s : List (List Int × Int)} {n : Int} (h : numB s n = true) : ∃ i : Nat, n = i ∧ i < s.length := by
  unfold numB at h
  simp only [Bool.and_eq_true, decide_eq_true_eq] at h
  obtain ⟨i, rfl⟩ := Int.eq_ofNat_of_zero_le h.1
  exact ⟨i, rfl, by omega⟩
theorem numB_no {s : List (List Int × Int)} {n : Int} (h : numB s n = false) : n < 0 ∨ (0 ≤ n ∧ (s.length : Int) ≤ n) := by
  unfold numB at h
  rw [Bool.and_eq_false_iff, decide_eq_false_iff_not, decide_eq_false_iff_not] at h
  omega
theorem sol_pic {s : List (List Int × Int)} (h : sysB s = true) : picB (solL s) = true := sq_picB (solL_sq s) (by rw [solL_len]; omega) (by rw [solL_len]; have := (sysB_at h).1; omega)
end Go.Hyp
namespace Go.Proofs.Ytfjodcfbhpglhaa
open Go.RowKit Go.Hyp Go.Deep

end Go.Proofs.Ytfjodcfbhpglhaa
namespace Go.Hyp
open Go.RowKit Go.Deep
theorem solvedBy_small (s : List (List Int × Int)) : (solR s).length ≤ 1048576 ∧ lens (solR s) ≤ 1048576 := by
  cases h : sysB s
  · rw [solR_no h]; exact ⟨by simp, by show 0 ≤ _; omega⟩
  · rw [solR_yes h]
    have := (sysB_at h).1
    exact mat_small _ (by omega)
end Go.Hyp
namespace Go.Proofs.Ytfjodcfbhpglhaa
open Go.RowKit Go.Hyp Go.Deep

set_option maxHeartbeats 800000 in
theorem implSolvedBy_any (a : Option Addr) (cap : Nat) (s : List (List Int × Int)) (w : World) (B C : Nat) (h : RdY w B C a s) (hC : C ≤ w.heap.size) (hl : s.length ≤ maxLen) :
    Calls Try.prog 16 #[.slice a s.length cap] w (RetII 3 24 (solR s) w) := by
  have F := Lib.hid h
  have HIS := Lib.hid (isSystem_any a cap s w B C h hC hl)
  clear h
  cases hs : sysB s
  · have HS := Lib.hid hs
    have HE := Lib.hid (solR_no hs)
    clear hs
    go_enter Try.func16, Try.ntmps16
    go_wp2_with fail
    refine HIS.out.mono ?_
    rintro e w1 ⟨rfl, hb⟩
    rw [HS.out]
    have HB := Lib.hid hb
    clear hb
    go_wp2_with fail
    go_ret
    exact retII_of HE.out.symm (OwII_nil _ _ _ _ _) HB.out
  · have HS := Lib.hid hs
    have HE := Lib.hid (solR_yes hs)
    clear hs
    go_enter Try.func16, Try.ntmps16
    go_wp2_with fail
    refine HIS.out.mono ?_
    rintro e w1 ⟨rfl, hb⟩
    rw [HS.out]
    have HB := Lib.hid hb
    have hz1 : w.heap.size ≤ w1.heap.size := hb.size
    clear hb
    go_wp2_with fail
    refine (solvedBy_any a cap s w1 B C (F.out.below HB.out hC) (by omega) HS.out).mono ?_
    rintro e w2 ⟨x, c, rfl, ho, hb⟩
    have HO := Lib.hid ho
    have HB2 := Lib.hid (HB.out.trans (hb.mono hz1))
    clear ho hb
    go_wp2_with fail
    go_ret
    exact retII_of HE.out.symm (HO.out.mono hz1 (Nat.le_refl _)) HB2.out
end Go.Proofs.Ytfjodcfbhpglhaa
