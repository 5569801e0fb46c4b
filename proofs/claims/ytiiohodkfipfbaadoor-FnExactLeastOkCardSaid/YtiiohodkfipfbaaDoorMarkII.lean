/- The laws' marks over rows of numbers. -/
import Derived.Test.YtiiohodkfipfbaaDoorPic
import Derived.Test.YtiiohodkfipfbaaDoorOwn
namespace Go.Hyp
open Go.RowKit Go.Deep
/-- Rows of marks, as long as those of p. -/
def marksII (K : Nat) (p : List (List Int)) : List (List Int) := (List.range p.length).map fun i => marks (K + lens (p.take i)) (p.getD i []).length
theorem marksII_len (K : Nat) (p : List (List Int)) : (marksII K p).length = p.length := by simp [marksII]
theorem marksII_get (K : Nat) (p : List (List Int)) (i : Nat) (h : i < (marksII K p).length) : (marksII K p)[i] = marks (K + lens (p.take i)) (p.getD i []).length := by simp [marksII]
/-- The first k rows marked. -/
def markUp (K : Nat) (p : List (List Int)) (k : Nat) : List (List Int) := (List.range p.length).map fun i => if i < k then marks (K + lens (p.take i)) (p.getD i []).length else p.getD i []
theorem markUp_len (K : Nat) (p : List (List Int)) (k : Nat) : (markUp K p k).length = p.length := by simp [markUp]
theorem markUp_getD (K : Nat) (p : List (List Int)) (k i : Nat) (h : i < p.length) : (markUp K p k).getD i [] = if i < k then marks (K + lens (p.take i)) (p.getD i []).length else p.getD i [] := by simp [markUp, List.getD, h]
theorem markUp_zero (K : Nat) (p : List (List Int)) : markUp K p 0 = p := by
  apply List.ext_getElem (by rw [markUp_len])
  intro i h1 h2
  simp [markUp, List.getD, h2]
theorem markUp_all (K : Nat) (p : List (List Int)) : markUp K p p.length = marksII K p := by
  unfold markUp marksII
  apply List.map_congr_left
  intro i hi
  rw [if_pos (by simpa using hi)]
theorem markUp_set (K : Nat) (p : List (List Int)) (k : Nat) (_h : k < p.length) : (markUp K p k).set k (marks (K + lens (p.take k)) (p.getD k []).length) = markUp K p (k + 1) := by
  apply List.ext_getElem (by simp [markUp_len])
  intro i h1 h2
  rw [List.getElem_set]
  have hi : i < p.length := by rw [markUp_len] at h2; exact h2
  have e1 := markUp_getD K p k i hi
  have e2 := markUp_getD K p (k + 1) i hi
  rw [List.getD, List.getElem?_eq_getElem (by rw [markUp_len]; exact hi)] at e1
  rw [List.getD, List.getElem?_eq_getElem h2] at e2
  simp only [Option.getD_some] at e1 e2
  rw [e1, e2]
  by_cases e : k = i
  · subst e; rw [if_pos rfl, if_pos (by omega)]
  · rw [if_neg e]
    by_cases h : i < k
    · rw [if_pos h, if_pos (by omega)]
    · rw [if_neg h, if_neg (by omega)]
/-- One row of owned rows rewritten in place. -/
theorem OwII.rowNew {w : World} {E R B C : Nat} {a : Option Addr} {cap : Nat} {p : List (List Int)} (h : OwII w E R B C a cap p) (i : Nat) (hi : i < p.length) :
    ∃ g ar cr, a = some ⟨g, 0, none⟩ ∧ g < w.heap.size ∧ w.cell? ⟨g, i, none⟩ = some (.slice ar (p.getD i []).length cr) ∧ OwI w E B C ar cr (p.getD i []) ∧
      ∀ w' l, OwI w' E B C ar cr l → l.length = (p.getD i []).length → Chg (fun b => blockOf ar = some b) w w' → OwII w' E R B C a cap (p.set i l) := by
  obtain ⟨ra, rc, h1, h2, h3, h4⟩ := h
  rcases h1 with ⟨_, h0, _⟩ | ⟨g, F, e, g1, g2, hr, hl, hm, hf⟩
  · omega
  · refine ⟨g, ra i, rc i, e, hr.lt, by rw [hr.cell (by omega), hf i hi], h2 i hi, fun w' l hl' hll hc => ?_⟩
    have hls : (p.set i l).length = p.length := by simp
    have eg : ∀ k, k < p.length → (p.set i l).getD k [] = if k = i then l else p.getD k [] := fun k hk => by
      unfold List.getD
      rw [List.getElem?_set]
      by_cases e : i = k
      · subst e; simp [hk]
      · rw [if_neg e, if_neg (fun h => e h.symm)]
    have hgb : ¬ blockOf (ra i) = some g := fun hb => (h4 i hi).blocks g (by rw [e]; rfl) hb
    refine ⟨ra, rc, .inr ⟨g, F, e, g1, g2, hr.of_block (hc.block g hr.lt hgb), by omega, hm, fun k hk => ?_⟩, fun k hk => ?_, fun k m hkm hm' => h3 k m hkm (by omega), fun k hk => h4 k (by omega)⟩
    · rw [hls] at hk
      rw [hf k hk]
      show Value.slice (ra k) (p.getD k []).length (rc k) = Value.slice (ra k) (List.getD _ k []).length (rc k)
      rw [eg k hk]
      by_cases e : k = i
      · subst e; rw [if_pos rfl, hll]
      · rw [if_neg e]
    · rw [hls] at hk
      rw [eg k hk]
      by_cases ek : k = i
      · subst ek; rw [if_pos rfl]; exact hl'
      · rw [if_neg ek]
        refine (h2 k hk).keep hc (fun b hb hs => ?_)
        rcases Nat.lt_or_gt_of_ne ek with hlt | hlt
        · exact (h3 k i hlt hi).blocks b hb hs
        · exact (h3 i k hlt hk).blocks b hs hb
theorem lens_take_succ (p : List (List Int)) (k : Nat) (h : k < p.length) : lens (p.take (k + 1)) = lens (p.take k) + (p.getD k []).length := by
  rw [lens_succ p k h]; simp [List.getD, h]
end Go.Hyp
namespace Go.Proofs.YtiiohodkfipfbaaDoor
open Go.RowKit Go.Hyp Go.Deep

set_option maxHeartbeats 400000 in
theorem markIntSS_any (a : Option Addr) (cap : Nat) (p : List (List Int)) (K : Nat) (w : World) (B C : Nat) (h : OwII w 3 38 B C a cap p) (hC : C ≤ w.heap.size) (hl : p.length ≤ 1048576) (hls : lens p ≤ 1048576) (hK : K ≤ 4194304) :
    Calls Tryd.prog 34 #[.slice a p.length cap, .int .i64 K] w fun e w' => e = .returned (.int .i64 ((K + lens p : Nat) : Int)) ∧ OwII w' 3 38 B C a cap (marksII K p) ∧ Chg (fun b => B ≤ b ∧ b < C) w w' := by
  have HO := Lib.hid h
  clear h
  go_enter Tryd.func34, Tryd.ntmps34
  go_wp2_with fail
  go_loopw [1, 5] (fun m i wr => ∃ j M : Nat, j ≤ p.length ∧ i = .int .i64 j ∧ m = .int .i64 M ∧ M = K + lens (p.take j) ∧ OwII wr 3 38 B C a cap (markUp K p j) ∧ Chg (fun b => B ≤ b ∧ b < C) w wr) (fun _ i _ => p.length - (intOf i).toNat)
  case atStart => exact ⟨0, K, Nat.zero_le _, rfl, rfl, by simp [lens], by rw [markUp_zero]; exact HO.out, Chg.refl _ _⟩
  case round =>
    obtain ⟨j, M, hj, rfl, rfl, hM, ho, hc⟩ := hrel
    have HMM := Lib.hid hM
    clear hM
    have HO1 := Lib.hid ho
    have HC := Lib.hid hc
    clear ho hc HO
    by_cases hlt : j < p.length
    · obtain ⟨g, ar, cr, rfl, hg, hcell, hrow, hnew⟩ := HO1.out.rowNew j (by rw [markUp_len]; exact hlt)
      have e0 := markUp_getD K p j j hlt
      rw [if_neg (by omega)] at e0
      rw [e0] at hcell hrow hnew
      have hle := lens_le p (j + 1)
      have hsucc := lens_take_succ p j hlt
      have hset := markUp_set K p j hlt
      obtain ⟨row, hrw⟩ : ∃ row, row = p.getD j [] := ⟨_, rfl⟩
      rw [← hrw] at hcell hrow hnew hsucc hset
      have HSET := Lib.hid hset
      clear hrw hset e0
      have HNEW := Lib.hid hnew
      have HROW := Lib.hid hrow
      have HSU := Lib.hid hsucc
      have hrl : row.length ≤ 1048576 := by omega
      have hKl : M ≤ 1073741824 := by have := HMM.out; omega
      have hji : (j : Int) < (p.length : Int) := by omega
      clear hnew hrow hsucc hle
      go_wp2_with fail
      refine (markIntS_any ar cr row M wr B C HROW.out hrl hKl).mono ?_
      rintro e w1 ⟨rfl, ho, hc1, _⟩
      have HO2 := Lib.hid (HNEW.out w1 _ ho (by rw [marks_len]) hc1)
      have HC1 := Lib.hid (HC.out.trans (hc1.wide (fun k hk => HROW.out.block_in hk)))
      clear ho hc1
      go_wp2_with fail
      go_roundw
      case rel => exact ⟨j + 1, M + row.length, by omega, by go_num, rfl, by rw [HSU.out, HMM.out]; omega, by have := HO2.out; rwa [HMM.out, HSET.out] at this, HC1.out⟩
      case measure => simp [intOf]; omega
    · obtain rfl : j = p.length := by omega
      have e : p.take p.length = p := List.take_of_length_le (Nat.le_refl _)
      go_wp2_with fail
      go_ret
      exact ⟨ret_int (by (rw [HMM.out, e]) <;> omega), by have := HO1.out; rwa [markUp_all] at this, HC.out⟩

theorem markIntSR_any (a : Option Addr) (cap : Nat) (l : List Int) (K : Nat) (w : World) (B C : Nat) (h : OwI w 3 B C a cap l) (_hC : C ≤ w.heap.size) (hl : l.length ≤ 1048576) (_hls : l.length ≤ 1048576) (hK : K ≤ 4194304) :
    Calls Tryd.prog 71 #[.slice a l.length cap, .int .i64 K] w fun e w' => e = .returned (.int .i64 ((K + l.length : Nat) : Int)) ∧ OwI w' 3 B C a cap (marks K l.length) ∧ Chg (fun b => B ≤ b ∧ b < C) w w' :=
  (markIntS_any a cap l K w B C h hl (by omega)).mono fun _ _ ⟨h1, h2, h3, _⟩ => ⟨h1, h2, h3.wide (fun _ hk => h.block_in hk)⟩

set_option maxHeartbeats 400000 in
theorem heldIntSS_any (a : Option Addr) (cap : Nat) (p : List (List Int)) (K : Nat) (w : World) (B C : Nat) (h : RdII w B C a (marksII K p)) (hl : p.length ≤ 1048576) (hls : lens p ≤ 1048576) (hK : K ≤ 4194304) :
    Calls Tryd.prog 35 #[.slice a p.length cap, .int .i64 K] w fun e w' => e = .returned (.int .i64 ((K + lens p : Nat) : Int)) ∧ w = w' := by
  have HO := Lib.hid h
  clear h
  go_enter Tryd.func35, Tryd.ntmps35
  go_wp2_with fail
  go_loop [1, 4, 5] (fun m r i => ∃ j M : Nat, j ≤ p.length ∧ i = .int .i64 j ∧ r = .int .i64 0 ∧ m = .int .i64 M ∧ M = K + lens (p.take j)) (fun _ _ i => p.length - (intOf i).toNat)
  case atStart => exact ⟨0, K, Nat.zero_le _, rfl, rfl, rfl, by simp [lens]⟩
  case round =>
    obtain ⟨j, M, hj, rfl, rfl, rfl, hM⟩ := hrel
    have HMM := Lib.hid hM
    clear hM
    by_cases hlt : j < p.length
    · obtain ⟨b, off, ar, cr, ea, _, _, hcell, hrow, _⟩ := HO.out.at j (by rw [marksII_len]; exact hlt)
      rw [marksII_get] at hcell hrow
      rw [marks_len] at hcell
      have hle := lens_le p (j + 1)
      have hsucc := lens_take_succ p j hlt
      obtain ⟨row, hrw⟩ : ∃ row, row = p.getD j [] := ⟨_, rfl⟩
      rw [← hrw] at hcell hrow hsucc
      clear hrw
      have HROW := Lib.hid hrow
      have HSU := Lib.hid hsucc
      have hrl : row.length ≤ 1048576 := by omega
      have hKl : M ≤ 1073741824 := by have := HMM.out; omega
      have hji : (j : Int) < (p.length : Int) := by omega
      rw [← HMM.out] at HROW
      have hn : ¬ (((M + row.length : Nat) : Int) < 0) := by omega
      subst ea
      clear hrow hsucc hle
      go_wp2_with fail
      refine (heldIntS_any ar cr row.length M w B C HROW.out hrl hKl).mono ?_
      rintro e w' ⟨rfl, rfl⟩
      go_wp2_with fail
      go_round
      case rel => exact ⟨j + 1, M + row.length, by omega, by go_num, rfl, rfl, by rw [HSU.out, HMM.out]; omega⟩
      case measure => simp [intOf]; omega
    · obtain rfl : j = p.length := by omega
      have e : p.take p.length = p := List.take_of_length_le (Nat.le_refl _)
      go_wp2_with fail
      go_ret
      exact ⟨ret_int (by (rw [HMM.out, e]) <;> omega), rfl⟩
end Go.Proofs.YtiiohodkfipfbaaDoor
