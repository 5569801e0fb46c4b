/- The laws' marks over systems. -/
import Derived.Test.YtgfoolneophkcaaSaid
import Derived.Test.YtgfoolneophkcaaMark
namespace Go.Hyp
open Go.RowKit Go.Deep
/-- The mark at which sentence i begins. -/
def seqK (K : Nat) (s : List (List Int × Int)) (i : Nat) : Nat := K + lensY (s.take i) + i
def markedY (K : Nat) (s : List (List Int × Int)) (i : Nat) : List Int × Int := (marks (seqK K s i) (s.getD i ([], 0)).1.length, ((seqK K s i + (s.getD i ([], 0)).1.length : Nat) : Int))
/-- Sentences of marks. -/
def marksY (K : Nat) (s : List (List Int × Int)) : List (List Int × Int) := (List.range s.length).map (markedY K s)
theorem marksY_len (K : Nat) (s : List (List Int × Int)) : (marksY K s).length = s.length := by simp [marksY]
theorem marksY_get (K : Nat) (s : List (List Int × Int)) (i : Nat) (h : i < (marksY K s).length) : (marksY K s)[i] = markedY K s i := by simp [marksY]
def markUpY (K : Nat) (s : List (List Int × Int)) (k : Nat) : List (List Int × Int) := (List.range s.length).map fun i => if i < k then markedY K s i else s.getD i ([], 0)
theorem markUpY_len (K : Nat) (s : List (List Int × Int)) (k : Nat) : (markUpY K s k).length = s.length := by simp [markUpY]
theorem markUpY_get (K : Nat) (s : List (List Int × Int)) (k i : Nat) (h : i < (markUpY K s k).length) : (markUpY K s k)[i] = if i < k then markedY K s i else s.getD i ([], 0) := by simp [markUpY]
theorem markUpY_zero (K : Nat) (s : List (List Int × Int)) : markUpY K s 0 = s := by
  apply List.ext_getElem (by rw [markUpY_len])
  intro i h1 h2
  rw [markUpY_get, if_neg (by omega)]
  simp [List.getD, h2]
theorem markUpY_all (K : Nat) (s : List (List Int × Int)) : markUpY K s s.length = marksY K s := by
  apply List.ext_getElem (by rw [markUpY_len, marksY_len])
  intro i h1 h2
  rw [markUpY_get, marksY_get, if_pos (by rw [marksY_len] at h2; exact h2)]
theorem markUpY_set (K : Nat) (s : List (List Int × Int)) (k : Nat) : (markUpY K s k).set k (markedY K s k) = markUpY K s (k + 1) := by
  apply List.ext_getElem (by simp [markUpY_len])
  intro i h1 h2
  rw [List.getElem_set, markUpY_get, markUpY_get]
  by_cases e : k = i
  · subst e; rw [if_pos rfl, if_pos (by omega)]
  · rw [if_neg e]
    by_cases h : i < k
    · rw [if_pos h, if_pos (by omega)]
    · rw [if_neg h, if_neg (by omega)]
/-- Other names in a sentence's place. -/
theorem OwY.namesNew {w : World} {E T B C : Nat} {a : Option Addr} {cap : Nat} {s : List (List Int × Int)} (h : OwY w E T B C a cap s) (i : Nat) (hi : i < s.length) :
    ∃ g an cn, a = some ⟨g, 0, none⟩ ∧ B ≤ g ∧ g < C ∧ g < w.heap.size ∧ w.cell? ⟨g, i * 2, none⟩ = some (.slice an s[i].1.length cn) ∧ w.cell? ⟨g, i * 2 + 1, none⟩ = some (.int .i64 s[i].2) ∧ (∀ o, w.frozen? ⟨g, o, none⟩ = false) ∧ OwI w E B C an cn s[i].1 ∧ blockOf an ≠ some g ∧
      ∀ w' l, OwI w' E B C an cn l → l.length = s[i].1.length → Chg (fun b => blockOf an = some b) w w' → OwY w' E T B C a cap (s.set i (l, s[i].2)) := by
  obtain ⟨ra, rc, h1, h2, h3, h4⟩ := h
  have eg0 : s.getD i ([], 0) = s[i] := by simp [List.getD, hi]
  rcases h1 with ⟨_, h0, _⟩ | ⟨g, F, e, g1, g2, hr, hl, hm, hf⟩
  · subst h0; simp at hi
  · have hfi := hf i hi
    have h2i := h2 i hi
    rw [eg0] at hfi h2i
    have hgb : blockOf (ra i) ≠ some g := fun hb => (h4 i hi).blocks g (by rw [e]; rfl) hb
    refine ⟨g, ra i, rc i, e, g1, g2, hr.lt, by rw [hr.cell (by omega), hfi.1], by rw [hr.cell (by omega), hfi.2], hr.frozen, h2i, hgb, fun w' l hl' hll hc => ?_⟩
    have hls : (s.set i (l, s[i].2)).length = s.length := by simp
    refine ⟨ra, rc, .inr ⟨g, F, e, g1, g2, hr.of_block (hc.block g hr.lt hgb), by omega, hm, fun k hk => ?_⟩, fun k hk => ?_, by rwa [hls], by rwa [hls]⟩
    · rw [hls] at hk
      rw [set_get _ _ _ _ hk]
      by_cases ek : k = i
      · subst ek; rw [if_pos rfl, hfi.1, hfi.2]; exact ⟨by rw [hll], rfl⟩
      · rw [if_neg ek]; exact hf k hk
    · rw [hls] at hk
      rw [set_get _ _ _ _ hk]
      by_cases ek : k = i
      · subst ek; rw [if_pos rfl]; exact hl'
      · rw [if_neg ek]
        refine (h2 k hk).keep hc (fun b hb hs => ?_)
        rcases Nat.lt_or_gt_of_ne ek with hlt | hlt
        · exact (h3 k i hlt hi).blocks b hb hs
        · exact (h3 i k hlt hk).blocks b hs hb
theorem OwY.len {w : World} {E T B C : Nat} {a : Option Addr} {cap : Nat} {s : List (List Int × Int)} (h : OwY w E T B C a cap s) : s.length ≤ maxLen := by
  obtain ⟨ra, rc, h1, _⟩ := h
  rcases h1 with ⟨_, rfl, _⟩ | ⟨g, F, _, _, _, _, h5, h6, _⟩
  · simp
  · omega
end Go.Hyp
namespace Go.Proofs.Ytgfoolneophkcaa
open Go.RowKit Go.Hyp Go.Deep

set_option maxRecDepth 4000 in
set_option maxHeartbeats 800000 in
theorem markSaidS_any (a : Option Addr) (cap : Nat) (s : List (List Int × Int)) (K : Nat) (w : World) (B C : Nat) (h : OwY w 3 75 B C a cap s) (hC : C ≤ w.heap.size) (hl : s.length ≤ 1048576) (hls : lensY s ≤ 1048576) (hK : K ≤ 4194304) :
    Calls Try.prog 43 #[.slice a s.length cap, .int .i64 K] w fun e w' => e = .returned (.int .i64 ((seqK K s s.length : Nat) : Int)) ∧ OwY w' 3 75 B C a cap (marksY K s) ∧ Chg (fun b => B ≤ b ∧ b < C) w w' := by
  have HO := Lib.hid h
  clear h
  go_enter Try.func43, Try.ntmps43
  go_wp2_with fail
  go_loopw [1, 5] (fun m i wr => ∃ j M : Nat, j ≤ s.length ∧ i = .int .i64 j ∧ m = .int .i64 M ∧ M = seqK K s j ∧ OwY wr 3 75 B C a cap (markUpY K s j) ∧ Chg (fun b => B ≤ b ∧ b < C) w wr) (fun _ i _ => s.length - (intOf i).toNat)
  case atStart => exact ⟨0, K, Nat.zero_le _, rfl, rfl, by simp [seqK, lensY, lens], by rw [markUpY_zero]; exact HO.out, Chg.refl _ _⟩
  case round =>
    obtain ⟨j, M, hj, rfl, rfl, hM, ho, hc⟩ := hrel
    have HMM := Lib.hid hM
    have HO1 := Lib.hid ho
    have HC := Lib.hid hc
    clear hM ho hc HO
    by_cases hlt : j < s.length
    · obtain ⟨g, an, cn, rfl, hg1, hg2, hgl, hcell, hcode, hfz, hrow, hne, hnew⟩ := HO1.out.namesNew j (by rw [markUpY_len]; exact hlt)
      have e0 := markUpY_get K s j j (by rw [markUpY_len]; exact hlt)
      rw [if_neg (by omega)] at e0
      rw [e0] at hcell hcode hrow hnew
      obtain ⟨X, hX⟩ : ∃ X, X = s.getD j ([], 0) := ⟨_, rfl⟩
      rw [← hX] at hcell hcode hrow hnew
      have hXe : X = s[j] := by rw [hX]; simp [List.getD, hlt]
      have hle := lensY_le s (j + 1)
      have hsucc := lensY_succ s j hlt
      have hle2 := lensY_le s j
      rw [← hXe] at hsucc
      obtain ⟨nm, cd⟩ := X
      have HMK : Hid (markedY K s j = (marks M nm.length, ((M + nm.length : Nat) : Int))) := Lib.hid (by
        unfold markedY
        rw [← hX, ← HMM.out])
      have hrl : nm.length ≤ 1048576 := by
        have : (nm, cd).1.length = nm.length := rfl
        omega
      have hKl : M ≤ 1073741824 := by have := HMM.out; unfold seqK at this; omega
      have HSQ : Hid (seqK K s (j + 1) = M + nm.length + 1) := Lib.hid (by
        rw [HMM.out]
        unfold seqK
        rw [hsucc]
        show K + (lensY (s.take j) + nm.length) + (j + 1) = _
        omega)
      have HNEW := Lib.hid hnew
      have HROW := Lib.hid hrow
      have hji : (j : Int) < (s.length : Int) := by omega
      have hz := HC.out.size
      clear hnew hrow hX hXe hsucc hle e0 hle2
      go_wp2_with fail
      refine (markIntS_any an cn nm M wr B C HROW.out hrl hKl).mono ?_
      rintro e w1 ⟨rfl, ho, hc1, _⟩
      have HO2 := Lib.hid (HNEW.out w1 _ ho (by rw [marks_len]) hc1)
      have hC2 := HC.out.trans (hc1.wide (fun k hk => HROW.out.block_in hk))
      have HC2 := Lib.hid hC2
      have hgl1 : g < w1.heap.size := Nat.lt_of_lt_of_le hgl hc1.size
      have hcode1 : w1.cell? ⟨g, j * 2 + 1, none⟩ = some (.int .i64 cd) := by rw [World.cell?_of_block (w := wr) (hc1.block g hgl hne)]; exact hcode
      have hfz1 : w1.frozen? ⟨g, j * 2 + 1, none⟩ = false := by rw [World.frozen?_of_block (w := wr) (hc1.block g hgl hne)]; exact hfz _
      clear ho hc1 hC2 hcode hfz
      go_wp2_with fail
      go_roundw
      case rel =>
        refine ⟨j + 1, M + nm.length + 1, by omega, by go_num, int_eq (by omega), HSQ.out.symm, ?_, HC2.out.set (.inl ⟨hg1, hg2⟩) _⟩
        have h1 := HO2.out.setCode j (by rw [List.length_set, markUpY_len]; exact hlt) ((M + nm.length : Nat) : Int)
        rw [List.getElem_set_self, List.set_set, ← HMK.out, markUpY_set] at h1
        exact h1
      case measure => simp [intOf]; omega
    · obtain rfl : j = s.length := by omega
      go_wp2_with fail
      go_ret
      exact ⟨ret_int (by rw [HMM.out]), by have := HO1.out; rwa [markUpY_all] at this, HC.out⟩

set_option maxRecDepth 4000 in
set_option maxHeartbeats 800000 in
theorem heldSaidS_any (a : Option Addr) (cap : Nat) (s : List (List Int × Int)) (K : Nat) (w : World) (B C : Nat) (h : RdY w B C a (marksY K s)) (hl : s.length ≤ 1048576) (hls : lensY s ≤ 1048576) (hK : K ≤ 4194304) :
    Calls Try.prog 44 #[.slice a s.length cap, .int .i64 K] w fun e w' => e = .returned (.int .i64 ((seqK K s s.length : Nat) : Int)) ∧ w = w' := by
  have HO := Lib.hid h
  clear h
  go_enter Try.func44, Try.ntmps44
  go_wp2_with fail
  go_loop [1, 4, 5] (fun m r i => ∃ j M : Nat, j ≤ s.length ∧ i = .int .i64 j ∧ r = .int .i64 0 ∧ m = .int .i64 M ∧ M = seqK K s j) (fun _ _ i => s.length - (intOf i).toNat)
  case atStart => exact ⟨0, K, Nat.zero_le _, rfl, rfl, rfl, by simp [seqK, lensY, lens]⟩
  case round =>
    obtain ⟨j, M, hj, rfl, rfl, rfl, hM⟩ := hrel
    have HMM := Lib.hid hM
    clear hM
    by_cases hlt : j < s.length
    · obtain ⟨b, off, an, cn, ea, _, _, hcell, hcode, hrow, _⟩ := HO.out.at j (by rw [marksY_len]; exact hlt)
      rw [marksY_get] at hcell hcode hrow
      obtain ⟨X, hX⟩ : ∃ X, X = s.getD j ([], 0) := ⟨_, rfl⟩
      have hXe : X = s[j] := by rw [hX]; simp [List.getD, hlt]
      have hle := lensY_le s (j + 1)
      have hsucc := lensY_succ s j hlt
      have hle2 := lensY_le s j
      rw [← hXe] at hsucc
      obtain ⟨nm, cd⟩ := X
      have hmk : markedY K s j = (marks M nm.length, ((M + nm.length : Nat) : Int)) := by
        unfold markedY
        rw [← hX, ← HMM.out]
      rw [hmk] at hcell hcode hrow
      simp only [marks_len] at hcell
      have hrl : nm.length ≤ 1048576 := by
        have : (nm, cd).1.length = nm.length := rfl
        omega
      have hKl : M ≤ 1073741824 := by have := HMM.out; unfold seqK at this; omega
      have HSQ : Hid (seqK K s (j + 1) = M + nm.length + 1) := Lib.hid (by
        rw [HMM.out]
        unfold seqK
        rw [hsucc]
        show K + (lensY (s.take j) + nm.length) + (j + 1) = _
        omega)
      have HROW := Lib.hid hrow
      have hji : (j : Int) < (s.length : Int) := by omega
      have hn : ¬ (((M + nm.length : Nat) : Int) < 0) := by omega
      have hnb : (((M + nm.length : Nat) : Int) != ((M + nm.length : Nat) : Int)) = false := by simp
      subst ea
      clear hrow hX hXe hsucc hle hmk hle2
      go_wp2_with fail
      refine (heldIntS_any an cn nm.length M w B C HROW.out hrl hKl).mono ?_
      rintro e w' ⟨rfl, rfl⟩
      go_wp2_with fail
      go_round
      case rel => exact ⟨j + 1, M + nm.length + 1, by omega, by go_num, rfl, int_eq (by omega), HSQ.out.symm⟩
      case measure => simp [intOf]; omega
    · obtain rfl : j = s.length := by omega
      go_wp2_with fail
      go_ret
      exact ⟨ret_int (by rw [HMM.out]), rfl⟩
end Go.Proofs.Ytgfoolneophkcaa
