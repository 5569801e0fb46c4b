/- Orders of nodes: impl.isOrder, impl.reordered, and both Reordered. -/
import Derived.StillTailTactics
import Derived.Deep.RegionHeld3
import Derived.Deep.RegionLaw
import Derived.IntWalk
import Derived.Test.YtfjodcfbhpglhaaM7
import Derived.Test.YtfjodcfbhpglhaaM11
namespace Go.Hyp
open Go.RowKit Go.Deep
theorem RdI.takeI {w : World} {B C : Nat} {a : Option Addr} {l : List Int} (h : RdI w B C a l) (n : Nat) : RdI w B C a (l.take n) := by
  intro i hi
  have hi' : i < n ∧ i < l.length := by rw [List.length_take] at hi; omega
  have e : (l.take n).getD i 0 = l.getD i 0 := by simp [List.getD, hi'.1]
  rw [e]
  exact h i hi'.2
/-- The number at place i is a node, and no number ahead of it. -/
def ordAt (l : List Int) (n i : Nat) : Bool := decide (0 ≤ l.getD i 0) && (decide (l.getD i 0 < n) && !decide (l.getD i 0 ∈ l.take i))
/-- The first k numbers are nodes, each once. -/
def ordUp (l : List Int) (n k : Nat) : Bool := (List.range k).all (ordAt l n)
theorem ordUp_succ (l : List Int) (n k : Nat) : ordUp l n (k + 1) = (ordUp l n k && ordAt l n k) := by
  unfold ordUp; rw [List.range_succ, List.all_append]; simp
theorem ordUp_no {l : List Int} {n k m : Nat} (hk : k < m) (h : ordAt l n k = false) : ordUp l n m = false := by
  unfold ordUp
  rw [List.all_eq_false]
  exact ⟨k, by simpa using hk, by rw [h]; simp⟩
/-- All numbers below n, each once. -/
def isOrdB (l : List Int) (n : Nat) : Bool := ordUp l n l.length && decide (l.length = n)
theorem isOrd_at {l : List Int} {n i : Nat} (h : isOrdB l n = true) (hi : i < n) : ∃ x : Nat, l.getD i 0 = x ∧ x < n ∧ l.length = n := by
  unfold isOrdB at h
  simp only [Bool.and_eq_true, decide_eq_true_eq] at h
  have h1 := h.1
  unfold ordUp at h1
  rw [List.all_eq_true] at h1
  have h2 := h1 i (by rw [List.mem_range]; omega)
  unfold ordAt at h2
  simp only [Bool.and_eq_true, decide_eq_true_eq] at h2
  obtain ⟨x, hx⟩ := Int.eq_ofNat_of_zero_le h2.1
  exact ⟨x, hx, by omega, h.2⟩
theorem ord_cover {l : List Int} {n : Nat} (hl : l.length = n) (hr : ∀ i, i < n → ∃ x : Nat, l.getD i 0 = x ∧ x < n) : isOrdB l n = true ↔ ∀ x : Nat, x < n → (x : Int) ∈ l := by
  constructor
  · intro h x0 hx0
    apply Classical.byContradiction
    intro hno
    have hdist : ∀ i, i < n → idxI l (l.getD i 0) = i := fun i hi => by
      unfold isOrdB at h
      simp only [Bool.and_eq_true, decide_eq_true_eq] at h
      have h1 := h.1
      unfold ordUp at h1
      rw [List.all_eq_true] at h1
      refine idxI_of (by omega) (by rw [getD_lt (by omega)]) fun j hj e => ?_
      have h2 := h1 i (by rw [List.mem_range]; omega)
      unfold ordAt at h2
      simp only [Bool.and_eq_true, decide_eq_true_eq, Bool.not_eq_true', decide_eq_false_iff_not] at h2
      apply h2.2.2
      rw [← e, List.mem_take_iff_getElem]
      exact ⟨j, by omega, rfl⟩
    have h1 := cover_le n (((List.range n).filter (fun v => !decide (v = x0))).map fun v => idxI l ((v : Nat) : Int)) (fun i hi => by
      obtain ⟨x, e1, e2⟩ := hr i hi
      rw [List.mem_map]
      refine ⟨x, ?_, by rw [← e1]; exact hdist i hi⟩
      rw [List.mem_filter, List.mem_range]
      refine ⟨e2, ?_⟩
      have : x ≠ x0 := fun e => hno (by rw [← e, ← e1, getD_lt (by omega)]; exact List.getElem_mem _)
      simpa using this)
    rw [List.length_map] at h1
    have h2 := filter_lt (fun v => !decide (v = x0)) (fun _ => true) (List.range n) (fun _ _ _ => rfl) x0 (by simpa using hx0) (by simp) rfl
    have h3 : ((List.range n).filter fun _ => true).length = n := by rw [List.filter_eq_self.2 (fun _ _ => rfl), List.length_range]
    rw [h3] at h2
    omega
  · intro h
    apply Classical.byContradiction
    intro hno
    have : ∃ i, i < n ∧ l.getD i 0 ∈ l.take i := by
      apply Classical.byContradiction
      intro hn
      apply hno
      unfold isOrdB ordUp
      simp only [Bool.and_eq_true, decide_eq_true_eq, List.all_eq_true, List.mem_range]
      refine ⟨fun i hi => ?_, hl⟩
      obtain ⟨x, e1, e2⟩ := hr i (by omega)
      unfold ordAt
      simp only [Bool.and_eq_true, decide_eq_true_eq, Bool.not_eq_true', decide_eq_false_iff_not]
      exact ⟨by omega, by omega, fun hm => hn ⟨i, by omega, hm⟩⟩
    obtain ⟨i, hi, hm⟩ := this
    have h1 := cover_le n (l.take i ++ l.drop (i + 1)) (fun x hx => by
      have hx' := h x hx
      have e : l = l.take i ++ l.getD i 0 :: l.drop (i + 1) := by
        rw [getD_lt (by omega)]
        rw [List.getElem_cons_drop]; exact (List.take_append_drop i l).symm
      rw [e] at hx'
      rcases List.mem_append.1 hx' with h | h
      · exact List.mem_append.2 (.inl h)
      · rcases List.mem_cons.1 h with h | h
        · rw [h]; exact List.mem_append.2 (.inl hm)
        · exact List.mem_append.2 (.inr h))
    simp at h1
    omega
/-- A picture in another order. -/
def reordF (p : List (List Int)) (l : List Int) (i k : Nat) : Bool := arr p (l.getD i 0).toNat (l.getD k 0).toNat
def reordL (p : List (List Int)) (l : List Int) : List (List Int) := mat p.length p.length (reordF p l)
/-- What Reordered answers. -/
def reorderedR (p : List (List Int)) (l : List Int) : List (List Int) := if (picB p && isOrdB l p.length) = true then reordL p l else []
theorem reordered_small (p : List (List Int)) (l : List Int) : (reorderedR p l).length ≤ 1048576 ∧ lens (reorderedR p l) ≤ 1048576 := by
  unfold reorderedR
  split
  · rename_i h
    simp only [Bool.and_eq_true] at h
    obtain ⟨_, _, h5⟩ := picB_sq h.1
    unfold reordL
    exact mat_small _ h5
  · simp [lens]
end Go.Hyp
namespace Go.Proofs.Ytfjodcfbhpglhaa
open Go.RowKit Go.Hyp Go.Deep

set_option maxHeartbeats 1000000 in
theorem specReordered_any (a : Option Addr) (cap : Nat) (p : List (List Int)) (a' : Option Addr) (cap' : Nat) (l : List Int) (w : World) (B C B' C' : Nat) (h : RdII w B C a p) (hC : C ≤ w.heap.size) (hl : p.length ≤ maxLen) (h' : RdI w B' C' a' l) (hC' : C' ≤ w.heap.size) (hl' : l.length ≤ 1048576) (hcap : l.length ≤ cap' ∧ cap' ≤ maxLen) :
    Calls Try.prog 56 #[.slice a p.length cap, .slice a' l.length cap'] w (RetII 3 24 (reorderedR p l) w) := by
  have F := Lib.hid h
  have F' := Lib.hid h'
  have HL := Lib.hid hl
  unfold maxLen at hl
  clear h h' hcap
  cases hp : picB p
  · have HP := Lib.hid hp
    clear hp
    go_enter Try.func56, Try.ntmps56
    go_wp2_with fail
    refine (specPictureOk_any _ _ _ _ B C (F.out.below (below_alloc w _) hC) HL.out).mono ?_
    rintro e w' ⟨rfl, rfl⟩
    rw [HP.out]
    go_wp2_with fail
    go_ret
    exact retII_of (p := []) (by unfold reorderedR; rw [HP.out]; rfl) ((OwII_empty w 3 24).mono (Nat.le_refl _) (by simp)) (below_alloc _ _)
  · have HP := Lib.hid hp
    obtain ⟨sq, s1, s5⟩ := picB_sq hp
    have HS := Lib.hid sq
    clear hp sq
    by_cases hlen : l.length = p.length
    · have HLN := Lib.hid hlen
      rw [hlen]
      clear hlen
      go_enter Try.func56, Try.ntmps56
      go_wp2_with fail
      refine (specPictureOk_any _ _ _ _ B C (F.out.below (below_alloc w _) hC) HL.out).mono ?_
      rintro e w' ⟨rfl, rfl⟩
      rw [HP.out]
      go_wp2_with fail
      go_loop [4, 6, 7] (fun r s c => ∃ k M : Nat, k ≤ p.length ∧ c = .int .i64 k ∧ r = .slice none 0 0 ∧ s = .int .i64 M ∧ M < 2 ^ p.length ∧ (∀ x, x < p.length → M.testBit x = decide ((x : Int) ∈ l.take k)) ∧ (∀ i, i < k → ∃ x : Nat, l.getD i 0 = x ∧ x < p.length)) (fun _ _ c => p.length - (intOf c).toNat)
      case atStart => exact ⟨0, 0, Nat.zero_le _, rfl, rfl, rfl, Nat.two_pow_pos _, fun x _ => by simp, fun i hi => by omega⟩
      case round =>
        obtain ⟨k, M, hk, rfl, rfl, rfl, hM, hbits, hrange⟩ := hrel
        have h32 : 2 ^ p.length ≤ 32 := Nat.pow_le_pow_right (by omega) s5
        have hM5 : M < 65536 := by omega
        have HM := Lib.hid hM
        have HBI := Lib.hid hbits
        have HRG := Lib.hid hrange
        clear hM hbits hrange
        by_cases hlt : k < p.length
        · obtain ⟨b, off, ea, _, hbC, hd⟩ := F'.out.at k (by rw [HLN.out]; exact hlt)
          obtain ⟨x, hx⟩ : ∃ x, x = l[k]'(by rw [HLN.out]; exact hlt) := ⟨_, rfl⟩
          rw [← hx] at hd
          have HX := Lib.hid hx
          have hbw : b < w.heap.size := by omega
          have hki : (k : Int) < (p.length : Int) := by omega
          clear hx
          subst ea
          by_cases hr : 0 ≤ x ∧ x ≤ (p.length : Int) - 1
          · obtain ⟨u, rfl⟩ := Int.eq_ofNat_of_zero_le hr.1
            have hu : u < p.length := by omega
            have HD : Hid ((decide (0 ≤ (u : Int)) && decide ((u : Int) ≤ (p.length : Int) - 1)) = true) := Lib.hid (by simp; omega)
            have HOB := Lib.hid (or_bit hM5 (show u < 16 by omega))
            have HH : Hid (M ||| 2 ^ u < 2 ^ p.length) := Lib.hid (Nat.or_lt_two_pow HM.out (Nat.pow_lt_pow_of_lt (by omega) hu))
            clear hr h32
            go_wp2_with (go_at_call 26; refine (l1In_any _ _ _ _).mono ?_; rintro e w' ⟨rfl, rfl⟩; rw [HD.out])
            go_round
            case rel =>
              refine ⟨k + 1, M ||| 2 ^ u, by omega, by go_num, rfl, by rw [HOB.out], HH.out, fun x hx => ?_, fun i hi => ?_⟩
              · rw [testBit_put, HBI.out x hx, List.take_succ_eq_append_getElem (show k < l.length by rw [HLN.out]; exact hlt), ← HX.out, Bool.eq_iff_iff]
                simp only [Bool.or_eq_true, decide_eq_true_eq, List.mem_append, List.mem_singleton]
                constructor
                · rintro (h | h)
                  · exact .inl h
                  · exact .inr (by rw [h])
                · rintro (h | h)
                  · exact .inl h
                  · exact .inr (by omega)
              · by_cases e : i = k
                · rw [e]; exact ⟨u, by rw [getD_lt (show k < l.length by rw [HLN.out]; exact hlt), ← HX.out], hu⟩
                · exact HRG.out i (by omega)
            case measure => simp [intOf]; omega
          · have HD : Hid ((decide (0 ≤ x) && decide (x ≤ (p.length : Int) - 1)) = false) := Lib.hid (by
              cases h : (decide (0 ≤ x) && decide (x ≤ (p.length : Int) - 1))
              · rfl
              · exact absurd (by simpa using h) hr)
            have HNO : Hid (isOrdB l p.length = false) := Lib.hid (by
              cases h : isOrdB l p.length
              · rfl
              · obtain ⟨y, h1, h2, _⟩ := isOrd_at h (show k < p.length by omega)
                rw [getD_lt (show k < l.length by rw [HLN.out]; exact hlt), ← HX.out] at h1
                exact absurd (show 0 ≤ x ∧ x ≤ (p.length : Int) - 1 from ⟨by omega, by omega⟩) hr)
            clear h32
            go_wp2_with (go_at_call 26; refine (l1In_any _ _ _ _).mono ?_; rintro e w' ⟨rfl, rfl⟩; rw [HD.out])
            go_ret
            exact retII_of (p := []) (by unfold reorderedR; rw [HNO.out]; simp) ((OwII_empty w 3 24).mono (Nat.le_refl _) (by simp)) (below_alloc _ _)
        · obtain rfl : k = p.length := by omega
          have hcov := ord_cover HLN.out (fun i hi => HRG.out i hi)
          have hfull := full_iff HM.out
          have hcb : isOrdB l p.length = true ↔ M = 2 ^ p.length - 1 := by
            rw [hcov, hfull]
            constructor
            · intro h x hx
              rw [HBI.out x hx, List.take_of_length_le (Nat.le_of_eq HLN.out)]
              simpa using h x hx
            · intro h x hx
              have := h x hx
              rw [HBI.out x hx, List.take_of_length_le (Nat.le_of_eq HLN.out)] at this
              simpa using this
          have hwp := wrap_pred (show p.length < 16 by omega)
          have hwq : wrap64 ((2 : Int) ^ p.length) = (2 : Int) ^ p.length := by rw [wrap_pow (by omega), Int.natCast_pow]; rfl
          have hpos : 1 ≤ 2 ^ p.length := Nat.two_pow_pos _
          by_cases hM1 : M = 2 ^ p.length - 1
          · have hbt : ((M : Int) != wrap64 ((2 : Int) ^ p.length - 1)) = false := by rw [hwp, hM1]; simp
            have HO := Lib.hid (hcb.2 hM1)
            clear hcov hfull hcb hwp hM1 h32 hpos
            go_wp2_with fail
            clear hwq hbt
            go_loopw [5, 8] (fun o i wr => ∃ (k : Nat) (x : Option Addr) (c : Nat) (P : List (List Int)), k ≤ p.length ∧ i = .int .i64 k ∧ P = (mat p.length p.length (reordF p l)).take k ∧ o = .slice x P.length c ∧ OwII wr 3 24 w.heap.size wr.heap.size x c P ∧ Below w.heap.size w wr) (fun _ i _ => p.length - (intOf i).toNat)
            case atStart => exact ⟨0, _, 0, [], Nat.zero_le _, rfl, by simp, rfl, (OwII_empty w 3 24).mono (Nat.le_refl _) (by simp), below_alloc _ _⟩
            case round =>
              obtain ⟨k, x, c, P, hk, rfl, hp, rfl, ho, hb⟩ := hrel
              have hpl : P.length ≤ p.length := by rw [hp, List.length_take]; omega
              have HP1 := Lib.hid hp
              have HO1 := Lib.hid ho
              have HB := Lib.hid hb
              clear hp ho hb
              obtain ⟨w2, rfl⟩ : ∃ w2 : World, w2 = wr := ⟨_, rfl⟩
              by_cases hlt2 : k < p.length
              · go_wp2_with fail
                go_loopw [9, 10] (fun o i wr => ∃ (j : Nat) (y : Option Addr) (d : Nat) (L : List Int), j ≤ p.length ∧ i = .int .i64 j ∧ L = (rowOf p.length (reordF p l k)).take j ∧ o = .slice y L.length d ∧ OwI wr 3 w2.heap.size wr.heap.size y d L ∧ Below w2.heap.size w2 wr) (fun _ i _ => p.length - (intOf i).toNat)
                case atStart => exact ⟨0, _, 0, [], Nat.zero_le _, rfl, by simp, rfl, (OwI_empty w2 3).mono (Nat.le_refl _) (by simp), below_alloc _ _⟩
                case round =>
                  obtain ⟨j, y, d, L, hj, rfl, hp, rfl, ho, hb⟩ := hrel
                  have hll : L.length ≤ p.length := by rw [hp, List.length_take]; omega
                  have HLL := Lib.hid hp
                  have HR := Lib.hid ho
                  have HB2 := Lib.hid hb
                  clear hp ho hb
                  have HBW := Lib.hid (HB.out.trans (HB2.out.mono HB.out.size))
                  by_cases hlt3 : j < p.length
                  · obtain ⟨v, hv, hvn, _⟩ := isOrd_at HO.out (show k < p.length by omega)
                    obtain ⟨u, hu, hun, _⟩ := isOrd_at HO.out (show j < p.length by omega)
                    obtain ⟨b, off, ea, _, hbC, hd1⟩ := (F'.out.below HBW.out hC') k (by rw [HLN.out]; exact hlt2)
                    obtain ⟨b2, off2, ea2, _, hb2C, hd2⟩ := (F'.out.below HBW.out hC') j (by rw [HLN.out]; exact hlt3)
                    rw [ea] at ea2
                    cases ea2
                    rw [hv] at hd1
                    rw [hu] at hd2
                    have hval : reordF p l k j = arr p v u := by unfold reordF; rw [hu, hv]; rfl
                    have HVAL := Lib.hid hval
                    obtain ⟨b3, off3, b4, off4, c4, ea3, _, hb3C, hc3, _, hb4C, hd4⟩ := (F.out.below HBW.out hC).bit HS.out v u hvn hun
                    have hzw := HBW.out.size
                    have hki : (k : Int) < (p.length : Int) := by omega
                    have hji : (j : Int) < (p.length : Int) := by omega
                    have hkp : k < p.length := by omega
                    have hjp : j < p.length := by omega
                    have hkpi : (k : Int) < (p.length : Int) := by omega
                    have hjpi : (j : Int) < (p.length : Int) := by omega
                    have hvi : (v : Int) < (p.length : Int) := by omega
                    have hui : (u : Int) < (p.length : Int) := by omega
                    have hne1 : b < wr.heap.size := by omega
                    have hne3 : b3 < wr.heap.size := by omega
                    have hne4 : b4 < wr.heap.size := by omega
                    subst ea
                    subst ea3
                    clear hv hu hval
                    generalize hbv : (if arr p v u = true then (1 : Int) else 0) = bv at hd4
                    have HBV := Lib.hid hbv
                    clear hbv
                    go_wp2_with fail
                    go_region_law (first
                      | (refine step_appI Try.underlying24 Try.infoInt _ (by rfl) _ _ (by rfl) w2.heap.size wr.heap.size y d L (by rfl) (by exact HR.out.agr ((Agr.refl _ _ _).alloc (Nat.le_refl _) _)) (by show w2.heap.size ≤ (wr.alloc _).heap.size; have := HB2.out.size; simp; omega) ⟨wr.heap.size, 0, none⟩ bv (by rfl) (by exact new_cell wr _ _) (by omega) ?_
                         intro g c1 w3 hown hgrow hat hg
                         have HO3 := Lib.hid hown
                         have HB3 := Lib.hid (below_app (w := wr) (o := .cells #[.int .i64 bv] 3) HB2.out (grown_undrew hgrow) (HR.out.app_in (Nat.le_refl _)) (Nat.le_refl _) (Nat.le_refl _))
                         clear hown hgrow hat))
                    all_goals
                      go_wp2_with fail
                      go_roundw
                      case rel => exact ⟨j + 1, some ⟨g, 0, none⟩, c1, L ++ [bv], by omega, by go_num, by rw [HLL.out, rowOf_take _ _ _ (by omega), HVAL.out, HBV.out], by simp, HO3.out, HB3.out⟩
                      case measure => simp [intOf]; omega
                  · obtain rfl : j = p.length := by omega
                    go_wp2_with (at_builtin; go_loud (refine wpList_appII Try.underlying38 Try.infoRow _ rfl _ _ rfl w.heap.size w2.heap.size x c P rfl ((HO1.out.below HB2.out (Nat.le_refl _)).agr ((Agr.refl _ _ _).alloc HB2.out.size _)) (by have := HB2.out.size; have := HB.out.size; simp; omega) (by have := HB2.out.size; simp; omega) ⟨wr.heap.size, 0, none⟩ y d L rfl (new_cellE _ _ _ rfl) w2.heap.size wr.heap.size (HR.out.agr ((Agr.refl _ _ _).alloc (Nat.le_refl _) _)) (Nat.le_refl _) HB.out.size (by simp) (by omega) ?_); intro a1 c1 w3 hown hgrow hat)
                    have HO3 := Lib.hid hown
                    have HB3 := Lib.hid (below_app (HB.out.trans (HB2.out.mono HB.out.size)) hgrow (HO1.out.app_in (Nat.le_refl _)) (Nat.le_refl _) (Nat.le_refl _))
                    have HRO : Hid (L = rowOf p.length (reordF p l k)) := Lib.hid (by rw [HLL.out, rowOf_all])
                    clear hown hgrow hat
                    go_wp2_with fail
                    go_roundw
                    case rel => exact ⟨k + 1, a1, c1, P ++ [L], by omega, by go_num, by rw [HP1.out, HRO.out, mat_take _ _ _ _ (by omega)], by simp, HO3.out, HB3.out⟩
                    case measure => simp [intOf]; omega
              · obtain rfl : k = p.length := by omega
                have HE : Hid (P = reorderedR p l) := Lib.hid (by rw [HP1.out, mat_all]; unfold reorderedR; rw [HP.out, HO.out]; rfl)
                go_wp2_with fail
                go_ret
                exact retII_of HE.out HO1.out HB.out
          · have hbt : ((M : Int) != wrap64 ((2 : Int) ^ p.length - 1)) = true := by
              rw [hwp]
              exact bne_iff_ne.2 (by omega)
            have HNO : Hid (isOrdB l p.length = false) := Lib.hid (by
              cases h : isOrdB l p.length
              · rfl
              · exact absurd (hcb.1 h) hM1)
            clear hcov hfull hcb hwp hM1 h32 hpos
            go_wp2_with fail
            go_ret
            exact retII_of (p := []) (by unfold reorderedR; rw [HNO.out]; simp) ((OwII_empty w 3 24).mono (Nat.le_refl _) (by simp)) (below_alloc _ _)
    · have hlb : (((l.length : Nat) : Int) != ((p.length : Nat) : Int)) = true := by simp; omega
      have HNO : Hid (isOrdB l p.length = false) := Lib.hid (by unfold isOrdB; rw [decide_eq_false hlen]; simp)
      go_enter Try.func56, Try.ntmps56
      go_wp2_with fail
      refine (specPictureOk_any _ _ _ _ B C (F.out.below (below_alloc w _) hC) HL.out).mono ?_
      rintro e w' ⟨rfl, rfl⟩
      rw [HP.out]
      go_wp2_with fail
      go_ret
      exact retII_of (p := []) (by unfold reorderedR; rw [HNO.out]; simp) ((OwII_empty w 3 24).mono (Nat.le_refl _) (by simp)) (below_alloc _ _)

end Go.Proofs.Ytfjodcfbhpglhaa
