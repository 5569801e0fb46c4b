/- Joined pictures, as the reference finds them: spec.l4Part, spec.JoinedOf. -/
import Derived.Test.YtfjodcfbhpglhaaDoorM6
import Derived.Test.YtfjodcfbhpglhaaDoorM4
import Derived.Test.YtfjodcfbhpglhaaDoorM16
import Derived.Test.YtfjodcfbhpglhaaDoorM3
import Derived.Test.YtfjodcfbhpglhaaDoorM17
namespace Go.Hyp
open Go.RowKit Go.Deep
/-- A list of nodes as numbers. -/
def natL (l : List Nat) : List Int := l.map Int.ofNat
theorem natL_len (l : List Nat) : (natL l).length = l.length := by simp [natL]
theorem natL_get {l : List Nat} {k : Nat} (h : k < (natL l).length) : (natL l)[k] = ((l.getD k 0 : Nat) : Int) := by
  have h' : k < l.length := by rwa [natL_len] at h
  rw [getD_nat h']
  simp [natL]
theorem natL_snoc (l : List Nat) (v : Nat) : natL (l ++ [v]) = natL l ++ [(v : Int)] := by simp [natL]
theorem natL_of {L : List Int} (h : ∀ x ∈ L, ∃ v : Nat, x = v) : natL (L.map Int.toNat) = L := by
  unfold natL
  rw [List.map_map]
  have : ∀ x ∈ L, (Int.ofNat ∘ Int.toNat) x = x := fun x hx => by
    obtain ⟨v, rfl⟩ := h x hx
    simp
  exact (List.map_congr_left this).trans (List.map_id L)
/-- Some of the first j nodes is a member of u, and of v's kind. -/
def arrKn (p : List (List Int)) (u v j : Nat) : Bool := (List.range j).any fun x => arr p u x && (kind p x == kind p v)
theorem arrKn_all (p : List (List Int)) (u v : Nat) : arrKn p u v p.length = arrK p u v := rfl
theorem arrKn_zero (p : List (List Int)) (u v : Nat) : arrKn p u v 0 = false := rfl
theorem arrKn_succ (p : List (List Int)) (u v j : Nat) : arrKn p u v (j + 1) = (arrKn p u v j || (arr p u j && (kind p j == kind p v))) := by
  unfold arrKn; rw [List.range_succ, List.any_append]; simp
/-- The row of u, behind j nodes and m places of the next. -/
def partF (p : List (List Int)) (l : List Nat) (u j m : Nat) (x : Nat) : Bool := arrKn p u (l.getD x 0) (if x < m then j + 1 else j)
theorem partF_put {p : List (List Int)} {l : List Nat} {u j m : Nat} (h : (arr p u j && (kind p j == kind p (l.getD m 0))) = true) (n : Nat) (hm : m < n) : (rowOf n (partF p l u j m)).set m 1 = rowOf n (partF p l u j (m + 1)) := by
  apply List.ext_getElem
  · rw [List.length_set, rowOf_len, rowOf_len]
  · intro x h1 h2
    rw [List.length_set, rowOf_len] at h1
    rw [List.getElem_set, rowOf_get, rowOf_get]
    by_cases e : m = x
    · subst e
      have : partF p l u j (m + 1) m = true := by
        unfold partF
        rw [if_pos (by omega), arrKn_succ, h]; simp
      rw [if_pos rfl, this]; rfl
    · rw [if_neg e]
      have : partF p l u j m x = partF p l u j (m + 1) x := by
        unfold partF
        by_cases e2 : x < m
        · rw [if_pos e2, if_pos (by omega)]
        · rw [if_neg e2, if_neg (by omega)]
      rw [this]
theorem partF_stay {p : List (List Int)} {l : List Nat} {u j m : Nat} (h : (arr p u j && (kind p j == kind p (l.getD m 0))) = false) (n : Nat) : rowOf n (partF p l u j m) = rowOf n (partF p l u j (m + 1)) := by
  refine rowOf_congr fun x _ => ?_
  unfold partF
  by_cases e : x = m
  · subst e
    rw [if_neg (by omega), if_pos (by omega), arrKn_succ, h]; simp
  · by_cases e2 : x < m
    · rw [if_pos e2, if_pos (by omega)]
    · rw [if_neg e2, if_neg (by omega)]
theorem partF_next (p : List (List Int)) (l : List Nat) (u j : Nat) (n : Nat) : rowOf n (partF p l u j n) = rowOf n (partF p l u (j + 1) 0) := by
  refine rowOf_congr fun x hx => ?_
  unfold partF
  rw [if_pos hx, if_neg (by omega)]
theorem partF_start (p : List (List Int)) (l : List Nat) (u n : Nat) : rowOf n (partF p l u 0 0) = rowOf n fun _ => false := by
  refine rowOf_congr fun x _ => ?_
  unfold partF
  rw [if_neg (by omega), arrKn_zero]
theorem partF_end (p : List (List Int)) (l : List Nat) (k : Nat) : rowOf l.length (partF p l (l.getD k 0) p.length 0) = rowOf l.length fun b => arrK p (l.getD k 0) (l.getD b 0) := by
  refine rowOf_congr fun x _ => ?_
  unfold partF
  rw [if_neg (by omega), arrKn_all]
/-- The nodes that are reached, by counting. -/
def reachL (p : List (List Int)) (i : Nat) : List Nat := (List.range p.length).filter (reaN p i p.length)
theorem reachL_mem {p : List (List Int)} {i v : Nat} (hi : i < p.length) : v ∈ reachL p i ↔ v < p.length ∧ Rea p i v := by
  unfold reachL
  rw [List.mem_filter, List.mem_range]
  exact ⟨fun h => ⟨h.1, _, h.2⟩, fun h => ⟨h.1, reaN_full hi h.1 h.2⟩⟩
theorem reachL_is {p : List (List Int)} {i : Nat} (hi : i < p.length) : IsReach p i (natL (reachL p i)) := by
  refine ⟨?_, fun x => ?_⟩
  · unfold natL reachL
    rw [List.pairwise_map]
    exact (List.pairwise_lt_range.filter _).imp (fun h => by show (Int.ofNat _) < (Int.ofNat _); simpa using h)
  · unfold natL
    rw [List.mem_map]
    constructor
    · rintro ⟨v, hv, rfl⟩
      obtain ⟨h1, h2⟩ := (reachL_mem hi).1 hv
      exact ⟨v, rfl, h1, h2⟩
    · rintro ⟨v, rfl, h1, h2⟩
      exact ⟨v, (reachL_mem hi).2 ⟨h1, h2⟩, rfl⟩
theorem IsReach.pos2 {p : List (List Int)} {i : Nat} {L : List Int} (h : IsReach p i L) (hi : i < p.length) : 0 < L.length := by
  have := (h.2 (i : Int)).2 ⟨i, rfl, hi, Rea.refl p i⟩
  cases L with
  | nil => simp at this
  | cons _ _ => simp
/-- One node of each kind that is reached. -/
def joinedL (p : List (List Int)) (i : Nat) : List Nat := jfold p i (reachL p i)
theorem joinedL_fit {p : List (List Int)} {i : Nat} (hi : i < p.length) : Fit p i (joinedL p i) := jfold_fit hi fun _ => reachL_mem hi
/-- What JoinedOf answers. -/
def joinedR (p : List (List Int)) (n : Int) : List (List Int) := if nodeB p n = true then joinM p (joinedL p n.toNat) else []
theorem joinedR_no {p : List (List Int)} {n : Int} (h : nodeB p n = false) : joinedR p n = [] := by unfold joinedR; rw [h]; rfl
theorem joinedR_yes {p : List (List Int)} {i : Nat} (h : nodeB p i = true) : joinedR p i = joinM p (joinedL p i) := by unfold joinedR; rw [h]; rfl
theorem joinedOf_small (p : List (List Int)) (n : Int) : (joinedR p n).length ≤ 1048576 ∧ lens (joinedR p n) ≤ 1048576 := by
  cases h : nodeB p n
  · rw [joinedR_no h]; exact ⟨by simp, by show 0 ≤ _; omega⟩
  · obtain ⟨i, rfl, hi, hp⟩ := nodeB_nat h
    rw [joinedR_yes h]
    have := (joinedL_fit hi).len
    have := (picB_sq hp).2.2
    exact mat_small _ (by omega)
/-- The walk of the list: no earlier node is of v's kind. -/
def frshB (p : List (List Int)) (l : List Nat) (v j : Nat) : Bool := (l.take j).all fun u => !(kind p u == kind p v)
theorem frshB_succ {p : List (List Int)} {l : List Nat} {v j : Nat} (h : j < l.length) : frshB p l v (j + 1) = (frshB p l v j && !(kind p (l.getD j 0) == kind p v)) := by
  unfold frshB
  rw [List.take_succ_eq_append_getElem h, List.all_append, getD_nat h]
  simp
theorem jstep_fresh {p : List (List Int)} {l : List Nat} {v : Nat} : jstep p l v = if frshB p l v l.length = true then l ++ [v] else l := by
  unfold jstep frshB
  rw [List.take_of_length_le (Nat.le_refl _)]
  have e : (l.all fun u => !(kind p u == kind p v)) = !(l.any fun u => kind p u == kind p v) := by rw [List.not_any_eq_all_not]
  rw [e]
  cases l.any fun u => kind p u == kind p v <;> rfl
end Go.Hyp
namespace Go.Proofs.YtfjodcfbhpglhaaDoor
open Go.RowKit Go.Hyp Go.Deep

set_option maxRecDepth 4000 in
set_option maxHeartbeats 1600000 in
theorem l4Part_any (a : Option Addr) (cap : Nat) (p : List (List Int)) (ak : Option Addr) (ck : Nat) (al : Option Addr) (cl : Nat) (l : List Nat) (w : World) (B C B1 C1 B2 C2 : Nat) (h : RdII w B C a p) (hC : C ≤ w.heap.size) (hs : Sq p) (h5 : p.length ≤ 16)
    (hk : RdI w B1 C1 ak (kindsL p p.length)) (hC1 : C1 ≤ w.heap.size) (hL : RdI w B2 C2 al (natL l)) (hC2 : C2 ≤ w.heap.size) (hl : ∀ k, k < l.length → l.getD k 0 < p.length) (hln : l.length ≤ p.length) :
    Calls Tryd.prog 55 #[.slice a p.length cap, .slice ak p.length ck, .slice al l.length cl] w (RetII 3 38 (joinM p l) w) := by
  have HB0 := Lib.hid (below_alloc w (.cells #[] 38))
  have HO0 := Lib.hid (OwII_empty w 3 38)
  have F := Lib.hid h
  have FK := Lib.hid hk
  have FL := Lib.hid hL
  have HS := Lib.hid hs
  have HLN := Lib.hid hl
  clear h hk hL hs hl
  have HE : Hid (∀ k, k < l.length → (joinM p l).take (k + 1) = (joinM p l).take k ++ [rowOf l.length (partF p l (l.getD k 0) p.length 0)]) := Lib.hid (fun k hk => by
    rw [partF_end]
    exact mat_take _ _ _ _ hk)
  have hmk := run_make_row' (P := Tryd.prog) 38 3 _ _ Tryd.underlying38 Tryd.infoInt rfl .i64 .i64 l.length (by omega) (by omega)
  go_enter Tryd.func55, Tryd.ntmps55
  go_wp2_with fail
  go_loopw [7, 8] (fun o i wr => ∃ (x : Option Addr) (c : Nat) (P : List (List Int)), P.length ≤ l.length ∧ i = .int .i64 P.length ∧ o = .slice x P.length c ∧ (joinM p l).take P.length = P ∧ OwII wr 3 38 w.heap.size wr.heap.size x c P ∧ Below w.heap.size w wr) (fun _ i _ => l.length - (intOf i).toNat)
  case atStart => exact ⟨_, 0, [], Nat.zero_le _, rfl, rfl, rfl, HO0.out.mono (Nat.le_refl _) (by simp), HB0.out⟩
  case round =>
    obtain ⟨x, c, P, hPl, rfl, rfl, hP, ho, hb⟩ := hrel
    have HP := Lib.hid hP
    have HO := Lib.hid ho
    have HB := Lib.hid hb
    have hzr : w.heap.size ≤ wr.heap.size := hb.size
    clear hP ho hb HB0 HO0
    by_cases hlt : P.length < l.length
    · obtain ⟨U, hU⟩ : ∃ U, U = l.getD P.length 0 := ⟨_, rfl⟩
      have hUp : U < p.length := by rw [hU]; exact HLN.out _ hlt
      have HU := Lib.hid hU
      have hUi : (U : Int) < (p.length : Int) := by omega
      clear hU
      have HL0 := Lib.hid (OwI_zeros wr 3 l.length (by unfold maxLen; omega))
      have HBA := Lib.hid (HB.out.alloc hzr (.cells (madeCells #[.int .i64 0] l.length) 3))
      have HPA := Lib.hid (HO.out.below (below_alloc wr (.cells (madeCells #[.int .i64 0] l.length) 3)) (Nat.le_refl _))
      have HST := Lib.hid (partF_start p l U l.length)
      obtain ⟨wk, rfl⟩ : ∃ wk : World, wk = wr := ⟨_, rfl⟩
      clear HO HB
      go_wp2_with fail
      go_loopw [10] (fun i wi => ∃ (j : Nat) (L : List Int), j ≤ p.length ∧ i = .int .i64 j ∧ L = rowOf l.length (partF p l U j 0) ∧ OwI wi 3 wk.heap.size (wk.heap.size + 1) (some ⟨wk.heap.size, 0, none⟩) l.length L ∧ OwII wi 3 38 w.heap.size wk.heap.size x c P ∧ Below w.heap.size w wi ∧ wk.heap.size + 1 ≤ wi.heap.size) (fun i _ => p.length - (intOf i).toNat)
      case atStart => exact ⟨0, _, Nat.zero_le _, rfl, HST.out.symm, HL0.out, HPA.out, HBA.out, by simp⟩
      case round =>
        obtain ⟨j, L, hj, rfl, hLr, hli, hpi, hbi, hzi⟩ := hrel
        have HLR := Lib.hid hLr
        have HLI := Lib.hid hli
        have HPI := Lib.hid hpi
        have HBI := Lib.hid hbi
        clear hLr hli hpi hbi HL0 HPA HBA
        by_cases hlt2 : j < p.length
        · have hji : (j : Int) < (p.length : Int) := by omega
          go_wp2_with fail
          go_loopw [11] (fun i wi => ∃ (m : Nat) (L : List Int), m ≤ l.length ∧ i = .int .i64 m ∧ L = rowOf l.length (partF p l U j m) ∧ OwI wi 3 wk.heap.size (wk.heap.size + 1) (some ⟨wk.heap.size, 0, none⟩) l.length L ∧ OwII wi 3 38 w.heap.size wk.heap.size x c P ∧ Below w.heap.size w wi ∧ wk.heap.size + 1 ≤ wi.heap.size) (fun i _ => l.length - (intOf i).toNat)
          case atStart => exact ⟨0, L, Nat.zero_le _, rfl, HLR.out, HLI.out, HPI.out, HBI.out, hzi⟩
          case round =>
            obtain ⟨m, L2, hm, rfl, hLr, hli, hpi, hbi, hzi⟩ := hrel
            have HLR2 := Lib.hid hLr
            have HLI2 := Lib.hid hli
            have HPI2 := Lib.hid hpi
            have HBI2 := Lib.hid hbi
            clear hLr hli hpi hbi HLR HLI HPI HBI
            by_cases hlt3 : m < l.length
            · obtain ⟨V, hV⟩ : ∃ V, V = l.getD m 0 := ⟨_, rfl⟩
              have hVp : V < p.length := by rw [hV]; exact HLN.out _ hlt3
              have hVi : (V : Int) < (p.length : Int) := by omega
              obtain ⟨b1, o1, rfl, _, hb1, hd1⟩ := (FL.out.below HBI2.out hC2).at P.length (by rw [natL_len]; exact hlt)
              rw [natL_get, ← HU.out] at hd1
              obtain ⟨b2, o2, e2, _, hb2, hd2⟩ := (FL.out.below HBI2.out hC2).at m (by rw [natL_len]; exact hlt3)
              cases e2
              rw [natL_get, ← hV] at hd2
              obtain ⟨b3, o3, rfl, _, hb3, hd3⟩ := (FK.out.below HBI2.out hC1).at j (by rw [kindsL_len]; exact hlt2)
              rw [kindsL_get] at hd3
              obtain ⟨b4, o4, e4, _, hb4, hd4⟩ := (FK.out.below HBI2.out hC1).at V (by rw [kindsL_len]; exact hVp)
              cases e4
              rw [kindsL_get] at hd4
              obtain ⟨b5, o5, b5', o5', c5', rfl, _, hb5, hc5, _, hb5', hd5⟩ := (F.out.below HBI2.out hC).bit HS.out U j hUp hlt2
              have hki : (P.length : Int) < (l.length : Int) := by omega
              have hmi : (m : Int) < (l.length : Int) := by omega
              have HV := Lib.hid hV
              clear hV
              cases hx : arr p U j
              · rw [hx] at hd5
                simp only [Bool.false_eq_true, if_false] at hd5
                have HN : Hid (rowOf l.length (partF p l U j m) = rowOf l.length (partF p l U j (m + 1))) := Lib.hid (partF_stay (by rw [hx]; rfl) _)
                clear hx
                go_wp2_with fail
                go_quiet (fail)
                go_wp2_with fail
                go_roundw
                case rel => exact ⟨m + 1, L2, by omega, by go_num, HLR2.out.trans HN.out, by exact HLI2.out, by exact HPI2.out, below_drewN HBI2.out _, by simpa using hzi⟩
                case measure => simp [intOf]; omega
              · rw [hx] at hd5
                simp only [if_true] at hd5
                by_cases hkk : kind p j = kind p V
                · have HN : Hid ((rowOf l.length (partF p l U j m)).set m 1 = rowOf l.length (partF p l U j (m + 1))) := Lib.hid (partF_put (by rw [hx, ← HV.out, hkk]; simp) _ hlt3)
                  obtain ⟨gx, hgx, _, _, hd6, hfz6, hgl6⟩ := HLI2.out.cells m (by rw [HLR2.out, rowOf_len]; exact hlt3)
                  cases hgx
                  rw [hkk] at hd3
                  obtain ⟨K, hK⟩ : ∃ K, K = kind p V := ⟨_, rfl⟩
                  rw [← hK] at hd3 hd4
                  clear hx hkk hK
                  go_wp2_with fail
                  go_quiet (fail)
                  go_wp2_with fail
                  go_roundw
                  case rel => exact ⟨m + 1, L2.set m 1, by omega, by go_num, by rw [HLR2.out]; exact HN.out, HLI2.out.setAt m (by rw [HLR2.out, rowOf_len]; exact hlt3) 1, HPI2.out.agr ((Agr.refl _ _ _).set (by omega) _), by exact below_drewN (HBI2.out.setCell (p := ⟨wk.heap.size, m, none⟩) hzr _) _, by simp; omega⟩
                  case measure => simp [intOf]; omega
                · have HN : Hid (rowOf l.length (partF p l U j m) = rowOf l.length (partF p l U j (m + 1))) := Lib.hid (partF_stay (by rw [hx, ← HV.out]; simp [hkk]) _)
                  obtain ⟨K, hK⟩ : ∃ K, K = kind p V := ⟨_, rfl⟩
                  obtain ⟨J, hJ⟩ : ∃ J, J = kind p j := ⟨_, rfl⟩
                  rw [← hK] at hd4 hkk
                  rw [← hJ] at hd3 hkk
                  have hne : ((J : Int) == (K : Int)) = false := beq_eq_false_iff_ne.2 (by omega)
                  clear hx hkk hK hJ
                  go_wp2_with fail
                  go_quiet (fail)
                  go_wp2_with fail
                  go_roundw
                  case rel => exact ⟨m + 1, L2, by omega, by go_num, HLR2.out.trans HN.out, by exact HLI2.out, by exact HPI2.out, below_drewN HBI2.out _, by simpa using hzi⟩
                  case measure => simp [intOf]; omega
            · obtain rfl : m = l.length := by omega
              have HN := Lib.hid (partF_next p l U j l.length)
              go_wp2_with fail
              go_roundw
              case rel => exact ⟨j + 1, L2, by omega, by go_num, HLR2.out.trans HN.out, HLI2.out, HPI2.out, HBI2.out, hzi⟩
              case measure => simp [intOf]; omega
        · obtain rfl : j = p.length := by omega
          have hLl : L.length = l.length := by rw [HLR.out, rowOf_len]
          have HLL := Lib.hid hLl
          have HTK : Hid ((joinM p l).take (P.length + 1) = P ++ [L]) := Lib.hid (by rw [HE.out _ hlt, HP.out, ← HU.out, ← HLR.out])
          obtain ⟨wq, rfl⟩ : ∃ wq : World, wq = wr := ⟨_, rfl⟩
          clear hLl
          go_wp2_with (at_builtin; go_loud (refine wpList_appII Tryd.underlying24 Tryd.infoRow _ rfl _ _ rfl w.heap.size wk.heap.size x c P rfl (HPI.out.agr ((Agr.refl _ _ _).alloc (by omega) _)) (by simp; omega) (by simp; omega) ⟨wq.heap.size, 0, none⟩ (some ⟨wk.heap.size, 0, none⟩) l.length L rfl (by rw [HLL.out]; exact new_cellE _ _ _ rfl) wk.heap.size (wk.heap.size + 1) (HLI.out.agr ((Agr.refl _ _ _).alloc (by omega) _)) (Nat.le_refl _) (by omega) (by simp; omega) (by omega) ?_); intro a1 c1 w6 hown hgrow hat)
          have HO6 := Lib.hid hown
          have HB6 := Lib.hid (below_app HBI.out hgrow (HPI.out.app_in (Nat.le_refl _)) (Nat.le_refl _) (Nat.le_refl _))
          clear hown hgrow hat
          go_wp2_with fail
          go_roundw
          case rel =>
            have e1 : (P ++ [L]).length = P.length + 1 := by simp
            have e4 : Value.int .i64 ((P.length : Int) + 1) = .int .i64 ((P ++ [L]).length : Int) := int_eq (by rw [e1]; omega)
            have e5 : Value.slice a1 (P.length + 1) c1 = .slice a1 (P ++ [L]).length c1 := by rw [e1]
            have e6 : (joinM p l).take (P ++ [L]).length = P ++ [L] := by rw [e1]; exact HTK.out
            first
              | exact ⟨a1, c1, P ++ [L], by omega, e4, e5, e6, HO6.out, HB6.out⟩
              | ((repeat apply Exists.intro); exact ⟨⟨a1, c1, P ++ [L], by omega, e4, e5, e6, HO6.out, HB6.out⟩, rfl⟩)
          case measure => simp [intOf]; omega
    · have hPe : P.length = l.length := by omega
      have HPE : Hid (P = joinM p l) := Lib.hid (by
        have := HP.out
        rw [List.take_of_length_le (by rw [joinM_len]; omega)] at this
        exact this.symm)
      clear hPe
      go_wp2_with fail
      go_ret
      exact retII_of HPE.out HO.out HB.out

set_option maxRecDepth 4000 in
set_option maxHeartbeats 1600000 in
theorem specJoinedOf_any (a : Option Addr) (cap : Nat) (p : List (List Int)) (n : Int) (w : World) (B C : Nat) (h : RdII w B C a p) (hC : C ≤ w.heap.size) (hl : p.length ≤ maxLen) :
    Calls Tryd.prog 41 #[.slice a p.length cap, .int .i64 n] w (RetII 3 38 (joinedR p n) w) := by
  have F := Lib.hid h
  have HL := Lib.hid hl
  clear h
  have hre := specReachedFrom_any a cap p n w B C F.out hC hl
  have HRE := Lib.hid hre
  clear hre
  cases hn : nodeB p n
  · have HNO := Lib.hid hn
    have HJ := Lib.hid (joinedR_no hn)
    clear hn
    go_enter Tryd.func41, Tryd.ntmps41
    go_wp2_with fail
    refine HRE.out.mono ?_
    rintro e w1 (⟨_, ⟨a', c', rfl⟩, hb⟩ | ⟨i, rfl, hi, hp, _⟩)
    · have HB := Lib.hid hb
      have hz1 : w.heap.size ≤ w1.heap.size := hb.size
      clear hb
      go_wp2_with fail
      refine (specKindsOf_any a cap p w1 B C (F.out.below HB.out hC) (by omega) HL.out).mono ?_
      rintro e w2 ⟨x, c, rfl, _, hb⟩
      have HB2 := Lib.hid (HB.out.trans (hb.mono hz1))
      have hz2 : w.heap.size ≤ w2.heap.size := HB2.out.size
      clear hb
      go_wp2_with fail
      go_ret
      exact retII_of (p := []) HJ.out.symm ((OwII_empty w2 3 38).mono hz2 (by simp)) (HB2.out.alloc hz2 _)
    · have := nodeB_of hp hi
      rw [HNO.out] at this; cases this
  · obtain ⟨i, rfl, hi, hp⟩ := nodeB_nat hn
    obtain ⟨sq, s1, s5⟩ := picB_sq hp
    have HYES := Lib.hid hn
    have HJ := Lib.hid (joinedR_yes hn)
    have HS := Lib.hid sq
    have HP := Lib.hid hp
    have HKS := Lib.hid (kindsS_yes hp)
    clear hn sq hp
    go_enter Tryd.func41, Tryd.ntmps41
    go_wp2_with fail
    refine HRE.out.mono ?_
    rintro e w1 (⟨hno, _, _⟩ | ⟨i', e0, hi', _, L, ar, cr, rfl, hre, hll, ho, hb⟩)
    · rw [HYES.out] at hno; cases hno
    · have e0 : i = i' := by omega
      subst e0
      have hLL : L = natL (reachL p i) := hre.unique (reachL_is hi)
      subst hLL
      obtain ⟨R, hR⟩ : ∃ R, R = reachL p i := ⟨_, rfl⟩
      rw [← hR] at hre hll ho ⊢
      have hpos := hre.pos2 hi
      rw [natL_len] at hll hpos
      have HR := Lib.hid ho.rd
      have HB := Lib.hid hb
      have hz1 : w.heap.size ≤ w1.heap.size := hb.size
      have HRM : Hid (∀ k, k < R.length → R.getD k 0 < p.length) := Lib.hid (fun k hk => by
        have : R.getD k 0 ∈ reachL p i := by rw [← hR, getD_nat hk]; exact List.getElem_mem hk
        exact ((reachL_mem hi).1 this).1)
      have HRR := Lib.hid hR
      clear hre ho hb hR HRE
      rw [natL_len]
      go_wp2_with fail
      refine (specKindsOf_any a cap p w1 B C (F.out.below HB.out hC) (by omega) HL.out).mono ?_
      rintro e w2 ⟨ak, ck, rfl, hok, hb2⟩
      rw [HKS.out] at hok ⊢
      rw [kindsL_len]
      have HK := Lib.hid hok.rd
      have HR2 := Lib.hid (HR.out.below hb2 (Nat.le_refl _))
      have HB2 := Lib.hid (HB.out.trans (hb2.mono hz1))
      have hz2 : w1.heap.size ≤ w2.heap.size := hb2.size
      have HO0 := Lib.hid (OwI_one w2 3 i)
      have HBA := Lib.hid (below_alloc w2 (.cells #[.int .i64 i] 3))
      have hne : ((R.length : Int) == 0) = false := beq_eq_false_iff_ne.2 (by omega)
      clear hok hb2 HR HB
      go_wp2_with fail
      clear hne
      go_loopw [7, 8] (fun o c wr => ∃ (k : Nat) (l : List Nat) (x : Option Addr) (cc : Nat), k ≤ R.length ∧ c = .int .i64 k ∧ l = jfold p i (R.take k) ∧ l.length ≤ k + 1 ∧ (∀ j, j < l.length → l.getD j 0 < p.length) ∧ o = .slice x l.length cc ∧ OwI wr 3 w2.heap.size wr.heap.size x cc (natL l) ∧ Below w2.heap.size w2 wr) (fun _ c _ => R.length - (intOf c).toNat)
      case atStart => exact ⟨0, [i], _, 1, Nat.zero_le _, rfl, rfl, by simp, fun j hj => by
        have : j = 0 := by simp at hj; omega
        subst this; exact hi, rfl, HO0.out.mono (Nat.le_refl _) (by simp), HBA.out⟩
      case round =>
        obtain ⟨k, l, x, cc, hk, rfl, hl, hll2, hln, rfl, ho, hb⟩ := hrel
        have HLJ := Lib.hid hl
        have HLN := Lib.hid hln
        have HO := Lib.hid ho
        have HBR := Lib.hid hb
        have hzr : w2.heap.size ≤ wr.heap.size := hb.size
        clear hl hln ho hb HO0 HBA
        by_cases hlt : k < R.length
        · obtain ⟨V, hV⟩ : ∃ V, V = R.getD k 0 := ⟨_, rfl⟩
          have hVp : V < p.length := by rw [hV]; exact HRM.out k hlt
          have HJS : Hid (jfold p i (R.take (k + 1)) = jstep p l V) := Lib.hid (by
            rw [List.take_succ_eq_append_getElem hlt, jfold_snoc, ← HLJ.out, hV, getD_nat hlt])
          have HV := Lib.hid hV
          have hVi : (V : Int) < (p.length : Int) := by omega
          have hki : (k : Int) < (R.length : Int) := by omega
          have h00 : frshB p l V 0 = true := rfl
          have H00 := Lib.hid h00
          obtain ⟨wk, rfl⟩ : ∃ wk : World, wk = wr := ⟨_, rfl⟩
          clear hV h00
          go_wp2_with fail
          go_loopw [9, 10] (fun f c wi => ∃ (j : Nat) (b : Bool), j ≤ l.length ∧ c = .int .i64 j ∧ f = .bool b ∧ frshB p l V j = b ∧ Qt wk wi) (fun _ c _ => l.length - (intOf c).toNat)
          case atStart => exact ⟨0, true, Nat.zero_le _, rfl, rfl, H00.out, Qt.refl _⟩
          case round =>
            obtain ⟨j, fb, hj, rfl, rfl, hfb, hq⟩ := hrel
            have HQ := Lib.hid hq
            have HFB := Lib.hid hfb
            have HBI := Lib.hid (HBR.out.trans hq.below)
            have HOI := Lib.hid (HO.out.agr hq.agr)
            clear hq hfb
            by_cases hlt2 : j < l.length
            · obtain ⟨U, hU⟩ : ∃ U, U = l.getD j 0 := ⟨_, rfl⟩
              have hUp : U < p.length := by rw [hU]; exact HLN.out j hlt2
              have hUi : (U : Int) < (p.length : Int) := by omega
              have hji : (j : Int) < (l.length : Int) := by omega
              have HFS := Lib.hid (frshB_succ (p := p) (v := V) hlt2)
              rw [← hU] at HFS
              obtain ⟨b1, o1, rfl, _, hb1, hd1⟩ := HOI.out.rd.at j (by rw [natL_len]; exact hlt2)
              rw [natL_get, ← hU] at hd1
              obtain ⟨b2, o2, rfl, _, hb2, hd2⟩ := (HR2.out.below HBI.out hz2).at k (by rw [natL_len]; exact hlt)
              rw [natL_get, ← HV.out] at hd2
              obtain ⟨b3, o3, rfl, _, hb3, hd3⟩ := (HK.out.below HBI.out (Nat.le_refl _)).at U (by rw [kindsL_len]; exact hUp)
              rw [kindsL_get] at hd3
              obtain ⟨b4, o4, e4, _, hb4, hd4⟩ := (HK.out.below HBI.out (Nat.le_refl _)).at V (by rw [kindsL_len]; exact hVp)
              cases e4
              rw [kindsL_get] at hd4
              clear hU
              cases fb
              · have HN : Hid (frshB p l V (j + 1) = false) := Lib.hid (by rw [HFS.out, HFB.out]; rfl)
                go_wp2_with fail
                go_quiet (fail)
                go_wp2_with fail
                go_roundw
                case rel => exact ⟨j + 1, false, by omega, by go_num, rfl, HN.out, HQ.out.n _⟩
                case measure => simp [intOf]; omega
              · by_cases hkk : kind p U = kind p V
                · have HN : Hid (frshB p l V (j + 1) = false) := Lib.hid (by rw [HFS.out, hkk]; simp)
                  rw [hkk] at hd3
                  obtain ⟨K, hK⟩ : ∃ K, K = kind p V := ⟨_, rfl⟩
                  rw [← hK] at hd3 hd4
                  clear hkk hK
                  go_wp2_with fail
                  go_quiet (fail)
                  go_wp2_with fail
                  go_roundw
                  case rel => exact ⟨j + 1, false, by omega, by go_num, rfl, HN.out, HQ.out.n _⟩
                  case measure => simp [intOf]; omega
                · have HN : Hid (frshB p l V (j + 1) = true) := Lib.hid (by rw [HFS.out, HFB.out]; simp [hkk])
                  obtain ⟨K, hK⟩ : ∃ K, K = kind p V := ⟨_, rfl⟩
                  obtain ⟨J, hJ⟩ : ∃ J, J = kind p U := ⟨_, rfl⟩
                  rw [← hK] at hd4 hkk
                  rw [← hJ] at hd3 hkk
                  have hne : ((J : Int) != (K : Int)) = true := bne_iff_ne.2 (by omega)
                  clear hkk hK hJ
                  go_wp2_with fail
                  go_quiet (fail)
                  go_wp2_with fail
                  go_roundw
                  case rel => exact ⟨j + 1, true, by omega, by go_num, rfl, HN.out, HQ.out.n _⟩
                  case measure => simp [intOf]; omega
            · obtain rfl : j = l.length := by omega
              obtain ⟨b2, o2, rfl, _, hb2, hd2⟩ := (HR2.out.below HBI.out hz2).at k (by rw [natL_len]; exact hlt)
              rw [natL_get, ← HV.out] at hd2
              have hzi : w2.heap.size ≤ wr.heap.size := HBI.out.size
              cases fb
              · have HN : Hid (jfold p i (R.take (k + 1)) = l) := Lib.hid (by rw [HJS.out, jstep_fresh, HFB.out]; rfl)
                go_wp2_with fail
                go_roundw
                case rel => exact ⟨k + 1, l, x, cc, by omega, by go_num, HN.out.symm, by omega, HLN.out, rfl, HOI.out.mono (Nat.le_refl _) (HQ.out.below (B := wk.heap.size)).size, HBI.out⟩
                case measure => simp [intOf]; omega
              · have HN : Hid (jfold p i (R.take (k + 1)) = l ++ [V]) := Lib.hid (by rw [HJS.out, jstep_fresh, HFB.out]; rfl)
                have hwkr : wk.heap.size ≤ wr.heap.size := (HQ.out.below (B := wk.heap.size)).size
                go_wp2_with (at_builtin; go_loud (refine wpList_appI Tryd.underlying38 Tryd.infoInt _ rfl _ _ rfl w2.heap.size wk.heap.size x cc (natL l) (by rw [natL_len]; rfl) (HOI.out.agr ((Agr.refl _ _ _).alloc (by omega) _)) (by simp; omega) ⟨wr.heap.size, 0, none⟩ V rfl (new_cellE _ _ _ rfl) (by rw [natL_len]; omega) ?_); intro g2 c2 w3 hown hgrow hat hg2; have HG := Lib.hid hgrow; have HO3 := Lib.hid hown; clear hown hgrow hat)
                have HB3 := Lib.hid (below_app HBI.out HG.out (HOI.out.app_in (Nat.le_refl _)) (Nat.le_refl _) (Nat.le_refl _))
                rw [natL_len]
                go_wp2_with fail
                go_roundw
                case rel => exact ⟨k + 1, l ++ [V], some ⟨g2, 0, none⟩, c2, by omega, by go_num, HN.out.symm, by rw [List.length_append]; show l.length + 1 ≤ _; omega, fun j hj => by
                  rw [List.length_append] at hj
                  have hj' : j < l.length + 1 := hj
                  rcases Nat.lt_or_ge j l.length with h1 | h1
                  · have := HLN.out j h1
                    simpa [List.getD, List.getElem?_append_left h1] using this
                  · have e : j = l.length := by omega
                    subst e
                    simpa [List.getD] using hVp, by rw [List.length_append]; rfl, by rw [natL_snoc]; exact HO3.out, HB3.out⟩
                case measure => simp [intOf]; omega
        · obtain rfl : k = R.length := by omega
          have hle : l = joinedL p i := by rw [HLJ.out, List.take_of_length_le (Nat.le_refl _), HRR.out]; rfl
          have HLE := Lib.hid hle
          have hfit := (joinedL_fit hi).len
          rw [← hle] at hfit
          clear hle
          go_wp2_with fail
          refine (l4Part_any a cap p ak ck x cc l wr B C _ _ _ _ (F.out.below (HB2.out.trans (HBR.out.mono (by omega))) hC) (by omega) HS.out (by omega) (HK.out.below HBR.out (Nat.le_refl _)) hzr HO.out.rd (Nat.le_refl _) HLN.out hfit).mono ?_
          rintro e w3 ⟨x3, c3, rfl, ho3, hb3⟩
          have HB3 := Lib.hid ((HB2.out.trans (HBR.out.mono (by omega))).trans (hb3.mono (by omega)))
          have HO3 := Lib.hid ho3
          clear ho3 hb3
          go_wp2_with fail
          go_ret
          exact retII_of (by rw [HJ.out, ← HLE.out]) (HO3.out.mono (by omega) (Nat.le_refl _)) HB3.out
end Go.Proofs.YtfjodcfbhpglhaaDoor
