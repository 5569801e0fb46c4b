/- The nodes that are reached: impl.reachedFrom. -/
import Derived.Test.YtiiohodkfipfbaaGreatDoorArrow
import Derived.Test.YtiiohodkfipfbaaGreatDoorSort
import Derived.Test.YtiiohodkfipfbaaGreatDoorHeld
namespace Go.Hyp
open Go.RowKit Go.Deep
/-- j is reached from i by at most r arrows. -/
def reaN (p : List (List Int)) (i : Nat) : Nat → Nat → Bool
  | 0, j => i == j
  | r + 1, j => reaN p i r j || (List.range p.length).any fun k => reaN p i r k && arr p k j
/-- j is reached from i. -/
def Rea (p : List (List Int)) (i j : Nat) : Prop := ∃ r, reaN p i r j = true
theorem Rea.refl (p : List (List Int)) (i : Nat) : Rea p i i := ⟨0, by simp [reaN]⟩
theorem Rea.step {p : List (List Int)} {i k j : Nat} (h : Rea p i k) (hk : k < p.length) (ha : arr p k j = true) : Rea p i j := by
  obtain ⟨r, hr⟩ := h
  refine ⟨r + 1, ?_⟩
  unfold reaN
  rw [Bool.or_eq_true]
  right
  rw [List.any_eq_true]
  exact ⟨k, List.mem_range.2 hk, by rw [hr, ha]; rfl⟩
theorem Rea.ind {p : List (List Int)} {i : Nat} {Q : Nat → Prop} (h0 : Q i) (hs : ∀ k j, Q k → k < p.length → arr p k j = true → Q j) : ∀ j, Rea p i j → Q j := by
  have key : ∀ r j, reaN p i r j = true → Q j := by
    intro r
    induction r with
    | zero => intro j h; simp [reaN] at h; subst h; exact h0
    | succ r ih =>
      intro j h
      unfold reaN at h
      rw [Bool.or_eq_true] at h
      rcases h with h | h
      · exact ih j h
      · rw [List.any_eq_true] at h
        obtain ⟨k, hk, h⟩ := h
        rw [Bool.and_eq_true] at h
        exact hs k j (ih k h.1) (List.mem_range.1 hk) h.2
  exact fun j ⟨r, h⟩ => key r j h
/-- The list of all nodes that are reached, in order. -/
def IsReach (p : List (List Int)) (i : Nat) (L : List Int) : Prop := L.Pairwise (· < ·) ∧ ∀ x, x ∈ L ↔ ∃ k : Nat, x = k ∧ k < p.length ∧ Rea p i k
theorem sorted_unique : ∀ {L M : List Int}, L.Pairwise (· < ·) → M.Pairwise (· < ·) → (∀ x, x ∈ L ↔ x ∈ M) → L = M := by
  intro L
  induction L with
  | nil =>
    intro M _ _ h
    cases M with
    | nil => rfl
    | cons y M => exact absurd ((h y).2 (by simp)) (by simp)
  | cons x L ih =>
    intro M hL hM h
    cases M with
    | nil => exact absurd ((h x).1 (by simp)) (by simp)
    | cons y M =>
      rw [List.pairwise_cons] at hL hM
      have exy : x = y := by
        rcases Int.lt_trichotomy x y with hlt | he | hgt
        · have := (h x).1 (by simp)
          rcases List.mem_cons.1 this with e | e
          · exact e
          · have := hM.1 x e; omega
        · exact he
        · have := (h y).2 (by simp)
          rcases List.mem_cons.1 this with e | e
          · exact e.symm
          · have := hL.1 y e; omega
      subst exy
      have : L = M := ih hL.2 hM.2 fun z => by
        constructor
        · intro hz
          rcases List.mem_cons.1 ((h z).1 (by simp [hz])) with e | e
          · have := hL.1 z hz; omega
          · exact e
        · intro hz
          rcases List.mem_cons.1 ((h z).2 (by simp [hz])) with e | e
          · have := hM.1 z hz; omega
          · exact e
      rw [this]
theorem IsReach.unique {p : List (List Int)} {i : Nat} {L M : List Int} (h : IsReach p i L) (k : IsReach p i M) : L = M :=
  sorted_unique h.1 k.1 fun x => (h.2 x).trans (k.2 x).symm
theorem srt_mem {l : List Int} {x : Int} : x ∈ srt l ↔ x ∈ l := by unfold srt; exact List.mem_mergeSort
theorem srt_len (l : List Int) : (srt l).length = l.length := by unfold srt; exact (List.mergeSort_perm l _).length_eq
theorem srt_le (l : List Int) : (srt l).Pairwise (· ≤ ·) := by
  have := List.pairwise_mergeSort (le := fun x y : Int => decide (x ≤ y)) (fun a b c h1 h2 => by simp at h1 h2 ⊢; omega) (fun a b => by simp; omega) l
  unfold srt
  exact this.imp (by intro a b h; simpa using h)
theorem lt_of_le_nodup : ∀ {l : List Int}, l.Pairwise (· ≤ ·) → l.Nodup → l.Pairwise (· < ·) := by
  intro l
  induction l with
  | nil => intro _ _; exact List.Pairwise.nil
  | cons x l ih =>
    intro h1 h2
    rw [List.pairwise_cons] at h1 ⊢
    rw [List.nodup_cons] at h2
    refine ⟨fun y hy => ?_, ih h1.2 h2.2⟩
    have := h1.1 y hy
    have hne : x ≠ y := fun e => h2.1 (e ▸ hy)
    omega
theorem srt_lt {l : List Int} (h : l.Nodup) : (srt l).Pairwise (· < ·) := lt_of_le_nodup (srt_le l) (((List.mergeSort_perm l _).nodup_iff).2 h)
/-- The state of the search behind k nodes. -/
structure Srch (p : List (List Int)) (i k : Nat) (L : List Int) : Prop where
  nodup : L.Nodup
  nodes : ∀ x ∈ L, ∃ a : Nat, x = a ∧ a < p.length ∧ Rea p i a
  first : (i : Int) ∈ L
  shut : ∀ t a : Nat, t < k → L[t]? = some (a : Int) → ∀ b, b < p.length → arr p a b = true → (b : Int) ∈ L
theorem Srch.start {p : List (List Int)} {i : Nat} (h : i < p.length) : Srch p i 0 [(i : Int)] :=
  ⟨by simp, fun x hx => by simp at hx; exact ⟨i, hx, h, Rea.refl p i⟩, by simp, fun t a ht => by omega⟩
theorem Srch.len {p : List (List Int)} {i k : Nat} {L : List Int} (h : Srch p i k L) : L.length ≤ p.length := by
  have := h.nodup.length_le_of_subset (l₂ := (List.range p.length).map Int.ofNat) (fun x hx => by
    obtain ⟨a, rfl, ha, _⟩ := h.nodes x hx
    exact List.mem_map.2 ⟨a, List.mem_range.2 ha, rfl⟩)
  simpa using this
theorem Srch.add {p : List (List Int)} {i k a b : Nat} {L : List Int} (h : Srch p i k L) (hk : L[k]? = some (a : Int)) (hb : b < p.length) (hab : arr p a b = true) (hn : (b : Int) ∉ L) : Srch p i k (L ++ [(b : Int)]) := by
  have hka : (a : Int) ∈ L := List.mem_of_getElem? hk
  have hkl : k < L.length := by
    have := List.getElem?_eq_some_iff.1 hk
    exact this.1
  obtain ⟨a', e, ha, hr⟩ := h.nodes _ hka
  have e : a = a' := by omega
  subst e
  refine ⟨List.nodup_append.2 ⟨h.nodup, by simp, fun x hx y hy => by simp at hy; subst hy; exact fun e => hn (e ▸ hx)⟩, fun x hx => ?_, by simp [h.first], fun t c ht htc d hd hcd => ?_⟩
  · rcases List.mem_append.1 hx with hx | hx
    · exact h.nodes x hx
    · simp at hx; exact ⟨b, hx, hb, hr.step ha hab⟩
  · rw [List.getElem?_append_left (by omega)] at htc
    have := h.shut t c ht htc d hd hcd
    simp [this]
theorem Srch.next {p : List (List Int)} {i k a : Nat} {L : List Int} (h : Srch p i k L) (hk : L[k]? = some (a : Int)) (hall : ∀ b, b < p.length → arr p a b = true → (b : Int) ∈ L) : Srch p i (k + 1) L :=
  ⟨h.nodup, h.nodes, h.first, fun t c ht htc d hd hcd => by
    rcases Nat.lt_or_ge t k with h1 | h1
    · exact h.shut t c h1 htc d hd hcd
    · have e : t = k := by omega
      subst e
      rw [hk] at htc
      have e0 : (a : Int) = c := by simpa using htc
      have e : a = c := by omega
      subst e
      exact hall d hd hcd⟩
theorem Srch.done {p : List (List Int)} {i : Nat} {L : List Int} (h : Srch p i L.length L) (hs : Sq p) : IsReach p i (srt L) := by
  refine ⟨srt_lt h.nodup, fun x => ?_⟩
  rw [srt_mem]
  constructor
  · exact h.nodes x
  · rintro ⟨k, rfl, hk, hr⟩
    have key : ∀ j, Rea p i j → j < p.length → (j : Int) ∈ L := by
      refine Rea.ind (Q := fun j => j < p.length → (j : Int) ∈ L) (fun _ => h.first) (fun k j hQ hk ha hj => ?_)
      obtain ⟨t, ht⟩ := List.mem_iff_getElem?.1 (hQ hk)
      have htl := (List.getElem?_eq_some_iff.1 ht).1
      exact h.shut t k htl ht j hj ha
    exact key k hr hk
/-- A new row of one. -/
theorem OwI_one (w : World) (E : Nat) (x : Int) : OwI (w.alloc (.cells #[.int .i64 x] E)) E w.heap.size (w.heap.size + 1) (some ⟨w.heap.size, 0, none⟩) 1 [x] := by
  refine .inr ⟨_, fun i => .int .i64 ([x].getD i 0), rfl, Nat.le_refl _, Nat.lt_succ_self _, World.rowIs_alloc w _ _ _ (fun i hi => ?_), Nat.le_refl _, by unfold maxLen; omega, fun i hi => rfl⟩
  match i, hi with
  | 0, _ => rfl
/-- A call that hands back the nodes that are reached, in new memory. -/
def RetReach (E : Nat) (p : List (List Int)) (i : Nat) (w : World) (e : Ending) (w' : World) : Prop :=
  ∃ L a c, e = .returned (.slice a (L : List Int).length c) ∧ IsReach p i L ∧ L.length ≤ p.length ∧ OwI w' E w.heap.size w'.heap.size a c L ∧ Below w.heap.size w w'
end Go.Hyp
namespace Go.Proofs.YtiiohodkfipfbaaGreatDoor
open Go.RowKit Go.Hyp Go.Deep

set_option maxHeartbeats 800000 in
theorem reachedFrom_any (a : Option Addr) (cap : Nat) (p : List (List Int)) (n : Nat) (w : World) (B C : Nat) (h : RdII w B C a p) (hC : C ≤ w.heap.size) (hs : Sq p) (hn : n < p.length) (hl : p.length ≤ 1024) :
    Calls Tryz.prog 33 #[.slice a p.length cap, .int .i64 n] w (RetReach 3 p n w) := by
  have F := Lib.hid h
  have HS := Lib.hid hs
  clear h hs
  have HO0 := Lib.hid (OwI_one w 3 n)
  have HB0 := Lib.hid (below_alloc w (.cells #[.int .i64 n] 3))
  have HQ0 := Lib.hid (Srch.start hn)
  go_enter Tryz.func33, Tryz.ntmps33
  go_wp2_with fail
  go_loopw [5, 6] (fun o i wr => ∃ (k : Nat) (L : List Int) (g c : Nat), k ≤ L.length ∧ L.length ≤ p.length ∧ i = .int .i64 k ∧ o = .slice (some ⟨g, 0, none⟩) L.length c ∧ Srch p n k L ∧ OwI wr 3 w.heap.size wr.heap.size (some ⟨g, 0, none⟩) c L ∧ Below w.heap.size w wr) (fun _ i _ => p.length - (intOf i).toNat)
  case atStart => exact ⟨0, [(n : Int)], _, _, Nat.zero_le _, by simp; omega, rfl, rfl, HQ0.out, HO0.out.mono (Nat.le_refl _) (by simp), HB0.out⟩
  case round =>
    obtain ⟨k, L, g, c, hk, hLp, rfl, rfl, hq, ho, hb⟩ := hrel
    have HQ := Lib.hid hq
    have HO := Lib.hid ho
    have HB := Lib.hid hb
    have hzr : w.heap.size ≤ wr.heap.size := hb.size
    clear hq ho hb HO0 HB0 HQ0
    by_cases hlt : k < L.length
    · obtain ⟨m, hm, hmp, hmr⟩ := HQ.out.nodes L[k] (List.getElem_mem hlt)
      obtain ⟨b0, off0, hg0, _, hbC, hd⟩ := HO.out.rd.at k hlt
      cases hg0
      rw [hm, Nat.zero_add] at hd
      have HK : Hid (L[k]? = some (m : Int)) := Lib.hid (by rw [List.getElem?_eq_getElem hlt, hm])
      clear hm hmr
      go_wp2_with fail
      refine (arrowsOf_any a cap p m wr B C (F.out.below HB.out hC) (by omega) HS.out hmp hl).mono ?_
      rintro e w1 ⟨ax, cx, rfl, hox, hb⟩
      have HX := Lib.hid hox.rd
      have HO1 := Lib.hid (HO.out.below hb (Nat.le_refl _))
      have HB1 := Lib.hid (HB.out.trans (hb.mono hzr))
      have hz1 : wr.heap.size ≤ w1.heap.size := hb.size
      have hgin := (HO.out.block_in (k := g) rfl).2
      have hal := arrL_le p m p.length
      clear hox hb hd HO
      obtain ⟨ws, rfl⟩ : ∃ ws : World, ws = wr := ⟨_, rfl⟩
      go_wp2_with fail
      go_loopw [5, 24] (fun o i wr => ∃ (t : Nat) (M : List Int) (g' c' : Nat), t ≤ (arrL p m p.length).length ∧ M.length ≤ p.length ∧ k < M.length ∧ i = .int .i64 t ∧ o = .slice (some ⟨g', 0, none⟩) M.length c' ∧ Srch p n k M ∧ M[k]? = some (m : Int) ∧ (∀ s (hs : s < t) (hs2 : s < (arrL p m p.length).length), (arrL p m p.length)[s] ∈ M) ∧
          (g' < ws.heap.size ∨ w1.heap.size ≤ g') ∧ OwI wr 3 w.heap.size wr.heap.size (some ⟨g', 0, none⟩) c' M ∧ RdI wr ws.heap.size w1.heap.size ax (arrL p m p.length) ∧ Below w.heap.size w wr ∧ w1.heap.size ≤ wr.heap.size) (fun _ i _ => (arrL p m p.length).length - (intOf i).toNat)
      case atStart => exact ⟨0, L, g, c, Nat.zero_le _, hLp, hlt, rfl, rfl, HQ.out, HK.out, fun s hs => by omega, .inl hgin, HO1.out.mono (Nat.le_refl _) hz1, HX.out, HB1.out, Nat.le_refl _⟩
      case round =>
        obtain ⟨t, M, g', c', ht, hMp, hkM, rfl, rfl, hq, hkm, hall, hgo, ho, hx, hb, hzw⟩ := hrel
        have HQI := Lib.hid hq
        have HKM := Lib.hid hkm
        have HALL := Lib.hid hall
        have HOI := Lib.hid ho
        have HXI := Lib.hid hx
        have HBI := Lib.hid hb
        have hzi : w.heap.size ≤ wr.heap.size := hb.size
        clear hq hkm hall ho hx hb HO1 HX HB1 HK HQ
        by_cases hlt2 : t < (arrL p m p.length).length
        · obtain ⟨b1, off1, rfl, hb1, hb2, hd⟩ := HXI.out.at t hlt2
          obtain ⟨v, hvv, hvp, hva⟩ := arrL_at hlt2
          have HVV := Lib.hid hvv
          rw [hvv] at hd
          have hbw : b1 < wr.heap.size := by omega
          clear hvv
          by_cases hin : (v : Int) ∈ M
          · have HIN := Lib.hid hin
            have hC := contains_any (some ⟨g', 0, none⟩) c' M v wr _ _ HOI.out.rd (by omega)
            rw [decide_eq_true hin] at hC
            have HC := Lib.hid hC
            clear hin hC
            go_wp2_with fail
            refine HC.out.mono ?_
            rintro e w2 ⟨rfl, rfl⟩
            go_wp2_with fail
            go_roundw
            case rel => exact ⟨t + 1, M, g', c', by omega, hMp, hkM, by go_num, rfl, HQI.out, HKM.out, fun s hs hs2 => by
              rcases Nat.lt_or_ge s t with h1 | h1
              · exact HALL.out s h1 hs2
              · obtain rfl : s = t := by omega
                rw [HVV.out]; exact HIN.out, hgo, HOI.out, HXI.out, HBI.out, hzw⟩
            case measure => simp [intOf]; omega
          · have hQ2 := HQI.out.add HKM.out hvp hva hin
            have HQ2 := Lib.hid hQ2
            have hl2 := hQ2.len
            rw [List.length_append] at hl2
            have hl3 : M.length + 1 ≤ p.length := hl2
            have hC := contains_any (some ⟨g', 0, none⟩) c' M v wr _ _ HOI.out.rd (by omega)
            rw [decide_eq_false hin] at hC
            have HC := Lib.hid hC
            clear hin hC hQ2 hl2
            go_wp2_with fail
            refine HC.out.mono ?_
            rintro e w2 ⟨rfl, rfl⟩
            go_wp2_with (at_builtin; go_loud (refine wpList_appI Tryz.underlying37 Tryz.infoInt _ rfl _ _ rfl w.heap.size wr.heap.size (some ⟨g', 0, none⟩) c' M rfl (HOI.out.agr ((Agr.refl _ _ _).alloc (Nat.le_refl _) _)) (by simp; omega) ⟨wr.heap.size, 0, none⟩ v rfl (new_cellE _ _ _ rfl) (by omega) ?_); intro g2 c2 w3 hown hgrow hat hg2; have HG := Lib.hid hgrow; have HO3 := Lib.hid hown; clear hown hgrow)
            have hat' : g2 = g' ∨ g2 = wr.heap.size + 1 := by
              rcases hat with h | h
              · exact .inl (by simpa [blockOf] using h.symm)
              · exact .inr (by simpa using h)
            clear hat
            have HB3 := Lib.hid (below_app HBI.out HG.out (HOI.out.app_in (Nat.le_refl _)) (Nat.le_refl _) (Nat.le_refl _))
            have hz3 : wr.heap.size + 1 ≤ w3.heap.size := by have := HG.out.size; simpa using this
            have HX3 := Lib.hid (HXI.out.agr (fun k h1 h2 => (HG.out.block k (by simp; omega) (fun e => by
              have : k = g' := by simpa [blockOf] using e
              omega)).trans (Below.heap_alloc _ _ _ (by omega))))
            go_wp2_with fail
            go_roundw
            case rel =>
              have e1 : (M ++ [(v : Int)]).length = M.length + 1 := by simp
              exact ⟨t + 1, M ++ [(v : Int)], g2, c2, by omega, by omega, by omega, by go_num, by rw [e1], HQ2.out, by rw [List.getElem?_append_left hkM]; exact HKM.out, fun s hs hs2 => by
                rcases Nat.lt_or_ge s t with h1 | h1
                · have := HALL.out s h1 hs2
                  simp [this]
                · obtain rfl : s = t := by omega
                  rw [HVV.out]; simp, by omega, HO3.out, HX3.out, HB3.out, by omega⟩
            case measure => simp [intOf]; omega
        · obtain rfl : t = (arrL p m p.length).length := by omega
          have HN := Lib.hid (HQI.out.next HKM.out (fun b hb hab => by
            obtain ⟨s, hs⟩ := List.mem_iff_getElem?.1 (arrL_mem.2 ⟨b, rfl, hb, hab⟩)
            obtain ⟨hs1, hs2⟩ := List.getElem?_eq_some_iff.1 hs
            have := HALL.out s hs1 hs1
            rw [hs2] at this
            exact this))
          go_wp2_with fail
          go_roundw
          case rel => exact ⟨k + 1, M, g', c', by omega, hMp, by go_num, rfl, HN.out, HOI.out, HBI.out⟩
          case measure => simp [intOf]; omega
    · obtain rfl : k = L.length := by omega
      go_wp2_with fail
      refine (sort_any g c L wr _ _ _ HO.out (Nat.le_refl _) (by omega)).mono ?_
      rintro e w2 ⟨rfl, ho2, hc2⟩
      have HO2 := Lib.hid ho2
      have HC2 := Lib.hid hc2
      have hgin := (HO.out.block_in (k := g) rfl).1
      clear ho2 hc2
      go_wp2_with fail
      go_ret
      exact ⟨srt L, some ⟨g, 0, none⟩, c, by rw [srt_len]; rfl, HQ.out.done HS.out, by rw [srt_len]; exact hLp, HO2.out.mono (Nat.le_refl _) HC2.out.size, HB.out.trans (HC2.out.below (D := w.heap.size) (fun k hk => by omega) hzr)⟩

end Go.Proofs.YtiiohodkfipfbaaGreatDoor
