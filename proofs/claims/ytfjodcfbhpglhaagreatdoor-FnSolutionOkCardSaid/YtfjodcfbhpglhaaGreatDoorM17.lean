/- How many members a set has: both ways of finding it. -/
import Derived.StillTailTactics
import Derived.Deep.RegionHeld3
import Derived.Test.YtfjodcfbhpglhaaGreatDoorM8
namespace Go.Hyp
open Go.RowKit Go.Deep
/-- The node at place k draws another set than those ahead of it. -/
def freshB (p : List (List Int)) (L : List Int) (k : Nat) : Bool := (List.range k).all fun j => !simB p (L.getD j 0).toNat (L.getD k 0).toNat
/-- How many different sets there are among the first m. -/
def manyN (p : List (List Int)) (L : List Int) (m : Nat) : Nat := ((List.range m).filter (freshB p L)).length
theorem manyN_succ (p : List (List Int)) (L : List Int) (m : Nat) : manyN p L (m + 1) = manyN p L m + if freshB p L m then 1 else 0 := by
  unfold manyN
  rw [List.range_succ, List.filter_append, List.length_append]
  cases h : freshB p L m <;> simp [h]
theorem manyN_le (p : List (List Int)) (L : List Int) (m : Nat) : manyN p L m ≤ m := by
  unfold manyN; exact Nat.le_trans (List.length_filter_le _ _) (by simp)
/-- What ManyIn answers. -/
def manyI (p : List (List Int)) (i : Int) : Int := if nodeB p i = true then (manyN p (arrL p i.toNat p.length) (arrL p i.toNat p.length).length : Int) else -1
theorem kind_eq {p : List (List Int)} {a b : Nat} (ha : a < p.length) (hb : b < p.length) : kind p a = kind p b ↔ simB p a b = true := by
  obtain ⟨a1, a2, a3, a4⟩ := kind_spec ha
  obtain ⟨b1, b2, b3, b4⟩ := kind_spec hb
  constructor
  · intro e
    rw [← e] at b2
    have : simB p (kind p a) b = true := by unfold simB at b2 ⊢; rw [left_symm]; exact b2
    exact left_trans a2 this
  · intro h
    have h' : simB p b a = true := by unfold simB at h ⊢; rw [left_symm]; exact h
    rcases Nat.lt_trichotomy (kind p a) (kind p b) with e | e | e
    · have := b4 _ e
      have h2 : simB p b (kind p a) = true := left_trans h' a2
      rw [h2] at this; cases this
    · exact e
    · have := a4 _ e
      have h2 : simB p a (kind p b) = true := left_trans h b2
      rw [h2] at this; cases this
theorem freshB_mem {p : List (List Int)} {i k : Nat} {S : List Int} (hk : k < (arrL p i p.length).length) (hS : ∀ x, x ∈ S ↔ ∃ j, j < k ∧ x = ((kind p ((arrL p i p.length).getD j 0).toNat : Nat) : Int)) :
    decide (((kind p ((arrL p i p.length).getD k 0).toNat : Nat) : Int) ∈ S) = !freshB p (arrL p i p.length) k := by
  have key : ∀ j, j < (arrL p i p.length).length → ((arrL p i p.length).getD j 0).toNat < p.length := fun j hj => by
    obtain ⟨x, h1, h2, h3⟩ := arrL_at hj
    rw [getD_lt hj, h1]; simpa using h2
  rw [Bool.eq_iff_iff]
  simp only [decide_eq_true_eq, Bool.not_eq_true']
  unfold freshB
  rw [List.all_eq_false]
  constructor
  · intro h
    obtain ⟨j, h1, h2⟩ := (hS _).1 h
    refine ⟨j, by simpa using h1, ?_⟩
    have := (kind_eq (key j (by omega)) (key k hk)).1 (by omega)
    rw [this]; simp
  · rintro ⟨j, h1, h2⟩
    refine (hS _).2 ⟨j, by simpa using h1, ?_⟩
    have h1' : j < k := by simpa using h1
    have : simB p ((arrL p i p.length).getD j 0).toNat ((arrL p i p.length).getD k 0).toNat = true := by simpa using h2
    rw [(kind_eq (key j (by omega)) (key k hk)).2 this]
end Go.Hyp
namespace Go.Proofs.YtfjodcfbhpglhaaGreatDoor
open Go.RowKit Go.Hyp Go.Deep

set_option maxHeartbeats 800000 in
theorem manyIn_any (a : Option Addr) (cap : Nat) (p : List (List Int)) (i : Nat) (w : World) (B C : Nat) (h : RdII w B C a p) (hC : C ≤ w.heap.size) (hs : Sq p) (hi : i < p.length) (hl : p.length ≤ 1024) :
    Calls Tryz.prog 73 #[.slice a p.length cap, .int .i64 i] w fun e w' => e = .returned (.int .i64 (manyN p (arrL p i p.length) (arrL p i p.length).length)) ∧ Below w.heap.size w w' := by
  have F := Lib.hid h
  have HS := Lib.hid hs
  clear h hs
  have hii : (i : Int) < (p.length : Int) := by omega
  have hal := arrL_le p i p.length
  go_enter Tryz.func73, Tryz.ntmps73
  go_wp2_with fail
  refine (kindsOf_any a cap p w B C F.out hC HS.out hl).mono ?_
  rintro e w1 ⟨x, c, rfl, ho, hb⟩
  have HK := Lib.hid (ho.rd.mono (Nat.zero_le _) (Nat.le_refl _))
  have HB1 := Lib.hid hb
  have hz1 : w.heap.size ≤ w1.heap.size := hb.size
  clear ho hb
  go_wp2_with fail
  have HB1a := Lib.hid (HB1.out.alloc HB1.out.size (.cells #[] 3))
  refine (arrowsOf_any a cap p i _ B C (F.out.below HB1a.out hC) (by have := HB1.out.size; simp; omega) HS.out hi hl).mono ?_
  rintro e w2 ⟨x2, c2, rfl, ho, hb⟩
  have HB2 := Lib.hid (HB1a.out.trans (hb.mono (by have := HB1.out.size; simp; omega)))
  have HL := Lib.hid (ho.rd.mono (B' := w1.heap.size + 1) (by simp) (Nat.le_refl _))
  have OE := Lib.hid ((OwI_empty w1 3).below hb (by simp))
  have HK2 := Lib.hid (HK.out.below ((below_alloc w1 _).trans (hb.mono (by simp))) (Nat.le_refl _))
  have hz2 : w1.heap.size < w2.heap.size := by have := hb.size; simp at this; omega
  clear ho hb HK HB1 HB1a
  go_wp2_with fail
  go_loopw [6, 16] (fun o cn wr => ∃ (k : Nat) (S : List Int) (y : Option Addr) (d : Nat), k ≤ (arrL p i p.length).length ∧ cn = .int .i64 k ∧ o = .slice y S.length d ∧ S.length = manyN p (arrL p i p.length) k ∧
      (∀ x, x ∈ S ↔ ∃ j, j < k ∧ x = ((kind p ((arrL p i p.length).getD j 0).toNat : Nat) : Int)) ∧ OwI wr 3 w1.heap.size wr.heap.size y d S ∧ RdI wr 0 w1.heap.size x (kindsL p p.length) ∧ RdI wr (w1.heap.size + 1) w2.heap.size x2 (arrL p i p.length) ∧ Below w.heap.size w wr ∧ w2.heap.size ≤ wr.heap.size ∧
      ∀ b, blockOf y = some b → b < w1.heap.size + 1 ∨ w2.heap.size ≤ b) (fun _ cn _ => (arrL p i p.length).length - (intOf cn).toNat)
  case atStart => exact ⟨0, [], _, 0, Nat.zero_le _, rfl, rfl, rfl, fun x => by simp, OE.out.mono (Nat.le_refl _) hz2, HK2.out, HL.out, HB2.out, Nat.le_refl _, fun b hb => by simp [blockOf] at hb; omega⟩
  case round =>
    obtain ⟨k, S, y, d, hk, rfl, rfl, hSl, hSm, ho, hkk, hll, hb, hz, hy⟩ := hrel
    have HSL := Lib.hid hSl
    have HSM := Lib.hid hSm
    have HO := Lib.hid ho
    have HK3 := Lib.hid hkk
    have HL3 := Lib.hid hll
    have HB := Lib.hid hb
    have HY := Lib.hid hy
    have hSle : S.length ≤ 1024 := by rw [hSl]; exact Nat.le_trans (manyN_le _ _ _) (by omega)
    clear hSl hSm ho hkk hll hb hy OE HK2 HL HB2
    by_cases hlt : k < (arrL p i p.length).length
    · obtain ⟨b1, o1, rfl, _, hb1C, hd1⟩ := HL3.out.at k hlt
      obtain ⟨v, hv, hvn, hva⟩ := arrL_at hlt
      rw [hv] at hd1
      have hkv : (kindsL p p.length).getD v 0 = ((kind p v : Nat) : Int) := by rw [getD_lt (by rw [kindsL_len]; exact hvn), kindsL_get]
      obtain ⟨b2, o2, rfl, _, hb2C, hd2⟩ := HK3.out v (by rw [kindsL_len]; exact hvn)
      rw [hkv] at hd2
      have hvi : (v : Int) < (p.length : Int) := by omega
      have hb1w : b1 < wr.heap.size := by omega
      have hb2w : b2 < wr.heap.size := by omega
      have hklen : (kindsL p p.length).length = p.length := kindsL_len _ _
      have HKL := Lib.hid hklen
      rw [hklen]
      have hgv : ((arrL p i p.length).getD k 0).toNat = v := by rw [getD_lt hlt, hv]; simp
      have hfr := freshB_mem hlt HSM.out
      rw [hgv] at hfr
      have HGV := Lib.hid hgv
      have HFR := Lib.hid hfr
      clear hv hkv hklen hgv hfr
      cases hq : freshB p (arrL p i p.length) k
      · have HQ := Lib.hid hq
        clear hq
        go_wp2_with fail
        refine (contains_any y d S (kind p v) wr _ _ HO.out.rd (by omega)).mono ?_
        rintro e w' ⟨rfl, rfl⟩
        rw [HFR.out, HQ.out]
        go_wp2_with fail
        go_roundw
        case rel =>
          refine ⟨k + 1, S, y, d, by omega, by go_num, rfl, by rw [manyN_succ, HQ.out, HSL.out]; rfl, fun x => ?_, HO.out, HK3.out, HL3.out, HB.out, hz, HY.out⟩
          rw [HSM.out]
          constructor
          · rintro ⟨j, h1, h2⟩; exact ⟨j, by omega, h2⟩
          · rintro ⟨j, h1, h2⟩
            by_cases e : j = k
            · subst e
              have hm := HFR.out
              rw [HQ.out] at hm
              have := of_decide_eq_true hm
              rw [h2, HGV.out]
              exact (HSM.out _).1 this
            · exact ⟨j, by omega, h2⟩
        case measure => simp [intOf]; omega
      · have HQ := Lib.hid hq
        clear hq
        go_wp2_with fail
        refine (contains_any y d S (kind p v) wr _ _ HO.out.rd (by omega)).mono ?_
        rintro e w' ⟨rfl, rfl⟩
        rw [HFR.out, HQ.out]
        go_wp2_with (at_builtin; go_loud (refine wpList_appI Tryz.underlying35 Tryz.infoInt _ rfl _ _ rfl w1.heap.size wr.heap.size y d S rfl (HO.out.agr ((Agr.refl _ _ _).alloc (Nat.le_refl _) _)) (by simp; omega) ⟨wr.heap.size, 0, none⟩ (kind p v) rfl (new_cellE _ _ _ rfl) (by omega) ?_); intro g c1 w3 hown hgrow hat hg)
        have HO1 := Lib.hid hown
        have HB1 := Lib.hid (below_app HB.out hgrow (HO.out.app_in (Nat.le_refl _)) hz1 (Nat.le_refl _))
        have hA : Agr 0 w1.heap.size wr w3 := fun j _ h2 => (hgrow.block j (by simp; omega) (fun e => by have := HO.out.block_in e.symm; omega)).trans (Below.heap_alloc _ _ _ (by omega))
        have hA2 : Agr (w1.heap.size + 1) w2.heap.size wr w3 := fun j _ h2 => (hgrow.block j (by simp; omega) (fun e => by have := HY.out j e.symm; omega)).trans (Below.heap_alloc _ _ _ (by omega))
        have HK4 := Lib.hid (HK3.out.agr hA)
        have HL4 := Lib.hid (HL3.out.agr hA2)
        have HY1 : Hid (∀ b, blockOf (some (⟨g, 0, none⟩ : Addr)) = some b → b < w1.heap.size + 1 ∨ w2.heap.size ≤ b) := Lib.hid fun b hb => by
          simp [blockOf] at hb; subst hb
          rcases hat with e | e
          · exact HY.out _ e
          · simp at e; omega
        have hz3 : w2.heap.size ≤ w3.heap.size := by have := hgrow.size; simp at this; omega
        clear hown hgrow hat hA hA2
        go_wp2_with fail
        go_roundw
        case rel =>
          refine ⟨k + 1, S ++ [((kind p v : Nat) : Int)], some ⟨g, 0, none⟩, c1, by omega, by go_num, by simp, by rw [manyN_succ, HQ.out, List.length_append, HSL.out]; rfl, fun x => ?_, HO1.out, HK4.out, HL4.out, HB1.out, hz3, HY1.out⟩
          rw [List.mem_append, HSM.out]
          constructor
          · rintro (⟨j, h1, h2⟩ | h)
            · exact ⟨j, by omega, h2⟩
            · simp at h; exact ⟨k, by omega, by rw [h, HGV.out]⟩
          · rintro ⟨j, h1, h2⟩
            by_cases e : j = k
            · subst e; right; rw [h2, HGV.out]; simp
            · left; exact ⟨j, by omega, h2⟩
        case measure => simp [intOf]; omega
    · obtain rfl : k = (arrL p i p.length).length := by omega
      go_wp2_with fail
      go_ret
      exact ⟨ret_int (by rw [HSL.out]), HB.out⟩

set_option maxHeartbeats 400000 in
theorem implManyIn_any (a : Option Addr) (cap : Nat) (p : List (List Int)) (i : Int) (w : World) (B C : Nat) (h : RdII w B C a p) (hC : C ≤ w.heap.size) (hl : p.length ≤ maxLen) :
    Calls Tryz.prog 29 #[.slice a p.length cap, .int .i64 i] w fun e w' => e = .returned (.int .i64 (manyI p i)) ∧ Below w.heap.size w w' := by
  have F := Lib.hid h
  have HL := Lib.hid hl
  unfold maxLen at hl
  clear h
  cases h1 : nodeB p i
  · have H1 := Lib.hid h1
    have E2 : Hid (manyI p i = -1) := Lib.hid (by unfold manyI; rw [h1]; rfl)
    clear h1
    go_enter Tryz.func29, Tryz.ntmps29
    go_wp2_with (go_at_call 45; refine (hasNode_any _ _ _ _ _ B C F.out HL.out).mono ?_; rintro e w' ⟨rfl, rfl⟩; rw [H1.out])
    go_ret
    exact ⟨ret_int E2.out.symm, Below.refl _ _⟩
  · have H1 := Lib.hid h1
    have E0 : manyI p i = (manyN p (arrL p i.toNat p.length) (arrL p i.toNat p.length).length : Int) := by unfold manyI; rw [h1]; rfl
    obtain ⟨n, rfl, hn, hp⟩ := nodeB_nat h1
    obtain ⟨sq, s1, s5⟩ := picB_sq hp
    rw [Int.toNat_natCast] at E0
    have E2 := Lib.hid E0
    have HS := Lib.hid sq
    clear h1 hp sq E0
    go_enter Tryz.func29, Tryz.ntmps29
    go_wp2_with fail
    refine (hasNode_any _ _ _ _ _ B C F.out HL.out).mono ?_
    rintro e w' ⟨rfl, rfl⟩
    rw [H1.out]
    go_wp2_with fail
    refine (manyIn_any a cap p n w B C F.out hC HS.out hn (by omega)).mono ?_
    rintro e w1 ⟨rfl, hb⟩
    go_wp2_with fail
    go_ret
    exact ⟨ret_int E2.out.symm, hb⟩

end Go.Proofs.YtfjodcfbhpglhaaGreatDoor
