/- Members of sets: impl.hasSet, impl.HasSet, spec.HasSet, impl.InSet, spec.InSet. -/
import Derived.Test.YtiiohodkfipfbaaGreatDoorBeside
import Derived.Test.YtiiohodkfipfbaaGreatDoorLeastS
import Derived.StillTailTactics
namespace Go.Hyp
open Go.RowKit Go.Deep
/-- The set at i has that at j as a member. -/
def hasL (p : List (List Int)) (i : Nat) (q : List (List Int)) (j : Nat) : Bool := (arrL p i p.length).any fun v => sameB p v.toNat q j
/-- What HasSet answers. -/
def hasB (p : List (List Int)) (n : Int) (q : List (List Int)) (m : Int) : Bool := nodeB p n && nodeB q m && hasL p n.toNat q m.toNat
/-- All members of the set at i are members of that at j. -/
def inL (p : List (List Int)) (i : Nat) (q : List (List Int)) (j : Nat) : Bool := !(arrL p i p.length).any fun v => !hasL q j p v.toNat
/-- What InSet answers. -/
def inB (p : List (List Int)) (n : Int) (q : List (List Int)) (m : Int) : Bool := nodeB p n && nodeB q m && inL p n.toNat q m.toNat
theorem hasB_no1 {p q : List (List Int)} {a b : Int} (h : nodeB p a = false) : hasB p a q b = false := by unfold hasB; rw [h]; rfl
theorem hasB_no2 {p q : List (List Int)} {a b : Int} (h : nodeB q b = false) : hasB p a q b = false := by unfold hasB; rw [h, Bool.and_false]; rfl
theorem hasB_yes {p q : List (List Int)} {i j : Nat} (h : nodeB p i = true) (k : nodeB q j = true) : hasB p i q j = hasL p i q j := by unfold hasB; rw [h, k, Int.toNat_natCast, Int.toNat_natCast]; rfl
theorem inB_no1 {p q : List (List Int)} {a b : Int} (h : nodeB p a = false) : inB p a q b = false := by unfold inB; rw [h]; rfl
theorem inB_no2 {p q : List (List Int)} {a b : Int} (h : nodeB q b = false) : inB p a q b = false := by unfold inB; rw [h, Bool.and_false]; rfl
theorem inB_yes {p q : List (List Int)} {i j : Nat} (h : nodeB p i = true) (k : nodeB q j = true) : inB p i q j = inL p i q j := by unfold inB; rw [h, k, Int.toNat_natCast, Int.toNat_natCast]; rfl
theorem hasL_iff {p q : List (List Int)} {i j : Nat} (hj : j < q.length) : hasL p i q j = true ↔ ∃ v, v < p.length ∧ arr p i v = true ∧ Same p v q j := by
  unfold hasL
  rw [List.any_eq_true]
  constructor
  · rintro ⟨x, hx, h⟩
    obtain ⟨v, rfl, h1, h2⟩ := arrL_mem.1 hx
    rw [Int.toNat_natCast] at h
    exact ⟨v, h1, h2, (sameB_iff h1 hj).1 h⟩
  · rintro ⟨v, h1, h2, h3⟩
    exact ⟨v, arrL_mem.2 ⟨v, rfl, h1, h2⟩, by rw [Int.toNat_natCast]; exact (sameB_iff h1 hj).2 h3⟩
theorem inL_iff {p q : List (List Int)} {i j : Nat} : inL p i q j = true ↔ ∀ v, v < p.length → arr p i v = true → ∃ u, u < q.length ∧ arr q j u = true ∧ Same q u p v := by
  unfold inL
  rw [Bool.not_eq_true', List.any_eq_false]
  constructor
  · intro h v hv ha
    have h1 := h v (arrL_mem.2 ⟨v, rfl, hv, ha⟩)
    rw [Int.toNat_natCast] at h1
    have h2 : hasL q j p v = true := by simpa using h1
    exact (hasL_iff hv).1 h2
  · intro h x hx
    obtain ⟨v, rfl, h1, h2⟩ := arrL_mem.1 hx
    rw [Int.toNat_natCast, (hasL_iff h1).2 (h v h1 h2)]
    simp
/-- Within each other means the same. -/
theorem in_both {p q : List (List Int)} {i j : Nat} (hi : i < p.length) (hj : j < q.length) : (inL p i q j && inL q j p i) = sameB p i q j := by
  rw [Bool.eq_iff_iff, Bool.and_eq_true, sameB_iff hi hj, inL_iff, inL_iff]
  constructor
  · rintro ⟨h1, h2⟩
    exact same_of_members hi hj (fun k hk ha => by
      obtain ⟨u, e1, e2, e3⟩ := h1 k hk ha
      exact ⟨u, e1, e2, e3.symm⟩) (fun k hk ha => h2 k hk ha)
  · intro h
    exact ⟨fun v hv ha => by
      obtain ⟨u, e1, e2, e3⟩ := h.to hv ha
      exact ⟨u, e1, e2, e3.symm⟩, fun v hv ha => by
      obtain ⟨u, e1, e2, e3⟩ := h.symm.to hv ha
      exact ⟨u, e1, e2, e3.symm⟩⟩
end Go.Hyp
namespace Go.Proofs.YtiiohodkfipfbaaGreatDoor
open Go.RowKit Go.Hyp Go.Deep

theorem entersHas : EntersF Tryz.prog 29 := fun _ _ => by kernel_rfl
set_option maxHeartbeats 400000 in
theorem hasSet1_any (a : Option Addr) (cap : Nat) (p : List (List Int)) (v : Nat) (a' : Option Addr) (cap' : Nat) (q : List (List Int)) (j pb qb bb : Nat) (w : World) (B C B' C' : Nat) (h : RdII w B C a p) (hC : C ≤ w.heap.size) (hs : Sq p) (hv : v < p.length) (h' : RdII w B' C' a' q) (hC' : C' ≤ w.heap.size) (hs' : Sq q) (hj : j < q.length) (hl : p.length + q.length ≤ 1024)
    (h1 : w.cell? ⟨pb, 0, none⟩ = some (.slice a p.length cap)) (h2 : w.cell? ⟨qb, 0, none⟩ = some (.slice a' q.length cap')) (h3 : w.cell? ⟨bb, 0, none⟩ = some (.int .i64 j)) :
    Calls Tryz.prog 29 (#[.int .i64 v] ++ #[.pointer (some ⟨pb, 0, none⟩), .pointer (some ⟨qb, 0, none⟩), .pointer (some ⟨bb, 0, none⟩)]) w fun e w' => e = .returned (.bool (sameB p v q j)) ∧ Below w.heap.size w w' := by
  have F := Lib.hid h
  have F' := Lib.hid h'
  have HS := Lib.hid hs
  have HS' := Lib.hid hs'
  clear h h' hs hs'
  go_enter Tryz.func29, Tryz.ntmps29
  go_wp2_with fail
  refine (sameSet_any a cap p v a' cap' q j _ B C B' C' F.out hC HS.out hv F'.out hC' HS'.out hj hl).mono ?_
  rintro e w1 ⟨rfl, hb⟩
  have HB := Lib.hid hb
  clear hb
  go_wp2_with fail
  go_ret
  exact ⟨rfl, HB.out⟩

set_option maxRecDepth 4000 in
set_option maxHeartbeats 800000 in
theorem hasSet_any (a : Option Addr) (cap : Nat) (p : List (List Int)) (i : Nat) (a' : Option Addr) (cap' : Nat) (q : List (List Int)) (j : Nat) (w : World) (B C B' C' : Nat) (h : RdII w B C a p) (hC : C ≤ w.heap.size) (hs : Sq p) (hi : i < p.length) (h' : RdII w B' C' a' q) (hC' : C' ≤ w.heap.size) (hs' : Sq q) (hj : j < q.length) (hl : p.length + q.length ≤ 1024) :
    Calls Tryz.prog 15 #[.slice a p.length cap, .int .i64 i, .slice a' q.length cap', .int .i64 j] w fun e w' => e = .returned (.bool (hasL p i q j)) ∧ Below w.heap.size w w' := by
  have F := Lib.hid h
  have F' := Lib.hid h'
  have HS := Lib.hid hs
  have HS' := Lib.hid hs'
  clear h h' hs hs'
  have HA3 := Lib.hid (alloc3 w (.cells #[.slice a p.length cap] 23) (.cells #[.slice a' q.length cap'] 23) (.cells #[.int .i64 j] 3))
  have HB0 := Lib.hid (((below_alloc w (.cells #[.slice a p.length cap] 23)).alloc (by simp) (.cells #[.slice a' q.length cap'] 23)).alloc (by simp; omega) (.cells #[.int .i64 j] 3))
  have hal := arrL_le p i p.length
  go_enter Tryz.func15, Tryz.ntmps15
  go_wp2_with fail
  refine (arrowsOf_any a cap p i _ B C (F.out.below HB0.out hC) (by simp; omega) HS.out hi (by omega)).mono ?_
  rintro e w1 ⟨x, c, rfl, ho, hb⟩
  have HX := Lib.hid ho.rd
  have HB1 := Lib.hid (HB0.out.trans (hb.mono (by simp; omega)))
  have HP1 := Lib.hid (hb.blk HA3.out.1 (by simp; omega))
  have HQ1 := Lib.hid (hb.blk HA3.out.2.1 (by simp))
  have HJ1 := Lib.hid (hb.blk HA3.out.2.2 (by simp))
  have HF : Hid (TellsF Tryz.prog 29 #[.pointer (some ⟨w.heap.size, 0, none⟩), .pointer (some ⟨w.heap.size + 1, 0, none⟩), .pointer (some ⟨w.heap.size + 1 + 1, 0, none⟩)] (fun v => sameB p v.toNat q j) (arrL p i p.length) w1) := Lib.hid fun y hy w3 hb3 => by
    obtain ⟨v, rfl, hv1, hv2⟩ := arrL_mem.1 hy
    have hB3 := HB1.out.trans (hb3.mono HB1.out.size)
    have e1 := (blk1 (hb3.blk HP1.out (blk_lt HP1.out))).1
    have e2 := (blk1 (hb3.blk HQ1.out (blk_lt HQ1.out))).1
    have e3 := (blk1 (hb3.blk HJ1.out (blk_lt HJ1.out))).1
    have := hasSet1_any a cap p v a' cap' q j _ _ _ w3 B C B' C' (F.out.below hB3 hC) (Nat.le_trans hC hB3.size) HS.out hv1 (F'.out.below hB3 hC') (Nat.le_trans hC' hB3.size) HS'.out hj hl e1 e2 e3
    simpa using this
  clear ho hb HB0 HA3 HP1 HQ1 HJ1
  go_wp2_with fail
  refine (containsFunc_any x c (arrL p i p.length) _ _ _ w1 _ _ entersHas HX.out (Nat.le_refl _) (by omega) HF.out).mono ?_
  rintro e w2 ⟨rfl, hb⟩
  have HB2 := Lib.hid (HB1.out.trans (hb.mono HB1.out.size))
  clear hb
  go_wp2_with fail
  go_ret
  exact ⟨rfl, HB2.out⟩

set_option maxRecDepth 4000 in
set_option maxHeartbeats 800000 in
theorem implHasSet_any (a : Option Addr) (cap : Nat) (p : List (List Int)) (n : Int) (a' : Option Addr) (cap' : Nat) (q : List (List Int)) (m : Int) (w : World) (B C B' C' : Nat) (h : RdII w B C a p) (hC : C ≤ w.heap.size) (hl : p.length ≤ maxLen) (h' : RdII w B' C' a' q) (hC' : C' ≤ w.heap.size) (hl' : q.length ≤ maxLen) :
    Calls Tryz.prog 5 #[.slice a p.length cap, .int .i64 n, .slice a' q.length cap', .int .i64 m] w fun e w' => e = .returned (.bool (hasB p n q m)) ∧ Below w.heap.size w w' := by
  have HN1 := Lib.hid (hasNode_any a cap p n w B C h hl)
  have HN2 := Lib.hid (hasNode_any a' cap' q m w B' C' h' hl')
  have F := Lib.hid h
  have F' := Lib.hid h'
  clear h h'
  cases h1 : nodeB p n
  · have H1 := Lib.hid h1
    have HSB := Lib.hid (hasB_no1 (q := q) (b := m) h1)
    clear h1
    go_enter Tryz.func5, Tryz.ntmps5
    go_wp2_with (go_at_call 14; refine HN1.out.mono ?_; rintro e w' ⟨rfl, rfl⟩; rw [H1.out])
    go_ret
    exact ⟨ret_bool HSB.out.symm, Below.refl _ _⟩
  · cases h2 : nodeB q m
    · have H1 := Lib.hid h1
      have H2 := Lib.hid h2
      have HSB := Lib.hid (hasB_no2 (p := p) (a := n) h2)
      clear h1 h2
      go_enter Tryz.func5, Tryz.ntmps5
      go_wp2_with fail
      refine HN1.out.mono ?_
      rintro e w' ⟨rfl, rfl⟩
      rw [H1.out]
      go_wp2_with fail
      refine HN2.out.mono ?_
      rintro e w' ⟨rfl, rfl⟩
      rw [H2.out]
      go_wp2_with fail
      go_ret
      exact ⟨ret_bool HSB.out.symm, Below.refl _ _⟩
    · obtain ⟨i, rfl, hi, hp⟩ := nodeB_nat h1
      obtain ⟨j, rfl, hj, hq⟩ := nodeB_nat h2
      obtain ⟨sq, s1, s5⟩ := picB_sq hp
      obtain ⟨sq', s1', s5'⟩ := picB_sq hq
      have HS := Lib.hid sq
      have HS' := Lib.hid sq'
      have H1 := Lib.hid h1
      have H2 := Lib.hid h2
      have HSB := Lib.hid (hasB_yes h1 h2)
      clear h1 h2 hp hq sq sq'
      go_enter Tryz.func5, Tryz.ntmps5
      go_wp2_with fail
      refine HN1.out.mono ?_
      rintro e w' ⟨rfl, rfl⟩
      rw [H1.out]
      go_wp2_with fail
      refine HN2.out.mono ?_
      rintro e w' ⟨rfl, rfl⟩
      rw [H2.out]
      go_wp2_with fail
      refine (hasSet_any a cap p i a' cap' q j _ B C B' C' F.out hC HS.out hi F'.out hC' HS'.out hj (by omega)).mono ?_
      rintro e w1 ⟨rfl, hb⟩
      have HB := Lib.hid hb
      clear hb
      go_wp2_with fail
      go_ret
      exact ⟨ret_bool HSB.out.symm, HB.out⟩

set_option maxRecDepth 4000 in
set_option maxHeartbeats 800000 in
theorem specHasSet_any (a : Option Addr) (cap : Nat) (p : List (List Int)) (n : Int) (a' : Option Addr) (cap' : Nat) (q : List (List Int)) (m : Int) (w : World) (B C B' C' : Nat) (h : RdII w B C a p) (hC : C ≤ w.heap.size) (hl : p.length ≤ maxLen) (h' : RdII w B' C' a' q) (hC' : C' ≤ w.heap.size) (hl' : q.length ≤ maxLen) :
    Calls Tryz.prog 6 #[.slice a p.length cap, .int .i64 n, .slice a' q.length cap', .int .i64 m] w fun e w' => e = .returned (.bool (hasB p n q m)) ∧ Below w.heap.size w w' := by
  have HN1 := Lib.hid (specNodeOk_any a cap p n w B C h hl)
  have HN2 := Lib.hid (specNodeOk_any a' cap' q m w B' C' h' hl')
  have F := Lib.hid h
  have F' := Lib.hid h'
  clear h h'
  cases h1 : nodeB p n
  · have H1 := Lib.hid h1
    have HSB := Lib.hid (hasB_no1 (q := q) (b := m) h1)
    clear h1
    go_enter Tryz.func6, Tryz.ntmps6
    go_wp2_with (go_at_call 9; refine HN1.out.mono ?_; rintro e w' ⟨rfl, rfl⟩; rw [H1.out])
    go_ret
    exact ⟨ret_bool HSB.out.symm, Below.refl _ _⟩
  · cases h2 : nodeB q m
    · have H1 := Lib.hid h1
      have H2 := Lib.hid h2
      have HSB := Lib.hid (hasB_no2 (p := p) (a := n) h2)
      clear h1 h2
      go_enter Tryz.func6, Tryz.ntmps6
      go_wp2_with fail
      refine HN1.out.mono ?_
      rintro e w' ⟨rfl, rfl⟩
      rw [H1.out]
      go_wp2_with fail
      refine HN2.out.mono ?_
      rintro e w' ⟨rfl, rfl⟩
      rw [H2.out]
      go_wp2_with fail
      go_ret
      exact ⟨ret_bool HSB.out.symm, Below.refl _ _⟩
    · have H1 := Lib.hid h1
      have H2 := Lib.hid h2
      obtain ⟨i, rfl, hi, hp⟩ := nodeB_nat h1
      obtain ⟨j, rfl, hj, hq⟩ := nodeB_nat h2
      obtain ⟨sq, s1, s5⟩ := picB_sq hp
      have HS := Lib.hid sq
      have HP := Lib.hid hp
      have HSB := Lib.hid (hasB_yes h1 h2)
      have HSS : Hid (∀ v : Nat, v < p.length → sameSetB p v q j = sameB p v q j) := Lib.hid fun v hv => by
        unfold sameSetB; rw [nodeB_of HP.out hv, H2.out, Int.toNat_natCast, Int.toNat_natCast]; rfl
      have hal := arrL_le p i p.length
      clear h1 h2 hp hq sq
      go_enter Tryz.func6, Tryz.ntmps6
      go_wp2_with fail
      refine HN1.out.mono ?_
      rintro e w' ⟨rfl, rfl⟩
      rw [H1.out]
      go_wp2_with fail
      refine HN2.out.mono ?_
      rintro e w' ⟨rfl, rfl⟩
      rw [H2.out]
      go_wp2_with fail
      refine (l6Arrows_any a cap p i _ B C F.out hC HS.out hi (by omega)).mono ?_
      rintro e w1 ⟨x, c, rfl, ho, hb⟩
      have HX := Lib.hid ho.rd
      have HB1 := Lib.hid hb
      have hz1 : w.heap.size ≤ w1.heap.size := hb.size
      clear ho hb
      obtain ⟨A, hA⟩ : ∃ A, A = arrL p i p.length := ⟨_, rfl⟩
      have HAT : Hid (∀ k (hk : k < A.length), ∃ v : Nat, A[k] = v ∧ v < p.length) := Lib.hid (by
        subst hA
        intro k hk
        obtain ⟨v, e1, e2, _⟩ := arrL_at hk
        exact ⟨v, e1, e2⟩)
      have HHL : Hid (hasL p i q j = A.any fun v => sameB p v.toNat q j) := Lib.hid (by rw [hA]; rfl)
      rw [← hA] at HX hal ⊢
      clear hA
      go_wp2_with fail
      go_loopw [8, 10] (fun r c2 wr => ∃ k : Nat, k ≤ A.length ∧ c2 = .int .i64 k ∧ r = .bool false ∧ ((A.take k).any fun v => sameB p v.toNat q j) = false ∧ Below w1.heap.size w1 wr) (fun _ c2 _ => A.length - (intOf c2).toNat)
      case atStart => exact ⟨0, Nat.zero_le _, rfl, rfl, rfl, Below.refl _ _⟩
      case round =>
        obtain ⟨k, hk, rfl, rfl, hf, hb⟩ := hrel
        have HF := Lib.hid hf
        have HB := Lib.hid hb
        have hzr : w1.heap.size ≤ wr.heap.size := hb.size
        clear hf hb
        by_cases hlt : k < A.length
        · obtain ⟨v, hv, hvp⟩ := HAT.out k hlt
          obtain ⟨b1, o1, rfl, _, hb1, hd⟩ := (HX.out.below HB.out (Nat.le_refl _)).at k hlt
          rw [hv] at hd
          have hki : (k : Int) < (A.length : Int) := by omega
          have HST : Hid (((A.take (k + 1)).any fun v => sameB p v.toNat q j) = sameB p v q j) := Lib.hid (by
            rw [List.take_succ_eq_append_getElem hlt, List.any_append, HF.out, hv]; simp)
          have HCALL := Lib.hid (specSameSet_any a cap p v a' cap' q j wr B C B' C' (F.out.below (HB1.out.trans (HB.out.mono hz1)) hC) (by omega) hl (F'.out.below (HB1.out.trans (HB.out.mono hz1)) hC') (by omega) hl')
          rw [HSS.out v hvp] at HCALL
          clear hv
          cases hsb : sameB p v q j
          · have HN : Hid (((A.take (k + 1)).any fun v => sameB p v.toNat q j) = false) := Lib.hid (by rw [HST.out, hsb])
            rw [hsb] at HCALL
            clear hsb
            go_wp2_with fail
            refine HCALL.out.mono ?_
            rintro e w2 ⟨rfl, hb⟩
            have HB2 := Lib.hid (HB.out.trans (hb.mono hzr))
            clear hb
            go_wp2_with fail
            go_roundw
            case rel => exact ⟨k + 1, by omega, by go_num, rfl, HN.out, HB2.out⟩
            case measure => simp [intOf]; omega
          · have HN : Hid (hasL p i q j = true) := Lib.hid (by
              rw [HHL.out, List.any_eq_true]
              have h := HST.out
              rw [hsb, List.any_eq_true] at h
              obtain ⟨y, hy, e⟩ := h
              exact ⟨y, List.mem_of_mem_take hy, e⟩)
            rw [hsb] at HCALL
            clear hsb
            go_wp2_with fail
            refine HCALL.out.mono ?_
            rintro e w2 ⟨rfl, hb⟩
            have HB2 := Lib.hid (HB1.out.trans ((HB.out.trans (hb.mono hzr)).mono hz1))
            clear hb
            go_wp2_with fail
            go_ret
            exact ⟨ret_bool (by rw [HSB.out, HN.out]), HB2.out⟩
        · obtain rfl : k = A.length := by omega
          have HN : Hid (hasL p i q j = false) := Lib.hid (by
            rw [HHL.out]
            have h := HF.out
            rwa [List.take_of_length_le (Nat.le_refl _)] at h)
          go_wp2_with fail
          go_ret
          exact ⟨ret_bool (by rw [HSB.out, HN.out]), HB1.out.trans (HB.out.mono hz1)⟩

end Go.Proofs.YtiiohodkfipfbaaGreatDoor
