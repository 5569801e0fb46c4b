/- The rounds of equality, as the program goes them: impl.answered, impl.leftAfter, impl.kindsOf. -/
import Derived.Test.YtiiohodkfipfbaaGreatDoorArrow
namespace Go.Hyp
open Go.RowKit Go.Deep
/-- Each member of i has an equal one among those of j, over the lists of members. -/
def mtchL (p : List (List Int)) (s : Nat → Nat → Bool) (i j k : Nat) : Bool := ((arrL p i p.length).take k).all fun x => (arrL p j p.length).any fun y => s x.toNat y.toNat
theorem mtchL_all (p : List (List Int)) (s : Nat → Nat → Bool) (i j : Nat) : mtchL p s i j (arrL p i p.length).length = mtch p s i j := by
  unfold mtchL
  rw [List.take_of_length_le (Nat.le_refl _), Bool.eq_iff_iff, mtch_iff, List.all_eq_true]
  constructor
  · intro h k hk ha
    have := h k (arrL_mem.2 ⟨k, rfl, hk, ha⟩)
    rw [List.any_eq_true] at this
    obtain ⟨y, hy, e⟩ := this
    obtain ⟨j', rfl, h1, h2⟩ := arrL_mem.1 hy
    exact ⟨j', h1, h2, by simpa using e⟩
  · intro h x hx
    obtain ⟨k, rfl, h1, h2⟩ := arrL_mem.1 hx
    obtain ⟨j', e1, e2, e3⟩ := h k h1 h2
    rw [List.any_eq_true]
    exact ⟨j', arrL_mem.2 ⟨j', rfl, e1, e2⟩, by simpa using e3⟩
theorem mtchL_succ {p : List (List Int)} {s : Nat → Nat → Bool} {i j k : Nat} (h : k < (arrL p i p.length).length) : mtchL p s i j (k + 1) = (mtchL p s i j k && (arrL p j p.length).any fun y => s ((arrL p i p.length)[k]).toNat y.toNat) := by
  unfold mtchL
  rw [List.take_succ_eq_append_getElem h, List.all_append]
  simp
theorem mtchL_no {p : List (List Int)} {s : Nat → Nat → Bool} {i j k : Nat} (h : k < (arrL p i p.length).length) (hn : ((arrL p j p.length).any fun y => s ((arrL p i p.length)[k]).toNat y.toNat) = false) : mtch p s i j = false := by
  rw [← mtchL_all]
  unfold mtchL
  rw [List.take_of_length_le (Nat.le_refl _), List.all_eq_false]
  exact ⟨_, List.getElem_mem h, by rw [hn]; simp⟩
/-- The least node that draws the same set. -/
def kind (p : List (List Int)) (i : Nat) : Nat := ((List.range p.length).find? fun j => simB p i j).getD 0
theorem kind_spec {p : List (List Int)} {i : Nat} (hi : i < p.length) : kind p i < p.length ∧ simB p i (kind p i) = true ∧ kind p i ≤ i ∧ ∀ j, j < kind p i → simB p i j = false := by
  unfold kind
  cases h : (List.range p.length).find? fun j => simB p i j with
  | none =>
    rw [List.find?_eq_none] at h
    exact absurd (left_refl p p.length i) (h i (by simpa using hi))
  | some j =>
    have h1 := List.find?_some h
    have h2 := List.mem_of_find?_eq_some h
    rw [List.mem_range] at h2
    have h3 : ∀ m, m < j → simB p i m = false := by
      intro m hm
      rw [List.find?_range_eq_some] at h
      simpa using h.2.2 m hm
    refine ⟨h2, h1, ?_, h3⟩
    rcases Nat.lt_or_ge i j with e | e
    · have := h3 i e
      unfold simB at this
      rw [left_refl] at this; cases this
    · exact e
/-- The kinds of the first nodes. -/
def kindsL (p : List (List Int)) (n : Nat) : List Int := (List.range n).map fun i => ((kind p i : Nat) : Int)
theorem kindsL_len (p : List (List Int)) (n : Nat) : (kindsL p n).length = n := by simp [kindsL]
theorem kindsL_succ (p : List (List Int)) (n : Nat) : kindsL p (n + 1) = kindsL p n ++ [((kind p n : Nat) : Int)] := by simp [kindsL, List.range_succ]
theorem kindsL_get (p : List (List Int)) (n i : Nat) (h : i < (kindsL p n).length) : (kindsL p n)[i] = ((kind p i : Nat) : Int) := by simp [kindsL]
theorem kind_idx {p : List (List Int)} {k : Nat} (hk : k < p.length) : idxI (rowOf p.length (left p p.length k)) 1 = ((kind p k : Nat) : Int) := by
  obtain ⟨h1, h2, h3, h4⟩ := kind_spec hk
  have e : simB p k (kind p k) = left p p.length k (kind p k) := rfl
  refine idxI_of (by rw [rowOf_len]; exact h1) (by rw [rowOf_get, ← e, h2]; rfl) fun j hj => ?_
  rw [rowOf_get]
  have : left p p.length k j = false := h4 j hj
  rw [this]; decide
end Go.Hyp
namespace Go.Proofs.YtiiohodkfipfbaaGreatDoor
open Go.RowKit Go.Hyp Go.Deep

set_option maxHeartbeats 400000 in
theorem answered1_any (a : Option Addr) (cap n : Nat) (s : Nat → Nat → Bool) (x y bb xb : Nat) (w : World) (B C : Nat) (h : RdII w B C a (mat n n s)) (hx : x < n) (hy : y < n) (hn : n ≤ 1024)
    (hb : w.cell? ⟨bb, 0, none⟩ = some (.slice a n cap)) (hxc : w.cell? ⟨xb, 0, none⟩ = some (.int .i64 x)) :
    Calls Tryz.prog 70 (#[.int .i64 y] ++ #[.pointer (some ⟨bb, 0, none⟩), .pointer (some ⟨xb, 0, none⟩)]) w fun e w' => e = .returned (.bool (s x y)) ∧ Below w.heap.size w w' := by
  have hl := mat_len n n s
  obtain ⟨b, off, b', off', c', rfl, _, _, hc, _, _, hd⟩ := h.bit (mat_sq n s) x y (by omega) (by omega)
  rw [mat_arr n n s x y hx hy] at hd
  rw [hl] at hc
  have hxi : (x : Int) < (n : Int) := by omega
  have hyi : (y : Int) < (n : Int) := by omega
  clear h hl
  cases hs : s x y
  all_goals
    rw [hs] at hd
    simp only [Bool.false_eq_true, if_false, if_true] at hd
    clear hs
    go_enter Tryz.func70, Tryz.ntmps70
    go_wp2_with fail
    refine bodyPost_ret (v := .bool _) (results_tmp (t := 4) (by kernel_rfl) _ _ _) rfl ⟨rfl, Below.refl _ _⟩

set_option maxHeartbeats 400000 in
theorem answered2_any (a : Option Addr) (cap n : Nat) (s : Nat → Nat → Bool) (x y bb yb : Nat) (w : World) (B C : Nat) (h : RdII w B C a (mat n n s)) (hx : x < n) (hy : y < n) (hn : n ≤ 1024)
    (hb : w.cell? ⟨bb, 0, none⟩ = some (.slice a n cap)) (hyc : w.cell? ⟨yb, 0, none⟩ = some (.int .i64 y)) :
    Calls Tryz.prog 71 (#[.int .i64 x] ++ #[.pointer (some ⟨bb, 0, none⟩), .pointer (some ⟨yb, 0, none⟩)]) w fun e w' => e = .returned (.bool (s x y)) ∧ Below w.heap.size w w' := by
  have hl := mat_len n n s
  obtain ⟨b, off, b', off', c', rfl, _, _, hc, _, _, hd⟩ := h.bit (mat_sq n s) x y (by omega) (by omega)
  rw [mat_arr n n s x y hx hy] at hd
  rw [hl] at hc
  have hxi : (x : Int) < (n : Int) := by omega
  have hyi : (y : Int) < (n : Int) := by omega
  clear h hl
  cases hs : s x y
  all_goals
    rw [hs] at hd
    simp only [Bool.false_eq_true, if_false, if_true] at hd
    clear hs
    go_enter Tryz.func71, Tryz.ntmps71
    go_wp2_with fail
    go_quiet (fail)
    go_wp2_with fail
    go_ret
    exact ⟨rfl, below_drewN (Below.refl _ _) _⟩

theorem enters1 : EntersF Tryz.prog 70 := fun _ _ => by kernel_rfl
theorem enters2 : EntersF Tryz.prog 71 := fun _ _ => by kernel_rfl

set_option maxHeartbeats 800000 in
theorem answered_any (a a' : Option Addr) (cap cap' : Nat) (p : List (List Int)) (s : Nat → Nat → Bool) (i j : Nat) (w : World) (B C : Nat) (h : RdII w B C a p) (h' : RdII w B C a' (mat p.length p.length s)) (hC : C ≤ w.heap.size) (hs : Sq p) (hi : i < p.length) (hj : j < p.length) (hl : p.length ≤ 1024) :
    Calls Tryz.prog 59 #[.slice a p.length cap, .slice a' p.length cap', .int .i64 i, .int .i64 j] w fun e w' => e = .returned (.bool (mtch p s i j && mtch p (fun x y => s y x) j i)) ∧ Below w.heap.size w w' := by
  have F := Lib.hid h
  have F' := Lib.hid h'
  have HS := Lib.hid hs
  clear h h' hs
  have HB0 := Lib.hid (below_alloc w (.cells #[.slice a' p.length cap'] 23))
  have HX0 := Lib.hid (alloc1 w (.cells #[.slice a' p.length cap'] 23))
  have hii : (i : Int) < (p.length : Int) := by omega
  have hji : (j : Int) < (p.length : Int) := by omega
  have l1 := arrL_le p i p.length
  have l2 := arrL_le p j p.length
  go_enter Tryz.func59, Tryz.ntmps59
  go_wp2_with fail
  refine (arrowsOf_any a cap p i _ B C (F.out.below HB0.out hC) (by simp; omega) HS.out hi hl).mono ?_
  rintro e w1 ⟨x1, c1, rfl, o1, hb1⟩
  have HX1 := Lib.hid (hb1.blk HX0.out (by simp))
  have HB1 := Lib.hid (HB0.out.trans (hb1.mono (by simp)))
  have O1 := Lib.hid (o1.mono (Nat.zero_le _) (Nat.le_refl _)).rd
  have hz1 : w.heap.size < w1.heap.size := blk_lt HX1.out
  clear o1 hb1 HX0 HB0
  go_wp2_with fail
  go_loopw [8, 17] (fun r i17 wr => ∃ k : Nat, k ≤ (arrL p i p.length).length ∧ i17 = .int .i64 k ∧ r = .bool false ∧ mtchL p s i j k = true ∧ Below w1.heap.size w1 wr) (fun _ i17 _ => (arrL p i p.length).length - (intOf i17).toNat)
  case atStart => exact ⟨0, Nat.zero_le _, rfl, rfl, by simp [mtchL], Below.refl _ _⟩
  case round =>
    obtain ⟨k, hk, rfl, rfl, hm, hb⟩ := hrel
    have HM := Lib.hid hm
    have HB := Lib.hid hb
    have HBW := Lib.hid (HB1.out.trans (hb.mono (by omega)))
    have HZ : Hid (w1.heap.size ≤ wr.heap.size) := Lib.hid hb.size
    clear hm hb
    by_cases hlt : k < (arrL p i p.length).length
    · obtain ⟨b1, off1, rfl, _, hb1C, hd1⟩ := (O1.out.below HB.out (Nat.le_refl _)).at k hlt
      obtain ⟨x, hx, hxn, hxa⟩ := arrL_at hlt
      rw [hx] at hd1
      have HXX := Lib.hid hx
      have hb1w : b1 < wr.heap.size := by have := HZ.out; omega
      have HBX := Lib.hid (HBW.out.alloc HBW.out.size (.cells #[.int .i64 x] 3))
      have HCX := Lib.hid (alloc1 wr (.cells #[.int .i64 x] 3))
      clear hx
      go_wp2_with fail
      refine (arrowsOf_any a cap p j _ B C (F.out.below HBX.out hC) (Nat.le_trans hC HBX.out.size) HS.out hj hl).mono ?_
      rintro e w2 ⟨x2, c2, rfl, o2, hb2⟩
      have HB2 := Lib.hid (HBX.out.trans (hb2.mono HBX.out.size))
      have HBB := Lib.hid ((HB.out.alloc HZ.out (.cells #[.int .i64 x] 3)).trans (hb2.mono (by have := HZ.out; simp; omega)))
      have HXC := Lib.hid (hb2.blk HCX.out (by simp))
      have HLC := Lib.hid (hb2.blk (blk_old (HB.out.blk HX1.out hz1)) (by have := HZ.out; simp; omega))
      have O2 := Lib.hid o2.rd
      have HZ2 := Lib.hid hb2.size
      have HF : Hid (TellsF Tryz.prog 70 #[.pointer (some ⟨w.heap.size, 0, none⟩), .pointer (some ⟨wr.heap.size, 0, none⟩)] (fun y => s ((arrL p i p.length)[k]).toNat y.toNat) (arrL p j p.length) w2) := Lib.hid fun y hy w3 hb3 => by
        obtain ⟨y', rfl, hy1, hy2⟩ := arrL_mem.1 hy
        have e1 := (blk1 (hb3.blk HXC.out (blk_lt HXC.out))).1
        have e2 := (blk1 (hb3.blk HLC.out (blk_lt HLC.out))).1
        have := answered1_any a' cap' p.length s x y' w.heap.size wr.heap.size w3 B C (F'.out.below (HB2.out.trans (hb3.mono HB2.out.size)) hC) hxn hy1 hl e2 e1
        rw [HXX.out]
        simpa using this
      clear o2 hb2 HBX HCX
      have hany : ((arrL p j p.length).any fun y => s ((arrL p i p.length)[k]).toNat y.toNat) = true ∨ ((arrL p j p.length).any fun y => s ((arrL p i p.length)[k]).toNat y.toNat) = false := by cases ((arrL p j p.length).any fun y => s ((arrL p i p.length)[k]).toNat y.toNat) <;> simp
      rcases hany with hany | hany
      · have HA := Lib.hid hany
        clear hany
        go_wp2_with fail
        refine (containsFunc_any x2 c2 (arrL p j p.length) _ _ _ w2 _ _ enters1 O2.out (Nat.le_refl _) (by omega) HF.out).mono ?_
        rintro e w3 ⟨rfl, hb3⟩
        rw [HA.out]
        have HBR := Lib.hid (HBB.out.trans (hb3.mono HBB.out.size))
        clear hb3
        go_wp2_with fail
        go_roundw
        case rel => exact ⟨k + 1, by omega, by go_num, rfl, by rw [mtchL_succ hlt, HM.out, HA.out]; rfl, HBR.out⟩
        case measure => simp [intOf]; omega
      · have HA := Lib.hid hany
        clear hany
        go_wp2_with fail
        refine (containsFunc_any x2 c2 (arrL p j p.length) _ _ _ w2 _ _ enters1 O2.out (Nat.le_refl _) (by omega) HF.out).mono ?_
        rintro e w3 ⟨rfl, hb3⟩
        rw [HA.out]
        have HBR := Lib.hid (HB2.out.trans (hb3.mono HB2.out.size))
        clear hb3
        go_wp2_with fail
        go_ret
        exact ⟨ret_bool (by rw [ mtchL_no hlt HA.out]; simp), HBR.out⟩
    · obtain rfl : k = (arrL p i p.length).length := by omega
      have HMo := Lib.hid ((mtchL_all p s i j).symm.trans HM.out)
      go_wp2_with fail
      refine (arrowsOf_any a cap p j _ B C (F.out.below HBW.out hC) (Nat.le_trans hC HBW.out.size) HS.out hj hl).mono ?_
      rintro e wo ⟨x3, c3, rfl, o3, hb3⟩
      have HBW1 := Lib.hid (HBW.out.trans (hb3.mono HBW.out.size))
      have HXo := Lib.hid (hb3.blk (HB.out.blk HX1.out hz1) (by have := HZ.out; omega))
      have O3 := Lib.hid (o3.mono (Nat.zero_le _) (Nat.le_refl _)).rd
      have hzo : w.heap.size < wo.heap.size := blk_lt HXo.out
      clear o3 hb3 HB HBW HZ HM O1 HX1 HB1 hz1
      go_wp2_with fail
      go_loopw [8, 32] (fun r i17 wr => ∃ k : Nat, k ≤ (arrL p j p.length).length ∧ i17 = .int .i64 k ∧ r = .bool false ∧ mtchL p (fun x y => s y x) j i k = true ∧ Below wo.heap.size wo wr) (fun _ i17 _ => (arrL p j p.length).length - (intOf i17).toNat)
      case atStart => exact ⟨0, Nat.zero_le _, rfl, rfl, by simp [mtchL], Below.refl _ _⟩
      case round =>
        obtain ⟨k, hk, rfl, rfl, hm, hb⟩ := hrel
        have HM := Lib.hid hm
        have HB := Lib.hid hb
        have HBW := Lib.hid (HBW1.out.trans (hb.mono (by omega)))
        have HZ : Hid (wo.heap.size ≤ wr.heap.size) := Lib.hid hb.size
        clear hm hb
        by_cases hlt : k < (arrL p j p.length).length
        · obtain ⟨b1, off1, rfl, _, hb1C, hd1⟩ := (O3.out.below HB.out (Nat.le_refl _)).at k hlt
          obtain ⟨x, hx, hxn, hxa⟩ := arrL_at hlt
          rw [hx] at hd1
          have HXX := Lib.hid hx
          have hb1w : b1 < wr.heap.size := by have := HZ.out; omega
          have HBX := Lib.hid (HBW.out.alloc HBW.out.size (.cells #[.int .i64 x] 3))
          have HCX := Lib.hid (alloc1 wr (.cells #[.int .i64 x] 3))
          clear hx
          go_wp2_with fail
          refine (arrowsOf_any a cap p i _ B C (F.out.below HBX.out hC) (Nat.le_trans hC HBX.out.size) HS.out hi hl).mono ?_
          rintro e w2 ⟨x2, c2, rfl, o2, hb2⟩
          have HB2 := Lib.hid (HBX.out.trans (hb2.mono HBX.out.size))
          have HBB := Lib.hid ((HB.out.alloc HZ.out (.cells #[.int .i64 x] 3)).trans (hb2.mono (by have := HZ.out; simp; omega)))
          have HXC := Lib.hid (hb2.blk HCX.out (by simp))
          have HLC := Lib.hid (hb2.blk (blk_old (HB.out.blk HXo.out hzo)) (by have := HZ.out; simp; omega))
          have O2 := Lib.hid o2.rd
          have HZ2 := Lib.hid hb2.size
          have HF : Hid (TellsF Tryz.prog 71 #[.pointer (some ⟨w.heap.size, 0, none⟩), .pointer (some ⟨wr.heap.size, 0, none⟩)] (fun y => (fun x y => s y x) ((arrL p j p.length)[k]).toNat y.toNat) (arrL p i p.length) w2) := Lib.hid fun y hy w3 hb3 => by
            obtain ⟨y', rfl, hy1, hy2⟩ := arrL_mem.1 hy
            have e1 := (blk1 (hb3.blk HXC.out (blk_lt HXC.out))).1
            have e2 := (blk1 (hb3.blk HLC.out (blk_lt HLC.out))).1
            have := answered2_any a' cap' p.length s y' x w.heap.size wr.heap.size w3 B C (F'.out.below (HB2.out.trans (hb3.mono HB2.out.size)) hC) hy1 hxn hl e2 e1
            rw [HXX.out]
            simpa using this
          clear o2 hb2 HBX HCX
          have hany : ((arrL p i p.length).any fun y => (fun x y => s y x) ((arrL p j p.length)[k]).toNat y.toNat) = true ∨ ((arrL p i p.length).any fun y => (fun x y => s y x) ((arrL p j p.length)[k]).toNat y.toNat) = false := by cases ((arrL p i p.length).any fun y => (fun x y => s y x) ((arrL p j p.length)[k]).toNat y.toNat) <;> simp
          rcases hany with hany | hany
          · have HA := Lib.hid hany
            clear hany
            go_wp2_with fail
            refine (containsFunc_any x2 c2 (arrL p i p.length) _ _ _ w2 _ _ enters2 O2.out (Nat.le_refl _) (by omega) HF.out).mono ?_
            rintro e w3 ⟨rfl, hb3⟩
            rw [HA.out]
            have HBR := Lib.hid (HBB.out.trans (hb3.mono HBB.out.size))
            clear hb3
            go_wp2_with fail
            go_roundw
            case rel => exact ⟨k + 1, by omega, by go_num, rfl, by rw [mtchL_succ hlt, HM.out, HA.out]; rfl, HBR.out⟩
            case measure => simp [intOf]; omega
          · have HA := Lib.hid hany
            clear hany
            go_wp2_with fail
            refine (containsFunc_any x2 c2 (arrL p i p.length) _ _ _ w2 _ _ enters2 O2.out (Nat.le_refl _) (by omega) HF.out).mono ?_
            rintro e w3 ⟨rfl, hb3⟩
            rw [HA.out]
            have HBR := Lib.hid (HB2.out.trans (hb3.mono HB2.out.size))
            clear hb3
            go_wp2_with fail
            go_ret
            exact ⟨ret_bool (by rw [ mtchL_no hlt HA.out]; simp), HBR.out⟩
        · obtain rfl : k = (arrL p j p.length).length := by omega
          go_wp2_with fail
          go_ret
          exact ⟨ret_bool (by rw [HMo.out, ← mtchL_all p (fun x y => s y x) j i, HM.out]; rfl), HBW.out⟩

set_option maxHeartbeats 1000000 in
theorem leftAfter_any (a : Option Addr) (cap : Nat) (p : List (List Int)) (r : Nat) (w : World) (B C : Nat) (h : RdII w B C a p) (hC : C ≤ w.heap.size) (hs : Sq p) (hl : p.length ≤ 1024) (hr : r ≤ 1024) :
    Calls Tryz.prog 45 #[.slice a p.length cap, .int .i64 r] w (RetM 3 37 p.length p.length (left p r) w) := by
  have F := Lib.hid (h.mono (Nat.zero_le _) (Nat.le_refl _))
  have HS := Lib.hid hs
  clear h hs
  obtain ⟨n, hn⟩ : ∃ n, n = p.length := ⟨_, rfl⟩
  have HN := Lib.hid hn
  rw [← hn] at hl ⊢
  clear hn
  go_enter Tryz.func45, Tryz.ntmps45
  go_wp2_with fail
  refine (emptyPicture_any n w hl).mono ?_
  intro e w1 hret
  obtain ⟨a5, c5, rfl, ho1, hb1⟩ := hret.toM
  have O1 := Lib.hid ho1
  have HB1 := Lib.hid hb1
  clear ho1 hb1 hret
  go_wp2_with fail
  go_loopw [17] (fun i wr => ∃ k : Nat, k ≤ n ∧ i = .int .i64 k ∧ OwII wr 3 37 w.heap.size wr.heap.size a5 c5 (mat n n (upB k 0 fun _ _ => true)) ∧ Below w.heap.size w wr) (fun i _ => n - (intOf i).toNat)
  case atStart => exact ⟨0, Nat.zero_le _, rfl, O1.out.matCongr (fun x y _ _ => (upB_start x y).symm), HB1.out⟩
  case round =>
    obtain ⟨k, hk, rfl, ho, hb⟩ := hrel
    have HO := Lib.hid ho
    have HB := Lib.hid hb
    clear ho hb O1 HB1
    by_cases hlt : k < n
    · obtain ⟨g, r0, ci, rfl, _, _, hgl, hhead, _, _, _, _, _, _, _⟩ := HO.out.bitAt k 0 hlt (by omega)
      go_wp2_with fail
      obtain ⟨wo, rfl⟩ : ∃ wo : World, wo = wr := ⟨_, rfl⟩
      go_loopw [23] (fun i wr => ∃ j : Nat, j ≤ n ∧ i = .int .i64 j ∧ OwII wr 3 37 w.heap.size wr.heap.size (some ⟨g, 0, none⟩) c5 (mat n n (upB k j fun _ _ => true)) ∧ wr.cell? ⟨g, k, none⟩ = some (.slice (some ⟨r0, 0, none⟩) n ci) ∧ Below w.heap.size w wr) (fun i _ => n - (intOf i).toNat)
      case atStart => exact ⟨0, Nat.zero_le _, rfl, HO.out, hhead, HB.out⟩
      case round =>
        obtain ⟨j, hj, rfl, ho, hh, hb⟩ := hrel
        have HO1 := Lib.hid ho
        have HH1 := Lib.hid hh
        have HB1 := Lib.hid hb
        clear ho hh hb
        by_cases hlt' : j < n
        · obtain ⟨q1, q2, _, _, hr0, _, _, hrl, _, q3, q4⟩ := HO1.out.bitHead k j hlt hlt' HH1.out
          have hji : (j : Int) < (n : Int) := by omega
          have Q3 := Lib.hid q3
          have Q4 := Lib.hid (q4 true (upB k (j + 1) fun _ _ => true) (fun x y _ _ => upB_step x y))
          clear q3 q4 hhead
          go_wp2_with fail
          go_roundw
          case rel => exact ⟨j + 1, by omega, by go_num, by simpa using Q4.out, Q3.out _, HB1.out.setCell hr0 _⟩
          case measure => simp [intOf]; omega
        · obtain rfl : j = n := by omega
          clear hhead
          go_wp2_with fail
          go_roundw
          case rel => exact ⟨k + 1, by omega, by go_num, HO1.out.matCongr (fun x y _ hy => upB_row x y hy), HB1.out⟩
          case measure => simp [intOf]; omega
    · obtain rfl : k = n := by omega
      have O2 := Lib.hid (HO.out.matCongr (g := left p 0) (fun x y hx _ => upB_end x y hx))
      clear HO
      obtain ⟨w2, rfl⟩ : ∃ w2 : World, w2 = wr := ⟨_, rfl⟩
      go_wp2_with fail
      go_loopw [5, 32] (fun l i wr => ∃ (m : Nat) (x : Option Addr) (c : Nat), m ≤ r ∧ i = .int .i64 m ∧ l = .slice x k c ∧ OwII wr 3 37 w.heap.size wr.heap.size x c (mat k k (left p m)) ∧ Below w.heap.size w wr) (fun _ i _ => r - (intOf i).toNat)
      case atStart => exact ⟨0, a5, c5, Nat.zero_le _, rfl, rfl, O2.out, HB.out⟩
      case round =>
        obtain ⟨m, x5, c5', hm, rfl, rfl, ho, hb⟩ := hrel
        have HO3 := Lib.hid (ho.rd.mono (Nat.zero_le _) (Nat.le_refl _))
        have HOX := Lib.hid ho
        have HB3 := Lib.hid hb
        clear ho hb O2 HB
        by_cases hlt2 : m < r
        · obtain ⟨w3, rfl⟩ : ∃ w3 : World, w3 = wr := ⟨_, rfl⟩
          go_wp2_with fail
          refine (emptyPicture_any k w3 hl).mono ?_
          intro e w4 hret
          obtain ⟨a9, c9, rfl, ho4, hb4⟩ := hret.toM
          have O4 := Lib.hid ho4
          have HB4 := Lib.hid hb4
          clear ho4 hb4 hret
          go_wp2_with fail
          go_loopw [39] (fun i wr => ∃ ia : Nat, ia ≤ k ∧ i = .int .i64 ia ∧ OwII wr 3 37 w3.heap.size wr.heap.size a9 c9 (mat k k (upB ia 0 (left p (m + 1)))) ∧ Below w3.heap.size w3 wr) (fun i _ => k - (intOf i).toNat)
          case atStart => exact ⟨0, Nat.zero_le _, rfl, O4.out.matCongr (fun x y _ _ => (upB_start x y).symm), HB4.out⟩
          case round =>
            obtain ⟨ia, hia, rfl, ho, hb⟩ := hrel
            have HO5 := Lib.hid ho
            have HB5 := Lib.hid hb
            clear ho hb O4 HB4
            by_cases hlt3 : ia < k
            · obtain ⟨w5, rfl⟩ : ∃ w5 : World, w5 = wr := ⟨_, rfl⟩
              go_wp2_with fail
              go_loopw [44] (fun i wr => ∃ ib : Nat, ib ≤ k ∧ i = .int .i64 ib ∧ OwII wr 3 37 w3.heap.size wr.heap.size a9 c9 (mat k k (upB ia ib (left p (m + 1)))) ∧ Below w3.heap.size w3 wr) (fun i _ => k - (intOf i).toNat)
              case atStart => exact ⟨0, Nat.zero_le _, rfl, HO5.out, HB5.out⟩
              case round =>
                obtain ⟨ib, hib, rfl, ho, hb⟩ := hrel
                have HO6 := Lib.hid ho
                have HB6 := Lib.hid hb
                clear ho hb HO5 HB5
                by_cases hlt4 : ib < k
                · have hLB := Lib.hid (HO3.out.below HB6.out (Nat.le_refl _))
                  have hml := mat_len k k (left p m)
                  obtain ⟨b1, f1, b2, f2, cc, rfl, _, hb1C, hc1, _, hb2C, hd1⟩ := hLB.out.bit (mat_sq k _) ia ib (by omega) (by omega)
                  rw [mat_arr _ _ _ _ _ hlt3 hlt4] at hd1
                  rw [hml] at hc1
                  have hZ6 := HB6.out.size
                  clear hml
                  have hia' : (ia : Int) < (k : Int) := by omega
                  have hib' : (ib : Int) < (k : Int) := by omega
                  have hsucc : left p (m + 1) ia ib = (left p m ia ib && (mtch p (left p m) ia ib && mtch p (fun x y => left p m y x) ib ia)) := by
                    have e : (fun x y => left p m y x) = left p m := by funext x y; exact left_symm _ _ _ _
                    rw [e, ← Bool.and_assoc]; rfl
                  have HSU := Lib.hid hsucc
                  clear hsucc
                  cases hx : left p m ia ib
                  · have HX : Hid (left p (m + 1) ia ib = false) := Lib.hid (by rw [HSU.out, hx]; rfl)
                    rw [hx] at hd1
                    simp only [Bool.false_eq_true, if_false] at hd1
                    clear hx
                    go_wp2_with fail
                    go_roundw
                    case rel => exact ⟨ib + 1, by omega, by go_num, HO6.out.matCongr (fun x y _ _ => upB_stay x y HX.out), HB6.out⟩
                    case measure => simp [intOf]; omega
                  · rw [hx] at hd1
                    simp only [if_true] at hd1
                    have HX := Lib.hid hx
                    clear hx
                    cases hq : (mtch p (left p m) ia ib && mtch p (fun x y => left p m y x) ib ia)
                    all_goals
                      have HQ := Lib.hid hq
                      clear hq
                      have HCALL := Lib.hid (answered_any a _ cap c5' p (left p m) ia ib wr 0 w3.heap.size ((F.out.below (HB3.out.trans (HB6.out.mono HB3.out.size)) hC).mono (Nat.le_refl _) (by have := HB3.out.size; omega)) (HN.out ▸ hLB.out) hZ6 HS.out (HN.out ▸ hlt3) (HN.out ▸ hlt4) (HN.out ▸ hl))
                      rw [← HN.out] at HCALL
                    · go_wp2_with fail
                      refine HCALL.out.mono ?_
                      rintro e w7 ⟨rfl, hb7⟩
                      rw [HQ.out]
                      have HB7 := Lib.hid (HB6.out.trans (hb7.mono hZ6))
                      have HO7 := Lib.hid (HO6.out.below hb7 (Nat.le_refl _))
                      have HZ7 := Lib.hid hb7.size
                      clear hb7
                      go_wp2_with fail
                      go_roundw
                      case rel => exact ⟨ib + 1, by omega, by go_num, (HO7.out.mono (Nat.le_refl _) HZ7.out).matCongr (fun x y _ _ => upB_stay x y (by rw [HSU.out, HX.out, HQ.out]; rfl)), HB7.out⟩
                      case measure => simp [intOf]; omega
                    · go_wp2_with fail
                      refine HCALL.out.mono ?_
                      rintro e w7 ⟨rfl, hb7⟩
                      rw [HQ.out]
                      have HB7 := Lib.hid (HB6.out.trans (hb7.mono hZ6))
                      have HZ7 := Lib.hid hb7.size
                      obtain ⟨g9, r9, c9', rfl, _, _, hg9, hh9, _, _, hr9, q1, q2, q3, q4⟩ := (HO6.out.below hb7 (Nat.le_refl _)).bitAt ia ib hlt3 hlt4
                      have hr9b : w3.heap.size ≤ r9 := by assumption
                      have Q4 := Lib.hid (q4 true (upB ia (ib + 1) (left p (m + 1))) (fun x y _ _ => by rw [upB_step, show left p (m + 1) ia ib = true by rw [HSU.out, HX.out, HQ.out]; rfl]))
                      clear hb7 q4 hc1 hd1
                      go_wp2_with fail
                      go_roundw
                      case rel => exact ⟨ib + 1, by omega, by go_num, by have := Q4.out.mono (Nat.le_refl _) HZ7.out; simpa using this, HB7.out.setCell hr9b _⟩
                      case measure => simp [intOf]; omega
                · obtain rfl : ib = k := by omega
                  go_wp2_with fail
                  go_roundw
                  case rel => exact ⟨ia + 1, by omega, by go_num, HO6.out.matCongr (fun x y _ hy => upB_row x y hy), HB6.out⟩
                  case measure => simp [intOf]; omega
            · obtain rfl : ia = k := by omega
              go_wp2_with fail
              go_roundw
              case rel => exact ⟨m + 1, a9, c9, by omega, by go_num, rfl, (HO5.out.matCongr (fun x y hx _ => upB_end x y hx)).mono HB3.out.size (Nat.le_refl _), HB3.out.trans (HB5.out.mono HB3.out.size)⟩
              case measure => simp [intOf]; omega
        · obtain rfl : m = r := by omega
          go_wp2_with fail
          go_ret
          exact retM_of HOX.out HB3.out (fun _ _ _ _ => rfl)

set_option maxHeartbeats 400000 in
theorem kindsOf_any (a : Option Addr) (cap : Nat) (p : List (List Int)) (w : World) (B C : Nat) (h : RdII w B C a p) (hC : C ≤ w.heap.size) (hs : Sq p) (hl : p.length ≤ 1024) :
    Calls Tryz.prog 52 #[.slice a p.length cap] w (RetI 3 (kindsL p p.length) w) := by
  have F := Lib.hid (h.below (below_alloc w (.cells #[] 3)) hC)
  have HS := Lib.hid hs
  have HB0 := Lib.hid (below_alloc w (.cells #[] 3))
  clear h hs
  go_enter Tryz.func52, Tryz.ntmps52
  go_wp2_with fail
  refine (leftAfter_any a cap p p.length _ B C F.out (by simp; omega) HS.out hl hl).mono ?_
  rintro e w1 ⟨x, c, rfl, ho, hb⟩
  have OE := Lib.hid ((OwI_empty w 3).below hb (by simp))
  have hz1 : w.heap.size < w1.heap.size := by have := hb.size; simp at this; omega
  have HB1 := Lib.hid (HB0.out.trans (hb.mono (by simp)))
  have HR := Lib.hid (ho.rd.mono (B' := w.heap.size + 1) (by simp) (Nat.le_refl _))
  clear ho hb HB0
  go_wp2_with fail
  go_loopw [3, 12] (fun o i wr => ∃ (k : Nat) (y : Option Addr) (d : Nat), k ≤ p.length ∧ i = .int .i64 k ∧ o = .slice y (kindsL p k).length d ∧ OwI wr 3 w.heap.size wr.heap.size y d (kindsL p k) ∧ RdII wr (w.heap.size + 1) w1.heap.size x (mat p.length p.length (left p p.length)) ∧ Below w.heap.size w wr ∧ w1.heap.size ≤ wr.heap.size ∧ ∀ b, blockOf y = some b → b < w.heap.size + 1 ∨ w1.heap.size ≤ b) (fun _ i _ => p.length - (intOf i).toNat)
  case atStart => exact ⟨0, _, 0, Nat.zero_le _, rfl, rfl, OE.out.mono (Nat.le_refl _) hz1, HR.out, HB1.out, Nat.le_refl _, fun b hb => by simp [blockOf] at hb; omega⟩
  case round =>
    obtain ⟨k, y, d, hk, rfl, rfl, ho, hr, hb, hz, hy⟩ := hrel
    have HY := Lib.hid hy
    clear hy
    have HO := Lib.hid ho
    have HR1 := Lib.hid hr
    have HB := Lib.hid hb
    have hkl : (kindsL p k).length ≤ 1024 := by rw [kindsL_len]; omega
    clear ho hr hb HR OE HB1
    by_cases hlt : k < p.length
    · obtain ⟨b, off, a', c', rfl, _, hbC, hc, hrow⟩ := HR1.out.rowAt (mat_sq _ _) k (by rw [mat_len]; exact hlt)
      rw [mat_len] at hc hrow
      have er : rowOf p.length (arr (mat p.length p.length (left p p.length)) k) = rowOf p.length (left p p.length k) := rowOf_congr fun j hj => mat_arr _ _ _ _ _ hlt hj
      rw [er] at hrow
      have hbw : b < wr.heap.size := by omega
      have HROW := Lib.hid hrow
      have HI := Lib.hid (index_any a' c' (rowOf p.length (left p p.length k)) 1 wr _ _ hrow (by rw [rowOf_len]; omega))
      rw [rowOf_len, kind_idx hlt] at HI
      clear hrow er
      go_wp2_with fail
      refine HI.out.mono ?_
      rintro e w2 ⟨rfl, rfl⟩
      go_wp2_with (at_builtin; go_loud (refine wpList_appI Tryz.underlying37 Tryz.infoInt _ rfl _ _ rfl w.heap.size wr.heap.size y d (kindsL p k) rfl (HO.out.agr ((Agr.refl _ _ _).alloc (Nat.le_refl _) _)) (by have := HB.out.size; simp; omega) ⟨wr.heap.size, 0, none⟩ (kind p k) rfl (new_cellE _ _ _ rfl) (by omega) ?_); intro g c1 w3 hown hgrow hat hg)
      have hl1 : kindsL p (k + 1) = kindsL p k ++ [((kind p k : Nat) : Int)] := kindsL_succ p k
      have HL := Lib.hid hl1
      have HO1 := Lib.hid hown
      have HB1 := Lib.hid (below_app HB.out hgrow (HO.out.app_in (Nat.le_refl _)) (Nat.le_refl _) (Nat.le_refl _))
      have HR2 := Lib.hid (HR1.out.agr (fun j _ h2 => (hgrow.block j (by simp; omega) (fun e => by have := HY.out j e.symm; omega)).trans (Below.heap_alloc _ _ _ (by omega))))
      have HY1 : Hid (∀ b, blockOf (some (⟨g, 0, none⟩ : Addr)) = some b → b < w.heap.size + 1 ∨ w1.heap.size ≤ b) := Lib.hid fun b hb => by
        simp [blockOf] at hb; subst hb
        rcases hat with e | e
        · exact HY.out _ e
        · simp at e; omega
      have hz3 : w1.heap.size ≤ w3.heap.size := by have := hgrow.size; simp at this; omega
      clear hown hgrow hat hl1
      go_wp2_with fail
      go_roundw
      case rel => exact ⟨k + 1, some ⟨g, 0, none⟩, c1, by omega, by go_num, by rw [HL.out]; simp, by rw [HL.out]; exact HO1.out, HR2.out, HB1.out, hz3, HY1.out⟩
      case measure => simp [intOf]; omega
    · obtain rfl : k = p.length := by omega
      go_wp2_with fail
      go_ret
      exact retI_of rfl HO.out HB.out
end Go.Proofs.YtiiohodkfipfbaaGreatDoor
