/- The rounds of equality, as the reference goes them: spec.l3Start, l3Matched, l3Round, LeftAfter, SameRows, SameAt. -/
import Derived.Test.YtiiohodkfipfbaaGreatDoorLeft
namespace Go.Hyp
open Go.RowKit Go.Deep
/-- Among the first m nodes there is one to which b has an arrow, and which is told equal to k. -/
def fndB (p : List (List Int)) (s : Nat → Nat → Bool) (b k m : Nat) : Bool := (List.range m).any fun j => arr p b j && s k j
theorem fndB_succ (p : List (List Int)) (s : Nat → Nat → Bool) (b k m : Nat) : fndB p s b k (m + 1) = (fndB p s b k m || (arr p b m && s k m)) := by
  unfold fndB; rw [List.range_succ, List.any_append]; simp
/-- The first m members of a have an equal one each. -/
def mtchN (p : List (List Int)) (s : Nat → Nat → Bool) (a b m : Nat) : Bool := (List.range m).all fun k => !arr p a k || fndB p s b k p.length
theorem mtchN_succ (p : List (List Int)) (s : Nat → Nat → Bool) (a b m : Nat) : mtchN p s a b (m + 1) = (mtchN p s a b m && (!arr p a m || fndB p s b m p.length)) := by
  unfold mtchN; rw [List.range_succ, List.all_append]; simp
theorem mtchN_all (p : List (List Int)) (s : Nat → Nat → Bool) (a b : Nat) : mtchN p s a b p.length = mtch p s a b := rfl
theorem mtchN_no {p : List (List Int)} {s : Nat → Nat → Bool} {a b k : Nat} (hk : k < p.length) (h1 : arr p a k = true) (h2 : fndB p s b k p.length = false) : mtch p s a b = false := by
  cases h : mtch p s a b
  · rfl
  · obtain ⟨j, hj, e1, e2⟩ := mtch_iff.1 h k hk h1
    have : fndB p s b k p.length = true := by
      unfold fndB
      rw [List.any_eq_true]
      exact ⟨j, by simpa using hj, by rw [e1, e2]; rfl⟩
    rw [h2] at this; cases this
/-- The rows that LeftAfter answers. -/
def leftR (p : List (List Int)) (r : Int) : List (List Int) := if (picB p && (decide (0 ≤ r) && decide (r ≤ 30))) = true then mat p.length p.length (left p r.toNat) else []
theorem left_round (p : List (List Int)) (m x y : Nat) : left p (m + 1) x y = (left p m x y && mtch p (left p m) x y && mtch p (left p m) y x) := rfl
end Go.Hyp
namespace Go.Proofs.YtiiohodkfipfbaaGreatDoor
open Go.RowKit Go.Hyp Go.Deep

set_option maxHeartbeats 400000 in
theorem l3Start_any (n : Nat) (w : World) (hn : n ≤ 1024) : Calls Tryz.prog 100 #[.int .i64 n] w (RetM 3 37 n n (fun _ _ => true) w) := by
  go_enter Tryz.func100, Tryz.ntmps100
  go_wp2_with fail
  go_loopw [3, 4] (fun o i wr => ∃ (k : Nat) (x : Option Addr) (c : Nat) (P : List (List Int)), k ≤ n ∧ i = .int .i64 k ∧ P = (mat n n fun _ _ => true).take k ∧ o = .slice x P.length c ∧ OwII wr 3 37 w.heap.size wr.heap.size x c P ∧ Below w.heap.size w wr) (fun _ i _ => n - (intOf i).toNat)
  case atStart => exact ⟨0, _, 0, [], Nat.zero_le _, rfl, by simp, rfl, (OwII_empty w 3 37).mono (Nat.le_refl _) (by simp), below_alloc _ _⟩
  case round =>
    obtain ⟨k, x, c, P, hk, rfl, hp, rfl, ho, hb⟩ := hrel
    have hpl : P.length ≤ n := by rw [hp, List.length_take]; omega
    have HP := Lib.hid hp
    have HO := Lib.hid ho
    have HB := Lib.hid hb
    clear hp ho hb
    obtain ⟨w2, rfl⟩ : ∃ w2 : World, w2 = wr := ⟨_, rfl⟩
    by_cases hlt : k < n
    · go_wp2_with fail
      go_loopw [5, 6] (fun o i wr => ∃ (j : Nat) (y : Option Addr) (d : Nat) (L : List Int), j ≤ n ∧ i = .int .i64 j ∧ L = (rowOf n fun _ => true).take j ∧ o = .slice y L.length d ∧ OwI wr 3 w2.heap.size wr.heap.size y d L ∧ Below w2.heap.size w2 wr) (fun _ i _ => n - (intOf i).toNat)
      case atStart => exact ⟨0, _, 0, [], Nat.zero_le _, rfl, by simp, rfl, (OwI_empty w2 3).mono (Nat.le_refl _) (by simp), below_alloc _ _⟩
      case round =>
        obtain ⟨j, y, d, L, hj, rfl, hp, rfl, ho, hb⟩ := hrel
        have hll : L.length ≤ n := by rw [hp, List.length_take]; omega
        have HL := Lib.hid hp
        have HR := Lib.hid ho
        have HB2 := Lib.hid hb
        clear hp ho hb
        by_cases hlt' : j < n
        · go_wp2_with (at_builtin; go_loud (refine wpList_appI Tryz.underlying37 Tryz.infoInt _ rfl _ _ rfl w2.heap.size wr.heap.size y d L rfl (HR.out.agr ((Agr.refl _ _ _).alloc (Nat.le_refl _) _)) (by have := HB2.out.size; simp; omega) ⟨wr.heap.size, 0, none⟩ 1 rfl (new_cellE _ _ _ rfl) (by omega) ?_); intro g c1 w3 hown hgrow hat hg)
          have HO1 := Lib.hid hown
          have HB3 := Lib.hid (below_app HB2.out hgrow (HR.out.app_in (Nat.le_refl _)) (Nat.le_refl _) (Nat.le_refl _))
          clear hown hgrow hat
          go_wp2_with fail
          go_roundw
          case rel => exact ⟨j + 1, some ⟨g, 0, none⟩, c1, L ++ [1], by omega, by go_num, by rw [HL.out, rowOf_take _ _ _ hlt']; rfl, by simp, HO1.out, HB3.out⟩
          case measure => simp [intOf]; omega
        · obtain rfl : j = n := by omega
          go_wp2_with (at_builtin; go_loud (refine wpList_appII Tryz.underlying23 Tryz.infoRow _ rfl _ _ rfl w.heap.size w2.heap.size x c P rfl ((HO.out.below HB2.out (Nat.le_refl _)).agr ((Agr.refl _ _ _).alloc HB2.out.size _)) (by have := HB2.out.size; have := HB.out.size; simp; omega) (by have := HB2.out.size; simp; omega) ⟨wr.heap.size, 0, none⟩ y d L rfl (new_cellE _ _ _ rfl) w2.heap.size wr.heap.size (HR.out.agr ((Agr.refl _ _ _).alloc (Nat.le_refl _) _)) (Nat.le_refl _) HB.out.size (by simp) (by omega) ?_); intro a1 c1 w3 hown hgrow hat)
          have HO1 := Lib.hid hown
          have HB3 := Lib.hid (below_app (HB.out.trans (HB2.out.mono HB.out.size)) hgrow (HO.out.app_in (Nat.le_refl _)) (Nat.le_refl _) (Nat.le_refl _))
          have HRO : Hid (L = rowOf j fun _ => true) := Lib.hid (by rw [HL.out, rowOf_all])
          clear hown hgrow hat
          go_wp2_with fail
          go_roundw
          case rel => exact ⟨k + 1, a1, c1, P ++ [L], by omega, by go_num, by rw [HP.out, HRO.out, mat_take _ _ _ _ hlt], by simp, HO1.out, HB3.out⟩
          case measure => simp [intOf]; omega
    · obtain rfl : k = n := by omega
      have HE : Hid (P = mat k k fun _ _ => true) := Lib.hid (by rw [HP.out, mat_all])
      have HLN : Hid (P.length = k) := Lib.hid (by rw [HE.out, mat_len])
      go_wp2_with fail
      go_ret
      exact ⟨x, c, by rw [HLN.out]; rfl, HE.out ▸ HO.out, HB.out⟩

set_option maxHeartbeats 800000 in
theorem l3Matched_any (a a' : Option Addr) (cap cap' : Nat) (p : List (List Int)) (s : Nat → Nat → Bool) (i j : Nat) (w : World) (B C B' C' : Nat) (h : RdII w B C a p) (h' : RdII w B' C' a' (mat p.length p.length s)) (hs : Sq p) (hi : i < p.length) (hj : j < p.length) (hl : p.length ≤ 1024) :
    Calls Tryz.prog 107 #[.slice a p.length cap, .slice a' p.length cap', .int .i64 i, .int .i64 j] w fun e w' => e = .returned (.bool (mtch p s i j)) ∧ w = w' := by
  have F := Lib.hid h
  have F' := Lib.hid h'
  have HS := Lib.hid hs
  clear h h' hs
  have hii : (i : Int) < (p.length : Int) := by omega
  have hji : (j : Int) < (p.length : Int) := by omega
  go_enter Tryz.func107, Tryz.ntmps107
  go_wp2_with fail
  go_loop [8, 9] (fun r c => ∃ k : Nat, k ≤ p.length ∧ c = .int .i64 k ∧ r = .bool false ∧ mtchN p s i j k = true) (fun _ c => p.length - (intOf c).toNat)
  case atStart => exact ⟨0, Nat.zero_le _, rfl, rfl, by simp [mtchN]⟩
  case round =>
    obtain ⟨k, hk, rfl, rfl, hm⟩ := hrel
    have HM := Lib.hid hm
    clear hm
    by_cases hlt : k < p.length
    · obtain ⟨b, off, b', off', c', ea, _, _, hc, _, _, hd⟩ := F.out.bit HS.out i k hi hlt
      have hki : (k : Int) < (p.length : Int) := by omega
      cases hx : arr p i k
      · have HX := Lib.hid hx
        rw [hx] at hd
        simp only [Bool.false_eq_true, if_false] at hd
        subst ea
        clear hx
        go_wp2_with fail
        go_round
        case rel => exact ⟨k + 1, by omega, by go_num, rfl, by rw [mtchN_succ, HM.out, HX.out]; rfl⟩
        case measure => simp [intOf]; omega
      · have HX := Lib.hid hx
        rw [hx] at hd
        simp only [if_true] at hd
        subst ea
        clear hx
        go_wp2_with fail
        go_loop [10, 11] (fun f c => ∃ (m : Nat) (fb : Bool), m ≤ p.length ∧ c = .int .i64 m ∧ f = .bool fb ∧ fb = fndB p s j k m) (fun _ c => p.length - (intOf c).toNat)
        case atStart => exact ⟨0, false, Nat.zero_le _, rfl, rfl, by simp [fndB]⟩
        case round =>
          obtain ⟨m, fb, hm, rfl, rfl, hf⟩ := hrel
          have HF := Lib.hid hf
          clear hf
          by_cases hlt' : m < p.length
          · have hmi : (m : Int) < (p.length : Int) := by omega
            cases fb
            · obtain ⟨b1, off1, b1', off1', c1', ea, _, _, hc1, _, _, hd1⟩ := F.out.bit HS.out j m hj hlt'
              cases ea
              cases hy : arr p j m
              · have HY := Lib.hid hy
                rw [hy] at hd1
                simp only [Bool.false_eq_true, if_false] at hd1
                clear hy
                go_wp2_with fail
                go_round
                case rel => exact ⟨m + 1, false, by omega, by go_num, rfl, by rw [fndB_succ, ← HF.out, HY.out]; rfl⟩
                case measure => simp [intOf]; omega
              · have HY := Lib.hid hy
                rw [hy] at hd1
                simp only [if_true] at hd1
                clear hy
                obtain ⟨b2, off2, b2', off2', c2', ea, _, _, hc2, _, _, hd2⟩ := F'.out.bit (mat_sq _ _) k m (by rw [mat_len]; exact hlt) (by rw [mat_len]; exact hlt')
                rw [mat_len] at hc2
                rw [mat_arr _ _ _ _ _ hlt hlt'] at hd2
                cases hz : s k m
                · have HZ := Lib.hid hz
                  rw [hz] at hd2
                  simp only [Bool.false_eq_true, if_false] at hd2
                  subst ea
                  clear hz
                  go_wp2_with fail
                  go_round
                  case rel => exact ⟨m + 1, false, by omega, by go_num, rfl, by rw [fndB_succ, ← HF.out, HY.out, HZ.out]; rfl⟩
                  case measure => simp [intOf]; omega
                · have HZ := Lib.hid hz
                  rw [hz] at hd2
                  simp only [if_true] at hd2
                  subst ea
                  clear hz
                  go_wp2_with fail
                  go_round
                  case rel => exact ⟨m + 1, true, by omega, by go_num, rfl, by rw [fndB_succ, ← HF.out, HY.out, HZ.out]; rfl⟩
                  case measure => simp [intOf]; omega
            · go_wp2_with fail
              go_round
              case rel => exact ⟨m + 1, true, by omega, by go_num, rfl, by rw [fndB_succ, ← HF.out]; rfl⟩
              case measure => simp [intOf]; omega
          · obtain rfl : m = p.length := by omega
            cases fb
            · go_wp2_with fail
              go_ret
              exact ⟨ret_bool (by rw [mtchN_no hlt HX.out HF.out.symm]), rfl⟩
            · go_wp2_with fail
              go_round
              case rel => exact ⟨k + 1, by omega, by go_num, rfl, by rw [mtchN_succ, HM.out, HX.out, ← HF.out]; rfl⟩
              case measure => simp [intOf]; omega
    · obtain rfl : k = p.length := by omega
      go_wp2_with fail
      go_ret
      exact ⟨ret_bool (by rw [← mtchN_all, HM.out]), rfl⟩

set_option maxHeartbeats 1000000 in
theorem l3Round_any (a a' : Option Addr) (cap cap' : Nat) (p : List (List Int)) (s : Nat → Nat → Bool) (w : World) (B C B' C' : Nat) (h : RdII w B C a p) (h' : RdII w B' C' a' (mat p.length p.length s)) (hC : C ≤ w.heap.size) (hC' : C' ≤ w.heap.size) (hs : Sq p) (hl : p.length ≤ 1024) :
    Calls Tryz.prog 101 #[.slice a p.length cap, .slice a' p.length cap'] w (RetM 3 37 p.length p.length (fun x y => s x y && mtch p s x y && mtch p s y x) w) := by
  have F := Lib.hid h
  have F' := Lib.hid h'
  have HS := Lib.hid hs
  clear h h' hs
  go_enter Tryz.func101, Tryz.ntmps101
  go_wp2_with fail
  go_loopw [5, 6] (fun o i wr => ∃ (k : Nat) (x : Option Addr) (c : Nat) (P : List (List Int)), k ≤ p.length ∧ i = .int .i64 k ∧ P = (mat p.length p.length (fun x y => s x y && mtch p s x y && mtch p s y x)).take k ∧ o = .slice x P.length c ∧ OwII wr 3 37 w.heap.size wr.heap.size x c P ∧ Below w.heap.size w wr) (fun _ i _ => p.length - (intOf i).toNat)
  case atStart => exact ⟨0, _, 0, [], Nat.zero_le _, rfl, by simp, rfl, (OwII_empty w 3 37).mono (Nat.le_refl _) (by simp), below_alloc _ _⟩
  case round =>
    obtain ⟨k, x, c, P, hk, rfl, hp, rfl, ho, hb⟩ := hrel
    have hpl : P.length ≤ p.length := by rw [hp, List.length_take]; omega
    have HP := Lib.hid hp
    have HO := Lib.hid ho
    have HB := Lib.hid hb
    clear hp ho hb
    obtain ⟨w2, rfl⟩ : ∃ w2 : World, w2 = wr := ⟨_, rfl⟩
    by_cases hlt : k < p.length
    · go_wp2_with fail
      go_loopw [7, 8] (fun o i wr => ∃ (j : Nat) (y : Option Addr) (d : Nat) (L : List Int), j ≤ p.length ∧ i = .int .i64 j ∧ L = (rowOf p.length (fun y => s k y && mtch p s k y && mtch p s y k)).take j ∧ o = .slice y L.length d ∧ OwI wr 3 w2.heap.size wr.heap.size y d L ∧ Below w2.heap.size w2 wr) (fun _ i _ => p.length - (intOf i).toNat)
      case atStart => exact ⟨0, _, 0, [], Nat.zero_le _, rfl, by simp, rfl, (OwI_empty w2 3).mono (Nat.le_refl _) (by simp), below_alloc _ _⟩
      case round =>
        obtain ⟨j, y, d, L, hj, rfl, hp, rfl, ho, hb⟩ := hrel
        have hll : L.length ≤ p.length := by rw [hp, List.length_take]; omega
        have HL := Lib.hid hp
        have HR := Lib.hid ho
        have HB2 := Lib.hid hb
        clear hp ho hb
        by_cases hlt' : j < p.length
        · have HBW := Lib.hid (HB.out.trans (HB2.out.mono HB.out.size))
          have FW := Lib.hid (F.out.below HBW.out hC)
          have FW' := Lib.hid (F'.out.below HBW.out hC')
          obtain ⟨b1, off1, b1', off1', c1', ea, _, _, hc1, _, _, hd1⟩ := FW'.out.bit (mat_sq _ _) k j (by rw [mat_len]; exact hlt) (by rw [mat_len]; exact hlt')
          rw [mat_len] at hc1
          rw [mat_arr _ _ _ _ _ hlt hlt'] at hd1
          subst ea
          have hki : (k : Int) < (p.length : Int) := by omega
          have hji : (j : Int) < (p.length : Int) := by omega
          have HM1 := Lib.hid (l3Matched_any a _ cap cap' p s k j wr B C B' C' FW.out FW'.out HS.out hlt hlt' hl)
          have HM2 := Lib.hid (l3Matched_any a _ cap cap' p s j k wr B C B' C' FW.out FW'.out HS.out hlt' hlt hl)
          have hcase : (s k j = false ∧ (s k j && mtch p s k j && mtch p s j k) = false) ∨ (s k j = true ∧ mtch p s k j = false ∧ (s k j && mtch p s k j && mtch p s j k) = false) ∨ (s k j = true ∧ mtch p s k j = true ∧ (s k j && mtch p s k j && mtch p s j k) = mtch p s j k) := by
            cases s k j <;> cases mtch p s k j <;> simp
          rcases hcase with ⟨h1, h2⟩ | ⟨h1, h2, h3⟩ | ⟨h1, h2, h3⟩
          · have HV := Lib.hid h2
            rw [h1] at hd1
            simp only [Bool.false_eq_true, if_false] at hd1
            clear h1 h2
            go_wp2_with (at_builtin; go_loud (refine wpList_appI Tryz.underlying37 Tryz.infoInt _ rfl _ _ rfl w2.heap.size wr.heap.size y d L rfl (HR.out.agr ((Agr.refl _ _ _).alloc (Nat.le_refl _) _)) (by have := HB2.out.size; simp; omega) ⟨wr.heap.size, 0, none⟩ 0 rfl (new_cellE _ _ _ rfl) (by omega) ?_); intro g c1 w3 hown hgrow hat hg)
            have HO1 := Lib.hid hown
            have HB3 := Lib.hid (below_app HB2.out hgrow (HR.out.app_in (Nat.le_refl _)) (Nat.le_refl _) (Nat.le_refl _))
            clear hown hgrow hat
            go_wp2_with fail
            go_roundw
            case rel => exact ⟨j + 1, some ⟨g, 0, none⟩, c1, L ++ [0], by omega, by go_num, by rw [HL.out, rowOf_take _ _ _ hlt', HV.out]; rfl, by simp, HO1.out, HB3.out⟩
            case measure => simp [intOf]; omega
          · have HV := Lib.hid h3
            have HV2 := Lib.hid h2
            rw [h1] at hd1
            simp only [if_true] at hd1
            clear h1 h2 h3
            go_wp2_with (first | (go_at_call 107; refine HM1.out.mono ?_; rintro e w' ⟨rfl, rfl⟩; rw [HV2.out]) | (at_builtin; go_loud (refine wpList_appI Tryz.underlying37 Tryz.infoInt _ rfl _ _ rfl w2.heap.size wr.heap.size y d L rfl (HR.out.agr ((Agr.refl _ _ _).alloc (Nat.le_refl _) _)) (by have := HB2.out.size; simp; omega) ⟨wr.heap.size, 0, none⟩ 0 rfl (new_cellE _ _ _ rfl) (by omega) ?_); intro g c1 w3 hown hgrow hat hg))
            have HO1 := Lib.hid hown
            have HB3 := Lib.hid (below_app HB2.out hgrow (HR.out.app_in (Nat.le_refl _)) (Nat.le_refl _) (Nat.le_refl _))
            clear hown hgrow hat
            go_wp2_with fail
            go_roundw
            case rel => exact ⟨j + 1, some ⟨g, 0, none⟩, c1, L ++ [0], by omega, by go_num, by rw [HL.out, rowOf_take _ _ _ hlt', HV.out]; rfl, by simp, HO1.out, HB3.out⟩
            case measure => simp [intOf]; omega
          · have HV := Lib.hid h3
            have HV2 := Lib.hid h2
            rw [h1] at hd1
            simp only [if_true] at hd1
            clear h1 h2 h3
            cases h4 : mtch p s j k
            · have HV4 := Lib.hid h4
              clear h4
              go_wp2_with fail
              refine HM1.out.mono ?_
              rintro e w' ⟨rfl, rfl⟩
              rw [HV2.out]
              go_wp2_with fail
              refine HM2.out.mono ?_
              rintro e w' ⟨rfl, rfl⟩
              rw [HV4.out]
              go_wp2_with ((at_builtin; go_loud (refine wpList_appI Tryz.underlying37 Tryz.infoInt _ rfl _ _ rfl w2.heap.size wr.heap.size y d L rfl (HR.out.agr ((Agr.refl _ _ _).alloc (Nat.le_refl _) _)) (by have := HB2.out.size; simp; omega) ⟨wr.heap.size, 0, none⟩ 0 rfl (new_cellE _ _ _ rfl) (by omega) ?_); intro g c1 w3 hown hgrow hat hg))
              have HO1 := Lib.hid hown
              have HB3 := Lib.hid (below_app HB2.out hgrow (HR.out.app_in (Nat.le_refl _)) (Nat.le_refl _) (Nat.le_refl _))
              clear hown hgrow hat
              go_wp2_with fail
              go_roundw
              case rel => exact ⟨j + 1, some ⟨g, 0, none⟩, c1, L ++ [0], by omega, by go_num, by rw [HL.out, rowOf_take _ _ _ hlt', HV.out, HV4.out]; rfl, by simp, HO1.out, HB3.out⟩
              case measure => simp [intOf]; omega
            · have HV4 := Lib.hid h4
              clear h4
              go_wp2_with fail
              refine HM1.out.mono ?_
              rintro e w' ⟨rfl, rfl⟩
              rw [HV2.out]
              go_wp2_with fail
              refine HM2.out.mono ?_
              rintro e w' ⟨rfl, rfl⟩
              rw [HV4.out]
              go_wp2_with ((at_builtin; go_loud (refine wpList_appI Tryz.underlying37 Tryz.infoInt _ rfl _ _ rfl w2.heap.size wr.heap.size y d L rfl (HR.out.agr ((Agr.refl _ _ _).alloc (Nat.le_refl _) _)) (by have := HB2.out.size; simp; omega) ⟨wr.heap.size, 0, none⟩ 1 rfl (new_cellE _ _ _ rfl) (by omega) ?_); intro g c1 w3 hown hgrow hat hg))
              have HO1 := Lib.hid hown
              have HB3 := Lib.hid (below_app HB2.out hgrow (HR.out.app_in (Nat.le_refl _)) (Nat.le_refl _) (Nat.le_refl _))
              clear hown hgrow hat
              go_wp2_with fail
              go_roundw
              case rel => exact ⟨j + 1, some ⟨g, 0, none⟩, c1, L ++ [1], by omega, by go_num, by rw [HL.out, rowOf_take _ _ _ hlt', HV.out, HV4.out]; rfl, by simp, HO1.out, HB3.out⟩
              case measure => simp [intOf]; omega
        · obtain rfl : j = p.length := by omega
          go_wp2_with (at_builtin; go_loud (refine wpList_appII Tryz.underlying23 Tryz.infoRow _ rfl _ _ rfl w.heap.size w2.heap.size x c P rfl ((HO.out.below HB2.out (Nat.le_refl _)).agr ((Agr.refl _ _ _).alloc HB2.out.size _)) (by have := HB2.out.size; have := HB.out.size; simp; omega) (by have := HB2.out.size; simp; omega) ⟨wr.heap.size, 0, none⟩ y d L rfl (new_cellE _ _ _ rfl) w2.heap.size wr.heap.size (HR.out.agr ((Agr.refl _ _ _).alloc (Nat.le_refl _) _)) (Nat.le_refl _) HB.out.size (by simp) (by omega) ?_); intro a1 c1 w3 hown hgrow hat)
          have HO1 := Lib.hid hown
          have HB3 := Lib.hid (below_app (HB.out.trans (HB2.out.mono HB.out.size)) hgrow (HO.out.app_in (Nat.le_refl _)) (Nat.le_refl _) (Nat.le_refl _))
          have HRO : Hid (L = rowOf p.length (fun y => s k y && mtch p s k y && mtch p s y k)) := Lib.hid (by rw [HL.out, rowOf_all])
          clear hown hgrow hat
          go_wp2_with fail
          go_roundw
          case rel => exact ⟨k + 1, a1, c1, P ++ [L], by omega, by go_num, by rw [HP.out, HRO.out, mat_take _ _ _ _ hlt], by simp, HO1.out, HB3.out⟩
          case measure => simp [intOf]; omega
    · obtain rfl : k = p.length := by omega
      have HE : Hid (P = mat p.length p.length (fun x y => s x y && mtch p s x y && mtch p s y x)) := Lib.hid (by rw [HP.out, mat_all])
      have HLN : Hid (P.length = p.length) := Lib.hid (by rw [HE.out, mat_len])
      go_wp2_with fail
      go_ret
      exact ⟨x, c, by rw [HLN.out]; rfl, HE.out ▸ HO.out, HB.out⟩

set_option maxHeartbeats 800000 in
theorem specLeftAfter_any (a : Option Addr) (cap : Nat) (p : List (List Int)) (r : Int) (w : World) (B C : Nat) (h : RdII w B C a p) (hC : C ≤ w.heap.size) (hl : p.length ≤ maxLen) :
    Calls Tryz.prog 87 #[.slice a p.length cap, .int .i64 r] w (RetII 3 37 (leftR p r) w) := by
  have F := Lib.hid h
  have HL := Lib.hid hl
  clear h
  have hcase : picB p = false ∨ (picB p = true ∧ (decide (0 ≤ r) && decide (r ≤ 30)) = false) ∨ (picB p = true ∧ (decide (0 ≤ r) && decide (r ≤ 30)) = true) := by cases picB p <;> cases (decide (0 ≤ r) && decide (r ≤ 30)) <;> simp
  unfold maxLen at hl
  rcases hcase with h1 | ⟨h1, h2⟩ | ⟨h1, h2⟩
  · have H1 := Lib.hid h1
    clear h1
    go_enter Tryz.func87, Tryz.ntmps87
    go_wp2_with (go_at_call 21; refine (specPictureOk_any _ _ _ _ B C F.out HL.out).mono ?_; rintro e w' ⟨rfl, rfl⟩; rw [H1.out])
    go_ret
    exact retII_of (p := []) (by unfold leftR; rw [H1.out]; rfl) ((OwII_empty w 3 37).mono (Nat.le_refl _) (by simp)) (below_alloc _ _)
  · have H1 := Lib.hid h1
    have H2 := Lib.hid h2
    clear h1 h2
    go_enter Tryz.func87, Tryz.ntmps87
    go_wp2_with (first | (go_at_call 21; refine (specPictureOk_any _ _ _ _ B C F.out HL.out).mono ?_; rintro e w' ⟨rfl, rfl⟩; rw [H1.out]) | (go_at_call 22; refine (l1In_any _ _ _ _).mono ?_; rintro e w' ⟨rfl, rfl⟩; rw [H2.out]))
    go_ret
    exact retII_of (p := []) (by unfold leftR; rw [H1.out, H2.out]; rfl) ((OwII_empty w 3 37).mono (Nat.le_refl _) (by simp)) (below_alloc _ _)
  · have H1 := Lib.hid h1
    have H2 := Lib.hid h2
    obtain ⟨sq, s1, s5⟩ := picB_sq h1
    have HS := Lib.hid sq
    have hr : 0 ≤ r ∧ r ≤ 30 := by simpa using h2
    obtain ⟨m, rfl⟩ := Int.eq_ofNat_of_zero_le hr.1
    have hm : m ≤ 30 := by omega
    clear h1 h2 sq hr
    go_enter Tryz.func87, Tryz.ntmps87
    go_wp2_with (first | (go_at_call 21; refine (specPictureOk_any _ _ _ _ B C F.out HL.out).mono ?_; rintro e w' ⟨rfl, rfl⟩; rw [H1.out]) | (go_at_call 22; refine (l1In_any _ _ _ _).mono ?_; rintro e w' ⟨rfl, rfl⟩; rw [H2.out]))
    refine (l3Start_any p.length _ (by omega)).mono ?_
    rintro e w1 ⟨x, c, rfl, ho, hb⟩
    have O1 := Lib.hid ho
    have HB1 := Lib.hid hb
    clear ho hb
    go_wp2_with fail
    go_loopw [5, 6] (fun o i wr => ∃ (k : Nat) (y : Option Addr) (d : Nat), k ≤ m ∧ i = .int .i64 k ∧ o = .slice y p.length d ∧ OwII wr 3 37 w.heap.size wr.heap.size y d (mat p.length p.length (left p k)) ∧ Below w.heap.size w wr) (fun _ i _ => m - (intOf i).toNat)
    case atStart => exact ⟨0, x, c, Nat.zero_le _, rfl, rfl, O1.out.matCongr (fun _ _ _ _ => rfl), HB1.out⟩
    case round =>
      obtain ⟨k, y, d, hk, rfl, rfl, ho, hb⟩ := hrel
      have HO := Lib.hid ho
      have HB := Lib.hid hb
      clear ho hb O1 HB1
      by_cases hlt : k < m
      · go_wp2_with fail
        refine (l3Round_any a y cap d p (left p k) wr _ _ _ _ (F.out.below HB.out hC) HO.out.rd (Nat.le_trans hC HB.out.size) (Nat.le_refl _) HS.out (by omega)).mono ?_
        rintro e w2 ⟨x2, c2, rfl, ho2, hb2⟩
        have HO2 := Lib.hid ho2
        have HB2 := Lib.hid (HB.out.trans (hb2.mono HB.out.size))
        clear ho2 hb2
        go_wp2_with fail
        go_roundw
        case rel => exact ⟨k + 1, x2, c2, by omega, by go_num, rfl, (HO2.out.mono HB.out.size (Nat.le_refl _)).matCongr (fun x y _ _ => (left_round p k x y).symm), HB2.out⟩
        case measure => simp [intOf]; omega
      · obtain rfl : k = m := by omega
        go_wp2_with fail
        go_ret
        refine ⟨y, d, ?_, ?_, HB.out⟩
        · have : (leftR p (k : Int)).length = p.length := by unfold leftR; rw [H1.out, Bool.true_and, H2.out, if_pos rfl, mat_len]
          rw [this]; rfl
        · have : leftR p (k : Int) = mat p.length p.length (left p k) := by unfold leftR; rw [H1.out, Bool.true_and, H2.out, if_pos rfl]; rfl
          rw [this]; exact HO.out

set_option maxHeartbeats 400000 in
theorem specSameRows_any (a : Option Addr) (cap : Nat) (p : List (List Int)) (w : World) (B C : Nat) (h : RdII w B C a p) (hC : C ≤ w.heap.size) (hl : p.length ≤ maxLen) :
    Calls Tryz.prog 72 #[.slice a p.length cap] w (RetII 3 37 (leftR p p.length) w) := by
  have F := Lib.hid h
  have HL := Lib.hid hl
  unfold maxLen at hl
  clear h
  go_enter Tryz.func72, Tryz.ntmps72
  go_wp2_with fail
  refine (specLeftAfter_any a cap p p.length w B C F.out hC HL.out).mono ?_
  rintro e w1 ⟨x, c, rfl, ho, hb⟩
  have HO := Lib.hid ho
  clear ho
  go_wp2_with fail
  go_ret
  exact ⟨x, c, rfl, HO.out, hb⟩
end Go.Proofs.YtiiohodkfipfbaaGreatDoor
