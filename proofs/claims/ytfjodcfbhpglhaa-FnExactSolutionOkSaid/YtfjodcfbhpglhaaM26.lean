/- impl.membersOf at the codes up to 3, impl.DrawnOf at the codes 0 and 1. impl.isSaid, walked. impl.SolutionOk, walked. -/
import Derived.Test.YtfjodcfbhpglhaaM24
import Derived.Test.YtfjodcfbhpglhaaM25
import Derived.Test.YtfjodcfbhpglhaaM18
namespace Go.Hyp
open Go.RowKit Go.Deep
def memU (c : Int) (k : Nat) : List Int := (if 1 ≤ k ∧ c % 2 = 1 then [0] else []) ++ (if 2 ≤ k ∧ c / 2 = 1 then [1] else [])
theorem memU_end {c : Int} (hc : c = 0 ∨ c = 1 ∨ c = 2 ∨ c = 3) : memU c 2 = codeL c := by
  rcases hc with rfl | rfl | rfl | rfl <;> rfl
/-- The arrows of the pictures of the codes 0 and 1. -/
def drawF (n x y : Nat) : Bool := decide (n = 1 ∧ x = 0 ∧ y = 1)
theorem draw_pic {n : Nat} (hn : n = 0 ∨ n = 1) : mat (n + 1) (n + 1) (drawF n) = cPic n := by
  rcases hn with rfl | rfl <;> rfl
theorem draw_val {n k : Nat} {a : Nat} (hn : n = 0 ∨ n = 1) (ha : a = if k = 0 then n else 0) {j : Nat} (hj : j + 1 < n + 1) : (a : Int) = if drawF n k (j + 1) = true then 1 else 0 := by
  unfold drawF
  have h1 : n = 1 := by omega
  have h2 : j = 0 := by omega
  subst h1 h2 ha
  by_cases h : k = 0 <;> simp [h]
end Go.Hyp
namespace Go.Proofs.Ytfjodcfbhpglhaa
open Go.RowKit Go.Hyp Go.Deep

set_option maxHeartbeats 800000 in
theorem membersOf_any (c : Int) (hc : c = 0 ∨ c = 1 ∨ c = 2 ∨ c = 3) (w : World) : Calls Try.prog 45 #[.int .i64 c] w (RetI 3 (codeL c) w) := by
  rw [← memU_end hc]
  obtain ⟨M, hM⟩ : ∃ M : Nat → List Int, M = memU c := ⟨_, rfl⟩
  have hM2 : ∀ k, (M k).length ≤ 2 := fun k => by rw [hM]; unfold memU; split <;> split <;> simp
  rw [← hM]
  have HM := Lib.hid hM
  clear hM
  rcases hc with rfl | rfl | rfl | rfl
  all_goals
    have hb0 : (bits .and .i64 0 1 == 1) = false := by rfl
    have hb1 : (bits .and .i64 1 1 == 1) = true := by rfl
    have hb2 : (bits .and .i64 2 1 == 1) = false := by rfl
    have hb3 : (bits .and .i64 3 1 == 1) = true := by rfl
    go_enter Try.func45, Try.ntmps45
    go_wp2_with fail
  all_goals
    go_loopw [3, 4] (fun o i wr => ∃ (k : Nat) (x : Option Addr) (cp : Nat) (l : List Int), k ≤ 2 ∧ i = .int .i64 k ∧ l = M k ∧ o = .slice x l.length cp ∧ OwI wr 3 w.heap.size wr.heap.size x cp l ∧ Below w.heap.size w wr) (fun _ i _ => 2 - (intOf i).toNat)
    case atStart => exact ⟨0, _, 0, [], Nat.zero_le _, rfl, by rw [HM.out]; rfl, rfl, (OwI_empty w 3).mono (Nat.le_refl _) (by simp), below_alloc _ _⟩
    case round =>
      obtain ⟨k, x, cp, l, hk, rfl, hl, rfl, ho, hb⟩ := hrel
      have HO := Lib.hid ho
      have HB := Lib.hid hb
      have hll : l.length ≤ 2 := by rw [hl]; exact hM2 k
      rcases (show k = 0 ∨ k = 1 ∨ k = 2 by omega) with rfl | rfl | rfl
      all_goals
        have HL := Lib.hid hl
        clear ho hb hl
        go_wp2_with (at_builtin; go_loud (refine wpList_appI Try.underlying24 Try.infoInt _ rfl _ _ rfl w.heap.size wr.heap.size x cp l rfl (HO.out.agr ((Agr.refl _ _ _).alloc (Nat.le_refl _) _)) (by have := HB.out.size; simp; omega) ⟨wr.heap.size, 0, none⟩ _ rfl (new_cellE _ _ _ rfl) (by omega) ?_); intro g c1 w1 hown hgrow hat hg)
        first
          | (have HO1 := Lib.hid hown
             have HB1 := Lib.hid (below_app HB.out hgrow (HO.out.app_in (Nat.le_refl _)) (Nat.le_refl _) (Nat.le_refl _))
             clear hown hgrow hat
             go_wp2_with fail
             go_roundw
             case rel => first
               | exact ⟨1, some ⟨g, 0, none⟩, c1, _, by omega, rfl, by rw [HL.out, HM.out]; rfl, by simp, HO1.out, HB1.out⟩
               | exact ⟨2, some ⟨g, 0, none⟩, c1, _, by omega, rfl, by rw [HL.out, HM.out]; rfl, by simp, HO1.out, HB1.out⟩
             case measure => simp [intOf])
          | (go_roundw
             case rel => first
               | exact ⟨1, x, cp, _, by omega, rfl, by rw [HL.out, HM.out]; rfl, rfl, HO.out, HB.out⟩
               | exact ⟨2, x, cp, _, by omega, rfl, by rw [HL.out, HM.out]; rfl, rfl, HO.out, HB.out⟩
             case measure => simp [intOf])
          | (go_ret
             exact retI_of (by rw [HL.out, HM.out]; try rfl) HO.out HB.out)

set_option maxHeartbeats 800000 in
theorem allMembersOf_any (c : Int) (hc : c = 0 ∨ c = 1) (w : World) : Calls Try.prog 65 #[.int .i64 c] w fun e w' => e = .returned (.int .i64 0) ∧ Below w.heap.size w w' := by
  have hor : bits .or .i64 0 0 = 0 := by rfl
  go_enter Try.func65, Try.ntmps65
  go_wp2_with fail
  refine (membersOf_any c (by omega) w).mono ?_
  rintro e w1 ⟨x, d, rfl, ho, hb⟩
  have HR := Lib.hid ho.rd
  have HB1 := Lib.hid hb
  have hz1 : w.heap.size ≤ w1.heap.size := hb.size
  obtain ⟨L, hL⟩ : ∃ L, L = codeL c := ⟨_, rfl⟩
  rw [← hL] at HR ⊢
  have hll : L.length ≤ 1 ∧ ∀ k (hk : k < L.length), L[k] = 0 := by
    subst hL
    rcases hc with rfl | rfl
    · exact ⟨by decide, fun k hk => absurd hk (by simp [codeL])⟩
    · refine ⟨by decide, fun k hk => ?_⟩
      have : k = 0 := by simp [codeL] at hk; omega
      subst this
      rfl
  obtain ⟨hl1, hl0⟩ := hll
  clear ho hb hL
  go_wp2_with fail
  go_loopw [3, 9] (fun o i wr => ∃ k : Nat, k ≤ L.length ∧ i = .int .i64 k ∧ o = .int .i64 0 ∧ wr = w1) (fun _ i _ => L.length - (intOf i).toNat)
  case atStart => exact ⟨0, Nat.zero_le _, rfl, rfl, rfl⟩
  case round =>
    obtain ⟨k, hk, rfl, rfl, hwr⟩ := hrel
    rw [hwr]
    clear hwr
    by_cases hlt : k < L.length
    · obtain ⟨b, off, rfl, _, hb2, hd⟩ := HR.out.at k hlt
      rw [hl0 k hlt] at hd
      go_wp2_with fail
      go_roundw
      case rel => exact ⟨k + 1, by omega, by go_num, by first | rfl | rw [hor], trivial⟩
      case measure => simp [intOf]; omega
    · obtain rfl : k = L.length := by omega
      go_wp2_with fail
      go_ret
      exact ⟨rfl, HB1.out⟩

set_option maxHeartbeats 800000 in
theorem filledOf_any (c : Int) (hc : c = 0 ∨ c = 1) (w : World) : Calls Try.prog 58 #[.int .i64 c] w fun e w' => e = .returned (.int .i64 c) ∧ Below w.heap.size w w' := by
  have h0 : (bits .andNot .i64 0 c != 0) = false := by rcases hc with rfl | rfl <;> rfl
  go_enter Try.func58, Try.ntmps58
  go_wp2_with fail
  go_loopw [0] (fun o wr => o = .int .i64 c ∧ Below w.heap.size w wr) (fun _ _ => 0)
  case atStart => exact ⟨rfl, Below.refl _ _⟩
  case round =>
    obtain ⟨rfl, hb⟩ := hrel
    have HB := Lib.hid hb
    clear hb
    go_wp2_with fail
    refine (allMembersOf_any c hc wr).mono ?_
    rintro e w1 ⟨rfl, hb⟩
    have HB1 := Lib.hid (HB.out.trans (hb.mono HB.out.size))
    clear hb
    go_wp2_with fail
    go_ret
    exact ⟨rfl, HB1.out⟩

set_option maxRecDepth 4000 in
set_option maxHeartbeats 1600000 in
theorem drawnOf_any (n : Nat) (hn : n = 0 ∨ n = 1) (w : World) : Calls Try.prog 46 #[.int .i64 n] w (RetIIB 3 24 (cPic n) true w) := by
  have HCD := Lib.hid (isCode_any n w (by omega))
  have hcn : (n : Int) = 0 ∨ (n : Int) = 1 := by omega
  go_enter Try.func46, Try.ntmps46
  go_wp2_with fail
  refine HCD.out.mono ?_
  rintro e w' ⟨rfl, rfl⟩
  clear HCD
  have HN0 := Lib.hid (OwI_one w 3 n)
  have hsz : (w.alloc (.cells #[.int .i64 n] 3)).heap.size = w.heap.size + 1 := by simp
  have HSZ := Lib.hid hsz
  have HFO := Lib.hid (filledOf_any n hcn (w.alloc (.cells #[.int .i64 n] 3)))
  clear hsz
  go_wp2_with fail
  refine HFO.out.mono ?_
  rintro e w1 ⟨rfl, hb⟩
  have HN1 := Lib.hid (HN0.out.below hb (by simp))
  have HB1 := Lib.hid ((below_alloc w (.cells #[.int .i64 n] 3)).trans (hb.mono (by simp)))
  have hz1 : w.heap.size + 1 ≤ w1.heap.size := by have h9 := hb.size; rw [HSZ.out] at h9; exact h9
  have HMO := Lib.hid (membersOf_any n (by omega) w1)
  clear hb HFO HN0
  go_wp2_with fail
  refine HMO.out.mono ?_
  rintro e w2 ⟨x, d, rfl, ho, hb⟩
  obtain ⟨L, hL⟩ : ∃ L, L = codeL n := ⟨_, rfl⟩
  rw [← hL] at ho ⊢
  have HX := Lib.hid ho.rd
  have HN2 := Lib.hid ((HN1.out.below hb (by omega)).mono (Nat.le_refl _) (show w.heap.size + 1 ≤ w2.heap.size by have := hb.size; omega))
  have HB2 := Lib.hid (HB1.out.trans (hb.mono (by omega)))
  have hz2 : w1.heap.size ≤ w2.heap.size := hb.size
  have hLn : L.length = n ∧ ∀ k (hk : k < L.length), L[k] = 0 := by
    subst hL
    rcases hn with rfl | rfl
    · exact ⟨by decide, fun k hk => absurd hk (by simp [codeL])⟩
    · refine ⟨by decide, fun k hk => ?_⟩
      have : k = 0 := by simp [codeL] at hk; omega
      subst this
      rfl
  obtain ⟨hLn, hL0⟩ := hLn
  have HLN := Lib.hid hLn
  have HL0 := Lib.hid hL0
  have hl1 : L.length ≤ 1 := by omega
  clear ho hb hL HMO HN1 HB1 hLn hL0
  go_wp2_with fail
  go_loopw [4, 6] (fun o i wr => ∃ (k : Nat) (y : Option Addr) (dd : Nat) (N : List Int) (z : Int), k ≤ L.length ∧ z = (L.length : Int) - 1 - k ∧ i = .int .i64 z ∧ N = (n : Int) :: L.take k ∧ o = .slice y N.length dd ∧ OwI wr 3 w.heap.size wr.heap.size y dd N ∧ Chg (fun b => b = w.heap.size) w2 wr ∧ ∀ b, blockOf y = some b → b = w.heap.size ∨ w2.heap.size ≤ b) (fun _ i _ => ((intOf i) + 1).toNat)
  case atStart => exact ⟨0, _, 1, [(n : Int)], _, Nat.zero_le _, rfl, by simp, rfl, rfl, HN2.out, Chg.refl _ _, fun b hb => .inl (by injection hb with hb; exact hb.symm)⟩
  case round =>
    obtain ⟨k, y, dd, N, z, hk, hz, rfl, hN, rfl, ho, hc, hy⟩ := hrel
    have HN := Lib.hid hN
    have HO := Lib.hid ho
    have HC := Lib.hid hc
    have HY := Lib.hid hy
    have hzr : w2.heap.size ≤ wr.heap.size := hc.size
    have HBR := Lib.hid (HB2.out.trans (hc.below (D := w.heap.size) (fun b hb => by omega) (by omega)))
    have hNl : N.length = k + 1 := by rw [hN]; simp; omega
    have HXR : Hid (RdI wr w1.heap.size w2.heap.size x L) := Lib.hid (HX.out.agr (hc.agr (Nat.le_refl _) (fun b h1 h2 h3 => by omega)))
    clear hN ho hc hy
    by_cases hlt : k < L.length
    · obtain rfl : k = 0 := by omega
      obtain rfl : z = 0 := by omega
      clear hz
      obtain ⟨b, off, rfl, _, hb2, hd⟩ := HXR.out.at 0 hlt
      rw [HL0.out 0 hlt, Nat.add_zero] at hd
      have hli : (0 : Int) < (L.length : Int) := by omega
      have HNL := Lib.hid hNl
      clear hNl
      go_wp2_with (at_builtin; go_loud (refine wpList_appI Try.underlying24 Try.infoInt _ rfl _ _ rfl w.heap.size wr.heap.size y dd N rfl (HO.out.agr ((Agr.refl _ _ _).alloc (Nat.le_refl _) _)) (by have := HBR.out.size; simp; omega) ⟨wr.heap.size, 0, none⟩ 0 rfl (new_cellE _ _ _ rfl) (by rw [HNL.out]; omega) ?_); intro g c1 w3 hown hgrow hat hg)
      have HO3 := Lib.hid hown
      have HC3 := Lib.hid ((HC.out.alloc _).grown hgrow (fun b hb => HY.out b hb))
      have HY3 : Hid (∀ b, blockOf (some (⟨g, 0, none⟩ : Addr)) = some b → b = w.heap.size ∨ w2.heap.size ≤ b) := Lib.hid (fun b hb => by
        injection hb with hb
        subst hb
        rcases hat with h | h
        · exact HY.out _ h
        · exact .inr (by rw [h]; simp; omega))
      clear hown hgrow hat
      go_wp2_with fail
      go_roundw
      case rel =>
        refine ⟨1, some ⟨g, 0, none⟩, c1, N ++ [0], -1, by omega, by omega, rfl, ?_, by simp, HO3.out, HC3.out, HY3.out⟩
        rw [HN.out, List.take_zero]
        have h0 := HL0.out 0 hlt
        match L, hl1, hlt, h0 with
        | [v], _, _, h0 => simp at h0; rw [h0]; rfl
      case measure => simp [intOf]
    · obtain rfl : k = L.length := by omega
      have hz1' : z = -1 := by omega
      subst hz1'
      have HNE : Hid (N = (n : Int) :: L) := Lib.hid (by rw [HN.out, List.take_of_length_le (Nat.le_refl _)])
      obtain ⟨M, hM⟩ : ∃ M, M = N.length := ⟨_, rfl⟩
      have HMN := Lib.hid hM
      have hM2 : M ≤ 2 := by omega
      have hM1 : 1 ≤ M := by omega
      have hMn : M = n + 1 := by have := HLN.out; omega
      have HMM := Lib.hid hMn
      rw [← hM]
      have HNR := Lib.hid HO.out.rd
      have hcapN := HO.out.lecap
      rw [← hM] at hcapN
      clear hz hM hNl hMn HC HY
      have HEP := Lib.hid (emptyPicture_any M wr (by omega))
      go_wp2_with fail
      refine HEP.out.mono ?_
      rintro e w3 ⟨p, pc, rfl, ho, hb⟩
      have HP := Lib.hid ho
      have HB3 := Lib.hid hb
      have hz3 : wr.heap.size ≤ w3.heap.size := hb.size
      rw [mat_len]
      clear ho hb HEP
      obtain ⟨wo, hwo⟩ : ∃ v : World, v = wr := ⟨_, rfl⟩
      subst hwo
      have hcn2 : (cPic (n : Int)).length = M := by rw [HMM.out, ← draw_pic hn, mat_len]
      have HCN := Lib.hid hcn2
      clear hcn2
      go_wp2_with fail
      go_loopw [42] (fun i ws => ∃ k : Nat, k ≤ M ∧ i = .int .i64 k ∧ OwII ws 3 24 wo.heap.size w3.heap.size p pc (mat M M (upB k 0 (drawF n))) ∧ Below wo.heap.size wo ws ∧ w3.heap.size ≤ ws.heap.size) (fun i _ => M - (intOf i).toNat)
      case atStart => exact ⟨0, Nat.zero_le _, rfl, HP.out.matCongr (fun x y _ _ => (upB_start x y).symm), HB3.out, Nat.le_refl _⟩
      case round =>
        obtain ⟨k, hk2, rfl, ho, hb, hzs⟩ := hrel
        have HM := Lib.hid ho
        have HB := Lib.hid hb
        have hzo : wo.heap.size ≤ wr.heap.size := hb.size
        clear ho hb
        by_cases hlt2 : k < M
        · have hkN : k < N.length := by rw [← HMN.out]; exact hlt2
          obtain ⟨a, hNk, haf⟩ : ∃ a : Nat, N[k] = (a : Int) ∧ a = if k = 0 then n else 0 := by
            have h9 := HNE.out
            subst h9
            cases k with
            | zero => exact ⟨n, rfl, rfl⟩
            | succ k => exact ⟨0, by simpa using HL0.out k (by simpa using hkN), rfl⟩
          obtain ⟨b, off, rfl, _, hb2, hd⟩ := (HNR.out.below HB.out (Nat.le_refl _)).at k hkN
          rw [hNk] at hd
          have hki : (k : Int) < (M : Int) := by omega
          have HAF := Lib.hid haf
          have hM1i : (1 : Int) ≤ (M : Int) := by omega
          have hdi : (M : Int) ≤ (dd : Int) := by omega
          clear hNk haf
          obtain ⟨wp, hwp⟩ : ∃ v : World, v = wr := ⟨_, rfl⟩
          subst hwp
          have HPUT : Hid (∀ j, j < M → ∃ g r ci, p = some ⟨g, 0, none⟩ ∧ g < wp.heap.size ∧ wp.cell? ⟨g, k, none⟩ = some (.slice (some ⟨r, 0, none⟩) M ci) ∧ r < wp.heap.size) := Lib.hid fun j hj => by
            obtain ⟨g, r, ci, h1, _, _, h2, h3, _, _, h4, _⟩ := HM.out.bitAt k j hlt2 hj
            exact ⟨g, r, ci, h1, h2, h3, h4⟩
          have HST := Lib.hid (HM.out.matCongr (fun x y _ _ => upB_stay x y (show drawF n k 0 = false by unfold drawF; simp)))
          rcases hn with hn0 | hn1
          · have hMle : M ≤ 1 := by have := HMM.out; omega
            clear hn0
            go_wp2_with fail
            all_goals
              go_loopw [50] (fun j ws => j = .int .i64 0 ∧ ws = wp) (fun _ _ => 0)
              case atStart => exact ⟨rfl, rfl⟩
              case round =>
                try (have hdd : dd = 1 := by assumption
                     subst hdd)
                obtain ⟨rfl, hws⟩ := hrel
                rw [hws]
                clear hws
                go_wp2_with fail
                go_roundw
                case rel => exact ⟨k + 1, by omega, by go_num, HST.out.matCongr (fun x y _ hy => upB_row x y (by omega)), HB.out, hzs⟩
                case measure => simp [intOf]; omega
          · have hMge : 2 ≤ M := by have := HMM.out; omega
            have HN1' := Lib.hid hn1
            clear hn1
            have hd1 : ¬ dd = 1 := by omega
            have hdi2 : (2 : Int) ≤ (dd : Int) := by omega
            go_wp2_with fail
            go_loopw [50] (fun j ws => ∃ jj : Nat, jj ≤ 1 ∧ j = .int .i64 jj ∧ OwII ws 3 24 wo.heap.size w3.heap.size p pc (mat M M (upB k (jj + 1) (drawF n))) ∧ Below wo.heap.size wo ws ∧ w3.heap.size ≤ ws.heap.size) (fun j _ => 1 - (intOf j).toNat)
            case atStart => exact ⟨0, by omega, rfl, HST.out, HB.out, hzs⟩
            case round =>
              obtain ⟨jj, hjj, rfl, ho, hb, hzs'⟩ := hrel
              have HM2 := Lib.hid ho
              have HB2' := Lib.hid hb
              have hzo' : wo.heap.size ≤ wr.heap.size := hb.size
              clear ho hb
              by_cases hlt3 : jj < 1
              · obtain rfl : jj = 0 := by omega
                obtain ⟨b', off', e', _, hb2', hd2⟩ := (HNR.out.below HB2'.out (Nat.le_refl _)).at 1 (by rw [← HMN.out]; omega)
                cases e'
                have hN1 : N[1]'(by rw [← HMN.out]; omega) = 0 := by
                  have h9 := HNE.out
                  subst h9
                  simpa using HL0.out 0 (by have := HLN.out; have := HN1'.out; omega)
                rw [hN1] at hd2
                obtain ⟨g, r, ci, eg, hg1, _, hgl, hhead, hr1, _, hrl, hq1, hq2, hgr, hput⟩ := HM2.out.bitAt k 1 hlt2 (by omega)
                subst eg
                have HP2 : Hid (∀ v : Int, v = (a : Int) → OwII (wr.setCell ⟨r, 1, none⟩ (.int .i64 v)) 3 24 wo.heap.size w3.heap.size (some ⟨g, 0, none⟩) pc (mat M M (upB k (1 + 1) (drawF n)))) := Lib.hid fun v hv => by
                  rw [hv, draw_val (.inr HN1'.out) HAF.out (show 0 + 1 < n + 1 by have := HN1'.out; omega)]
                  exact hput (drawF n k 1) _ (fun x y _ _ => upB_step x y)
                have h2i : (0 : Int) + 1 < (M : Int) := by omega
                have hal : a = 0 ∨ a = 1 := by have := HAF.out; have := HN1'.out; by_cases h : k = 0 <;> simp_all
                generalize hxx : (if upB k (0 + 1) (drawF n) k 1 = true then (1 : Int) else 0) = X0 at hq1
                clear hput hxx hN1
                go_wp2_with fail
                go_region
                go_wp2_with fail
                go_roundw
                case rel => exact ⟨1, by omega, rfl, HP2.out _ (by rcases hal with rfl | rfl <;> rfl), (HB2'.out.setCell hr1 _).drew, by simpa using hzs'⟩
                case measure => simp [intOf]
              · obtain rfl : jj = 1 := by omega
                go_wp2_with fail
                go_roundw
                case rel => exact ⟨k + 1, by omega, by go_num, HM2.out.matCongr (fun x y _ hy => upB_row x y (by omega)), HB2'.out, hzs'⟩
                case measure => simp [intOf]; omega
        · obtain rfl : k = M := by omega
          go_wp2_with fail
          go_ret2
          have h9 := HM.out.matCongr (g := drawF n) (fun x y hx _ => upB_end x y hx)
          rw [HMM.out, draw_pic hn] at h9
          exact ⟨p, pc, by rw [HCN.out]; try rfl, h9.mono (by omega) hzs, HBR.out.trans (HB.out.mono (by omega))⟩
end Go.Proofs.Ytfjodcfbhpglhaa
namespace Go.Hyp
open Go.RowKit Go.Deep
/-- The cells of a slice of truths. -/
def RdBo (w : World) (a : Option Addr) (N : Nat) (G : Nat → Bool) : Prop := ∀ m, m < N → ∃ b off, a = some ⟨b, off, none⟩ ∧ w.cell? ⟨b, off + m, none⟩ = some (.bool (G m))
theorem range_any_succ (G : Nat → Bool) (k : Nat) : (List.range (k + 1)).any G = ((List.range k).any G || G k) := by
  rw [List.range_succ, List.any_append]; simp
theorem range_all_succ (G : Nat → Bool) (k : Nat) : (List.range (k + 1)).all G = ((List.range k).all G && G k) := by
  rw [List.range_succ, List.all_append]; simp
theorem getD_inL {α : Type} {l : List α} {m : Nat} {d : α} (h : m < l.length) : l.getD m d = l[m] := by simp [List.getD, h]
theorem OwV.rdBo {w : World} {E B C : Nat} {a : Option Addr} {cap n : Nat} {G : Nat → Bool} (h : OwV w E B C a cap n (fun m => .bool (G m))) : RdBo w a n G := by
  intro m hm
  rcases h with ⟨_, h0, _⟩ | ⟨g, F, e, h1, h2, hr, hn, hc, hF⟩
  · omega
  · exact ⟨g, 0, e, by rw [Nat.zero_add, hr.cell (by omega), hF m hm]⟩
theorem OwV.setB {w : World} {E B C g cap n : Nat} {G : Nat → Bool} (h : OwV w E B C (some ⟨g, 0, none⟩) cap n (fun m => .bool (G m))) (i : Nat) (hi : i < n) :
    (∃ v, w.cell? ⟨g, i, none⟩ = some v) ∧ w.frozen? ⟨g, i, none⟩ = false ∧ g < w.heap.size ∧ ∀ v, OwV (w.setCell ⟨g, i, none⟩ (.bool v)) E B C (some ⟨g, 0, none⟩) cap n (fun m => .bool (if m = i then v else G m)) := by
  rcases h with ⟨e, _⟩ | ⟨g', F, e, h1, h2, hr, hn, hc, hF⟩
  · cases e
  · cases e
    refine ⟨⟨_, hr.cell (by omega)⟩, hr.frozen i, hr.lt, fun v => .inr ⟨g, _, rfl, h1, h2, hr.set i _, hn, hc, fun m hm => ?_⟩⟩
    by_cases e : m = i
    · subst e; simp
    · rw [if_neg e, hF m hm]; simp [e]
theorem OwV_falses (w : World) (E n : Nat) (hn : n ≤ maxLen) : OwV (w.alloc (.cells (madeCells #[.bool false] n) E)) E w.heap.size (w.heap.size + 1) (some ⟨w.heap.size, 0, none⟩) n n (fun _ => .bool false) :=
  .inr ⟨_, _, rfl, Nat.le_refl _, Nat.lt_succ_self _, World.rowIs_made w _ _ _, Nat.le_refl _, hn, fun i hi => rfl⟩
theorem range_any_getD {α : Type} (l : List α) (f : α → Bool) (d : α) : (List.range l.length).any (fun m => f (l.getD m d)) = l.any f := by
  rw [Bool.eq_iff_iff, List.any_eq_true, List.any_eq_true]
  constructor
  · rintro ⟨m, hm, h⟩
    rw [List.mem_range] at hm
    rw [getD_inL hm] at h
    exact ⟨_, List.getElem_mem hm, h⟩
  · rintro ⟨x, hx, h⟩
    obtain ⟨m, hm, rfl⟩ := List.getElem_of_mem hx
    exact ⟨m, List.mem_range.2 hm, by rw [getD_inL hm]; exact h⟩
theorem metD_no {p : List (List Int)} {i : Nat} {D : List (List (List Int) × Nat)} {v : Int} (hv : v ∈ arrL p i p.length) (h : D.any (metB p v.toNat) = false) : metD p i D = false := by
  unfold metD
  have : (arrL p i p.length).all (fun v => D.any fun d => metB p v.toNat d) = false := by
    rw [List.all_eq_false]
    exact ⟨v, hv, by rw [show (D.any fun d => metB p v.toNat d) = D.any (metB p v.toNat) from rfl, h]; decide⟩
  rw [this, Bool.false_and]
theorem metD_fin {p : List (List Int)} {i : Nat} {D : List (List (List Int) × Nat)} {G : Nat → Bool} (h1 : ∀ v ∈ arrL p i p.length, D.any (metB p v.toNat) = true) (h2 : ∀ m, m < D.length → G m = (arrL p i p.length).any fun v => metB p v.toNat (D.getD m ([], 0))) :
    (!((List.range D.length).any fun m => !G m)) = metD p i D := by
  unfold metD
  have e1 : (arrL p i p.length).all (fun v => D.any fun d => metB p v.toNat d) = true := by
    rw [List.all_eq_true]; exact h1
  rw [e1, Bool.true_and, Bool.eq_iff_iff, Bool.not_eq_true', List.any_eq_false, List.all_eq_true]
  constructor
  · intro h d hd
    obtain ⟨m, hm, rfl⟩ := List.getElem_of_mem hd
    have h3 := h m (List.mem_range.2 hm)
    rw [h2 m hm, getD_inL hm] at h3
    simpa using h3
  · intro h m hm
    rw [List.mem_range] at hm
    have h3 := h _ (List.getElem_mem hm)
    rw [h2 m hm, getD_inL hm, h3]
    decide
end Go.Hyp
namespace Go.Proofs.Ytfjodcfbhpglhaa
open Go.RowKit Go.Hyp Go.Deep

set_option maxHeartbeats 400000 in
theorem indexB_any (a : Option Addr) (cap N : Nat) (G : Nat → Bool) (w : World) (h : RdBo w a N G) (hN : N ≤ 1048576) :
    Calls Try.prog 61 #[.slice a N cap, .bool false] w fun e w' => ∃ r : Int, e = .returned (.int .i64 r) ∧ decide (0 ≤ r) = (List.range N).any (fun m => !G m) ∧ w = w' := by
  have HO := Lib.hid h
  clear h
  go_enter Try.func61, Try.ntmps61
  go_wp2_with fail
  go_loop [4, 8] (fun r i => ∃ j : Nat, j ≤ N ∧ i = .int .i64 j ∧ r = .int .i64 0 ∧ (List.range j).any (fun m => !G m) = false) (fun _ i => N - (intOf i).toNat)
  case atStart => exact ⟨0, Nat.zero_le _, rfl, rfl, by simp⟩
  case round =>
    obtain ⟨j, hj, rfl, rfl, hn⟩ := hrel
    have HN := Lib.hid hn
    clear hn
    by_cases hlt : j < N
    · obtain ⟨b, off, rfl, hd⟩ := HO.out j hlt
      have hji : (j : Int) < (N : Int) := by omega
      cases hq : G j
      · have HQ := Lib.hid hq
        rw [hq] at hd
        clear hq
        go_wp2_with fail
        go_ret
        exact ⟨j, rfl, by rw [decide_eq_true (by omega), eq_comm, List.any_eq_true]; exact ⟨j, List.mem_range.2 hlt, by rw [HQ.out]; rfl⟩, rfl⟩
      · have HQ := Lib.hid hq
        rw [hq] at hd
        clear hq
        go_wp2_with fail
        go_round
        case rel => exact ⟨j + 1, by omega, by go_num, rfl, by rw [range_any_succ, HN.out, HQ.out]; rfl⟩
        case measure => simp [intOf]; omega
    · obtain rfl : j = N := by omega
      go_wp2_with fail
      go_ret
      exact ⟨-1, rfl, by rw [HN.out]; rfl, rfl⟩

set_option maxHeartbeats 400000 in
theorem containsB_any (a : Option Addr) (cap N : Nat) (G : Nat → Bool) (w : World) (h : RdBo w a N G) (hN : N ≤ 1048576) :
    Calls Try.prog 49 #[.slice a N cap, .bool false] w fun e w' => e = .returned (.bool ((List.range N).any fun m => !G m)) ∧ w = w' := by
  have HO := Lib.hid h
  clear h
  go_enter Try.func49, Try.ntmps49
  go_wp2_with fail
  refine (indexB_any a cap N G w HO.out hN).mono ?_
  rintro e w1 ⟨r, rfl, hr, rfl⟩
  have HR := Lib.hid hr
  clear hr
  go_wp2_with fail
  go_ret
  exact ⟨ret_bool HR.out, rfl⟩

theorem Try.infoRows : (Try.prog.info? 38).map (fun i => (i.zero, i.size, i.bytes)) = some (some (.slice none 0 0), 1, 24) := by kernel_rfl
theorem Try.infoBool : (Try.prog.info? 4).map (fun i => (i.zero, i.size, i.bytes)) = some (some (.bool false), 1, 1) := by kernel_rfl
set_option maxRecDepth 4000 in
set_option maxHeartbeats 4000000 in
theorem isSaid_any (xa : Option Addr) (xc : Nat) (names : List Int) (code : Int) (a1 : Option Addr) (c1 : Nat) (PL : List (List (List Int))) (a2 : Option Addr) (c2 : Nat) (NL : List Int) (a3 : Option Addr) (c3 : Nat) (p : List (List Int)) (i : Nat) (w : World) (B C B1 C1 B2 C2 B3 C3 : Nat)
    (h : RdI w B C xa names) (hC : C ≤ w.heap.size) (h1 : RdIII w B1 C1 a1 PL) (hC1 : C1 ≤ w.heap.size) (h2 : RdI w B2 C2 a2 NL) (hC2 : C2 ≤ w.heap.size) (h3 : RdII w B3 C3 a3 p) (hC3 : C3 ≤ w.heap.size)
    (hn3 : names.length ≤ 3) (hbit : bitsB names = true) (hc0 : 0 ≤ code) (hc3 : code ≤ 3) (hl1 : PL.length = names.length) (hl2 : NL.length = names.length) (hnode : ∀ m, m < names.length → nodeB (PL.getD m []) (NL.getD m 0) = true) (hp : picB p = true) (hi : i < p.length) :
    Calls Try.prog 32 #[.agg #[.slice xa names.length xc, .int .i64 code], .slice a1 PL.length c1, .slice a2 NL.length c2, .slice a3 p.length c3, .int .i64 i] w fun e w' => e = .returned (.bool (metD p i (dueOf (names, code) PL NL))) ∧ Below w.heap.size w w' := by
  have F := Lib.hid h
  have F1 := Lib.hid h1
  have F2 := Lib.hid h2
  have F3 := Lib.hid h3
  have HBIT := Lib.hid hbit
  have HL1 := Lib.hid hl1
  have HL2 := Lib.hid hl2
  have HND := Lib.hid hnode
  have HP := Lib.hid hp
  clear h h1 h2 h3 hbit hnode hp
  obtain ⟨W0, hW0⟩ : ∃ W0, W0 = w.alloc (.cells #[.slice xa names.length xc, .int .i64 code] 50) := ⟨_, rfl⟩
  have hsz0 : W0.heap.size = w.heap.size + 1 := by rw [hW0]; simp
  have HB0 : Hid (Below w.heap.size w W0) := Lib.hid (by rw [hW0]; exact below_alloc _ _)
  have HBOX : Hid (W0.heap[w.heap.size]? = some (.cells #[.slice xa names.length xc, .int .i64 code] 50)) := Lib.hid (by rw [hW0]; exact alloc1 _ _)
  have HST : Hid (DueSt (((w.alloc (.cells #[.slice xa names.length xc, .int .i64 code] 50)).alloc (.cells #[] 38)).alloc (.cells #[] 3)) 38 3 (fun b => b < w.heap.size + 1) (some ⟨w.heap.size + 1, 0, none⟩) 0 (some ⟨w.heap.size + 1 + 1, 0, none⟩) 0 [] []) := Lib.hid (by
    have h9 := DueSt.start W0 38 3 (K := fun b => b < w.heap.size + 1) (fun b hb => by rw [hsz0]; exact hb)
    rw [hsz0, hW0] at h9
    exact h9)
  have HBS : Hid (Below (w.heap.size + 1) W0 (((w.alloc (.cells #[.slice xa names.length xc, .int .i64 code] 50)).alloc (.cells #[] 38)).alloc (.cells #[] 3))) := Lib.hid (by
    have h9 := (below_alloc W0 (.cells #[] 38)).alloc (by simp) (.cells #[] 3)
    rw [hsz0, hW0] at h9
    rw [hW0]
    exact h9)
  have HS0 := Lib.hid hsz0
  have HCC : Hid (code = 0 ∨ code = 1 ∨ code = 2 ∨ code = 3) := Lib.hid (by omega)
  have hl1' : names.length ≤ PL.length := by omega
  have hl2' : names.length ≤ NL.length := by omega
  clear hW0 hsz0 hl1 hl2
  go_enter Try.func32, Try.ntmps32
  go_wp2_with fail
  go_loopw [11, 12, 30] (fun dv av kv wr => ∃ (k : Nat) (x : Option Addr) (c : Nat) (y : Option Addr) (d : Nat) (D : List (List (List Int) × Nat)) (Q : List (List (List Int))) (A : List Int), k ≤ names.length ∧ kv = .int .i64 k ∧ D = dueD names PL NL k ∧ Q = D.map (·.1) ∧ A = D.map (fun d => (d.2 : Int)) ∧ dv = .slice x Q.length c ∧ av = .slice y A.length d ∧ DueSt wr 38 3 (fun b => b < w.heap.size + 1) x c y d Q A ∧ Below (w.heap.size + 1) W0 wr) (fun _ _ kv _ => names.length - (intOf kv).toNat)
  case atStart => exact ⟨0, _, 0, _, 0, [], [], [], Nat.zero_le _, rfl, rfl, rfl, rfl, rfl, rfl, HST.out, HBS.out⟩
  case round =>
    obtain ⟨k, x, c, y, d, D, Q, A, hk, rfl, hD, hQ, hA, rfl, rfl, hst, hb⟩ := hrel
    have hQl : Q.length ≤ 3 ∧ A.length = Q.length := by
      have := dueD_le names PL NL k
      rw [hQ, hA, hD, List.length_map, List.length_map]
      exact ⟨by omega, rfl⟩
    obtain ⟨hQl, hAQ⟩ := hQl
    have hAl : A.length ≤ 3 := by omega
    have HAQ := Lib.hid hAQ
    have HD := Lib.hid hD
    have HQ := Lib.hid hQ
    have HA := Lib.hid hA
    have HDS := Lib.hid hst
    have HB := Lib.hid hb
    have hzr : w.heap.size + 1 ≤ wr.heap.size := by have h9 := hb.size; rw [HS0.out] at h9; exact h9
    have HBW := Lib.hid (HB0.out.trans (hb.mono (by omega)))
    clear hD hQ hA hst hb hAQ
    obtain ⟨wo, hwo⟩ : ∃ v : World, v = wr := ⟨_, rfl⟩
    subst hwo
    by_cases hlt : k < names.length
    · obtain ⟨b, off, rfl, _, hb2, hd⟩ := (F.out.below HBW.out hC).at k hlt
      have hki : (k : Int) < (names.length : Int) := by omega
      have hbitk : names[k] = 0 ∨ names[k] = 1 := by
        have h9 := HBIT.out
        unfold bitsB at h9
        rw [List.all_eq_true] at h9
        have h8 := h9 _ (List.getElem_mem hlt)
        unfold bitB at h8
        simpa using h8
      have hnm : (names.getD k 0 == 1) = (names[k] == 1) := by rw [getD_lt hlt]
      rcases hbitk with hv | hv
      · rw [hv] at hd hnm
        have HDN : Hid (dueD names PL NL (k + 1) = dueD names PL NL k) := Lib.hid (by rw [dueD_succ, hnm]; simp)
        clear hv hnm
        go_wp2_with fail
        go_roundw
        case rel => exact ⟨k + 1, x, c, y, d, D, Q, A, by omega, by go_num, by rw [HDN.out]; exact HD.out, HQ.out, HA.out, rfl, rfl, HDS.out, HB.out⟩
        case measure => simp [intOf]; omega
      · rw [hv] at hd hnm
        have HDN : Hid (dueD names PL NL (k + 1) = dueD names PL NL k ++ [(PL.getD k [], (NL.getD k 0).toNat)]) := Lib.hid (by rw [dueD_succ, hnm]; simp)
        obtain ⟨b1, off1, aq, cq, e1, _, hb1, hcq, hrq, hlq⟩ := (F1.out.below HBW.out hC1) k (by omega)
        subst e1
        obtain ⟨b2, off2, e2, _, hb22, hdn⟩ := (F2.out.below HBW.out hC2).at k (by omega)
        subst e2
        obtain ⟨v, hvn⟩ : ∃ v, v = NL[k]'(by omega) := ⟨_, rfl⟩
        rw [← hvn] at hdn
        have HVN : Hid (((NL.getD k 0).toNat : Int) = v) := Lib.hid (by
          obtain ⟨jj, e3, _, _⟩ := nodeB_nat (HND.out k hlt)
          rw [hvn, ← getD_lt (show k < NL.length by omega), e3, Int.toNat_natCast])
        obtain ⟨q, hq⟩ : ∃ q, q = PL.getD k [] := ⟨_, rfl⟩
        rw [← hq] at hcq hrq hlq HDN
        have HRQ := Lib.hid hrq
        have hkP : (k : Int) < (PL.length : Int) := by omega
        have hkN : (k : Int) < (NL.length : Int) := by omega
        have hbwo1 : b1 < wo.heap.size := by omega
        have hbwo2 : b2 < wo.heap.size := by omega
        have hKX : Hid (∀ b, blockOf x = some b → w.heap.size + 1 ≤ b) := Lib.hid fun b hb => by have := HDS.out.kx b hb; omega
        have hKY : Hid (∀ b, blockOf y = some b → w.heap.size + 1 ≤ b) := Lib.hid fun b hb => by have := HDS.out.ky b hb; omega
        clear hv hnm hvn hq hrq
        go_wp2_with (at_builtin; go_loud (first
          | (refine wpList_appQ Try.underlying23 Try.infoRows rfl (by omega) wo rfl _ _ rfl _ x c y d Q A rfl HDS.out aq cq q rfl B1 C1 HRQ.out (by omega) (fun b h1 h2 => ⟨fun h => by have := hKX.out b h; omega, fun h => by have := hKY.out b h; omega⟩) (by omega) ?_
             intro x1 cx w5 hst5 hch5
             have HDS5 := Lib.hid hst5
             have HC5 := Lib.hid hch5
             have hdn5 : w5.cell? ⟨b2, off2 + k, none⟩ = some (.int .i64 v) := by rw [World.cell?_of_block (w := wo) (hch5.block b2 hbwo2 (fun h => by have := hKX.out b2 h; omega))]; exact hdn
             have hz5 : wo.heap.size ≤ w5.heap.size := hch5.size
             clear hst5 hch5)
          | (refine wpList_appA Try.underlying24 Try.infoInt w5 rfl _ _ rfl _ x1 cx y d (Q ++ [q]) A rfl HDS5.out v rfl (by omega) ?_
             intro y1 dy w6 hst6 hch6
             have HDS6 := Lib.hid hst6
             have HC6 := Lib.hid hch6
             clear hst6 hch6)))
        go_roundw
        case rel =>
          refine ⟨k + 1, x1, cx, y1, dy, D ++ [(q, (NL.getD k 0).toNat)], Q ++ [q], A ++ [v], by omega, by go_num, by rw [HDN.out, HD.out], by rw [HQ.out, List.map_append]; rfl, by rw [HA.out, List.map_append, ← HVN.out]; rfl, by simp, by simp, HDS6.out, ?_⟩
          exact (HB.out.trans (HC5.out.below (D := w.heap.size + 1) (fun b hb => hKX.out b hb) (by omega))).trans (HC6.out.below (D := w.heap.size + 1) (fun b hb => hKY.out b hb) (by omega))
        case measure => simp [intOf]; omega
    · obtain rfl : k = names.length := by omega
      obtain ⟨q0, q1, _, _⟩ := blk2 (HB.out.blk HBOX.out (by omega))
      have HMO := Lib.hid (membersOf_any code HCC.out wo)
      have hQA : Hid (Q = (dueD names PL NL names.length).map (·.1) ∧ A = (dueD names PL NL names.length).map fun d => (d.2 : Int)) := Lib.hid ⟨by rw [HQ.out, HD.out], by rw [HA.out, HD.out]⟩
      clear HST HBS
      go_wp2_with fail
      refine HMO.out.mono ?_
      rintro e w5 ⟨al, cl, rfl, ho, hb⟩
      obtain ⟨L, hL⟩ : ∃ L, L = codeL code := ⟨_, rfl⟩
      rw [← hL] at ho ⊢
      have hL2 : L.length ≤ 2 := by rw [hL]; exact codeL_le code
      have HLA : Hid (∀ k (hk : k < L.length), L[k] = 0 ∨ L[k] = 1) := Lib.hid (by
        subst hL
        exact fun k hk => codeL_at hk)
      have HL := Lib.hid hL
      have HRL := Lib.hid ho.rd
      have hz5 : wo.heap.size ≤ w5.heap.size := hb.size
      have HBW5 := Lib.hid (HBW.out.trans (hb.mono (by omega)))
      have HB5 := Lib.hid (HB.out.trans (hb.mono (by omega)))
      obtain ⟨K, hK⟩ : ∃ K : Nat → Prop, K = fun b => b < w.heap.size + 1 ∨ (wo.heap.size ≤ b ∧ b < w5.heap.size) := ⟨_, rfl⟩
      have HK : Hid (∀ b, K b ↔ b < w.heap.size + 1 ∨ (wo.heap.size ≤ b ∧ b < w5.heap.size)) := Lib.hid fun b => by rw [hK]
      have HDS5 : Hid (DueSt w5 38 3 K x c y d Q A) := Lib.hid ((HDS.out.below hb).rek (fun b hb' hk => by
          have h8 := HDS.out.x_lt hb'
          have h9 := HDS.out.kx b hb'
          rcases (HK.out b).1 hk with h | h <;> omega) (fun b hb' hk => by
          have h8 := HDS.out.y_lt hb'
          have h9 := HDS.out.ky b hb'
          rcases (HK.out b).1 hk with h | h <;> omega) (fun b hk => by
          rcases (HK.out b).1 hk with h | h <;> omega))
      clear ho hb hL hK HMO HDS HQ HA HD
      obtain ⟨N0, hN0⟩ : ∃ N0, N0 = Q.length := ⟨_, rfl⟩
      have HN0 := Lib.hid hN0
      have HAL : Hid (A.length = N0) := Lib.hid (by rw [HAQ.out, hN0])
      clear hN0
      go_wp2_with fail
      go_loopw [11, 12, 56] (fun dv av kv wr => ∃ (k : Nat) (x : Option Addr) (c : Nat) (y : Option Addr) (d : Nat) (Q1 : List (List (List Int))) (A1 : List Int), k ≤ L.length ∧ kv = .int .i64 k ∧ Q1 = Q ++ (L.take k).map cPic ∧ A1 = A ++ (L.take k).map (fun _ => 0) ∧ dv = .slice x Q1.length c ∧ av = .slice y A1.length d ∧ DueSt wr 38 3 K x c y d Q1 A1 ∧ Chg (fun b => ¬ K b) w5 wr) (fun _ _ kv _ => L.length - (intOf kv).toNat)
      case atStart => exact ⟨0, x, c, y, d, Q, A, Nat.zero_le _, rfl, by simp, by simp, rfl, rfl, HDS5.out, Chg.refl _ _⟩
      case round =>
        obtain ⟨k, x, c, y, d, Q1, A1, hk, rfl, hQ1, hA1, rfl, rfl, hst, hch⟩ := hrel
        have hQ1l : Q1.length ≤ 5 := by rw [hQ1, List.length_append, List.length_map, List.length_take]; omega
        have hA1l : A1.length = Q1.length := by rw [hQ1, hA1, List.length_append, List.length_append, List.length_map, List.length_map, HAQ.out]
        have hA1l5 : A1.length ≤ 5 := by omega
        have HQ1 := Lib.hid hQ1
        have HA1 := Lib.hid hA1
        have HA1L := Lib.hid hA1l
        have HDS := Lib.hid hst
        have HCH := Lib.hid hch
        have hzr : w5.heap.size ≤ wr.heap.size := hch.size
        have HBR : Hid (Below (w.heap.size + 1) W0 wr) := Lib.hid (HB5.out.trans (hch.below (D := w.heap.size + 1) (fun b hb => by
          rcases Nat.lt_or_ge b (w.heap.size + 1) with h | h
          · exact absurd ((HK.out b).2 (.inl h)) hb
          · exact h) (by omega)))
        have HBWR := Lib.hid (HB0.out.trans (HBR.out.mono (by omega)))
        have HLR : Hid (RdI wr wo.heap.size w5.heap.size al L) := Lib.hid (HRL.out.agr (hch.agr (Nat.le_refl _) (fun b h1 h2 h3 => h3 ((HK.out b).2 (.inr ⟨h1, h2⟩)))))
        clear hQ1 hA1 hA1l hst hch
        obtain ⟨wp, hwp⟩ : ∃ v : World, v = wr := ⟨_, rfl⟩
        subst hwp
        by_cases hlt2 : k < L.length
        · obtain ⟨b, off, rfl, _, hb2, hd⟩ := HLR.out.at k hlt2
          obtain ⟨m, hm, hm01⟩ : ∃ m : Nat, L[k] = (m : Int) ∧ (m = 0 ∨ m = 1) := by
            rcases HLA.out k hlt2 with h | h
            · exact ⟨0, h, .inl rfl⟩
            · exact ⟨1, h, .inr rfl⟩
          rw [hm] at hd
          have HTK : Hid (L.take (k + 1) = L.take k ++ [(m : Int)]) := Lib.hid (by rw [List.take_succ_eq_append_getElem hlt2, hm])
          have hki2 : (k : Int) < (L.length : Int) := by omega
          have HDR := Lib.hid (drawnOf_any m hm01 wp)
          clear hm
          go_wp2_with fail
          refine HDR.out.mono ?_
          rintro e w6 ⟨aq, cq, rfl, hoq, hbq⟩
          obtain ⟨q, hq⟩ : ∃ q, q = cPic m := ⟨_, rfl⟩
          rw [← hq] at hoq ⊢
          have HRQ := Lib.hid hoq.rd
          have HDS6 := Lib.hid (HDS.out.below hbq)
          have HC6 : Hid (Chg (fun b => ¬ K b) w5 w6) := Lib.hid (HCH.out.then_below hbq)
          have hz6 : wp.heap.size ≤ w6.heap.size := hbq.size
          have hXLT : Hid (∀ b, blockOf x = some b → b < wp.heap.size) := Lib.hid fun b hb => HDS.out.x_lt hb
          have hYLT : Hid (∀ b, blockOf y = some b → b < wp.heap.size) := Lib.hid fun b hb => HDS.out.y_lt hb
          have HQQ := Lib.hid hq
          clear hoq hbq hq HDR
          go_wp2_with (at_builtin; go_loud (first
            | (refine wpList_appQ Try.underlying23 Try.infoRows rfl (by omega) w6 rfl _ _ rfl _ x c y d Q1 A1 rfl HDS6.out aq cq q rfl wp.heap.size w6.heap.size HRQ.out (Nat.le_refl _) (fun b h1 h2 => ⟨fun h => by have := hXLT.out b h; omega, fun h => by have := hYLT.out b h; omega⟩) (by omega) ?_
               intro x1 cx w7 hst7 hch7
               have HDS7 := Lib.hid hst7
               have HC7 := Lib.hid (HC6.out.trans (hch7.wide (T := fun b => ¬ K b) (fun b hb => HDS6.out.kx b hb)))
               have hz7 : w6.heap.size ≤ w7.heap.size := hch7.size
               clear hst7 hch7)
            | (refine wpList_appA Try.underlying24 Try.infoInt w7 rfl _ _ rfl _ x1 cx y d (Q1 ++ [q]) A1 rfl HDS7.out 0 rfl (by omega) ?_
               intro y1 dy w8 hst8 hch8
               have HDS8 := Lib.hid hst8
               have HC8 := Lib.hid (HC7.out.trans (hch8.wide (T := fun b => ¬ K b) (fun b hb => HDS7.out.ky b hb)))
               clear hst8 hch8)))
          go_roundw
          case rel =>
            exact ⟨k + 1, x1, cx, y1, dy, Q1 ++ [q], A1 ++ [0], by omega, by go_num, by rw [HTK.out, List.map_append, ← List.append_assoc, ← HQ1.out, HQQ.out]; rfl, by rw [HTK.out, List.map_append, ← List.append_assoc, ← HA1.out]; rfl, by simp, by simp, HDS8.out, HC8.out⟩
          case measure => simp [intOf]; omega
        · obtain rfl : k = L.length := by omega
          obtain ⟨DD, hDD⟩ : ∃ DD, DD = dueOf (names, code) PL NL := ⟨_, rfl⟩
          have hQD : Q1 = DD.map (·.1) := by
            rw [HQ1.out, hDD, hQA.out.1, List.take_of_length_le (Nat.le_refl _), HL.out]
            unfold dueOf codeD
            rw [List.map_append, List.map_map]; rfl
          have hAD : A1 = DD.map fun d => (d.2 : Int) := by
            rw [HA1.out, hDD, hQA.out.2, List.take_of_length_le (Nat.le_refl _), HL.out]
            unfold dueOf codeD
            rw [List.map_append, List.map_map]; rfl
          have hDS : ∀ d ∈ DD, Sq d.1 ∧ d.2 < d.1.length ∧ d.1.length ≤ 5 := by
            rw [hDD]
            intro d hd
            rcases List.mem_append.1 hd with h | h
            · obtain ⟨m, hm, _, rfl⟩ := dueD_mem.1 h
              obtain ⟨jj, e3, hj, hpp⟩ := nodeB_nat (HND.out m hm)
              have hsq := picB_sq hpp
              exact ⟨hsq.1, by show (NL.getD m 0).toNat < _; rw [e3, Int.toNat_natCast]; exact hj, hsq.2.2⟩
            · unfold codeD at h
              obtain ⟨m, _, rfl⟩ := List.mem_map.1 h
              have := cPic_sq m
              exact ⟨this.1, this.2.1, by have := this.2.2; show (cPic m).length ≤ 5; omega⟩
          obtain ⟨N, hN⟩ : ∃ N, N = Q1.length := ⟨_, rfl⟩
          have hND : DD.length = N := by rw [hN, hQD, List.length_map]
          have hAN : A1.length = N := by rw [hAD, List.length_map]; exact hND
          have hQM : ∀ m, m < N → Q1.getD m [] = (DD.getD m ([], 0)).1 ∧ A1.getD m 0 = ((DD.getD m ([], 0)).2 : Int) := fun m hm => by
            have hm2 : m < DD.length := by omega
            rw [hQD, hAD]
            simp [List.getD, hm2]
          have hN5 : N ≤ 5 := by omega
          have hAN1 : N ≤ A1.length := by omega
          have hAN2 : A1.length ≤ N := by omega
          rw [← hN]
          have HDD := Lib.hid hDD
          have HQM := Lib.hid hQM
          have HND2 := Lib.hid hND
          have HNQ := Lib.hid hN
          have HDSQ' : Hid (∀ m, m < N → Sq (DD.getD m ([], 0)).1 ∧ (DD.getD m ([], 0)).2 < (DD.getD m ([], 0)).1.length ∧ (DD.getD m ([], 0)).1.length ≤ 5) := Lib.hid fun m hm => by
            rw [getD_inL (by omega)]
            exact hDS _ (List.getElem_mem _)
          have hmk := run_make_row' (P := Try.prog) 68 4 _ _ Try.underlying68 Try.infoBool rfl .i64 .i64 N (by omega) (by omega)
          have HMET0 := Lib.hid (OwV_falses wp 4 N (by unfold maxLen; omega))
          have hszm : (wp.alloc (.cells (madeCells #[.bool false] N) 4)).heap.size = wp.heap.size + 1 := by simp
          have HSZM := Lib.hid hszm
          have hbm := below_alloc wp (.cells (madeCells #[.bool false] N) 4)
          have hpq := picB_sq HP.out
          have HPS := Lib.hid hpq.1
          have hp5 : p.length ≤ 5 := hpq.2.2
          have HARR := Lib.hid (arrowsOf_any a3 c3 p i (wp.alloc (.cells (madeCells #[.bool false] N) 4)) B3 C3 (F3.out.below (HBWR.out.trans (hbm.mono (by omega))) hC3) (by rw [hszm]; omega) hpq.1 hi (by omega))
          have HBM := Lib.hid hbm
          clear hDD hQD hAD hDS hN hND hAN hQM hszm hbm hpq
          go_wp2_with fail
          refine HARR.out.mono ?_
          rintro e w9 ⟨al3, cl3, rfl, ho, hb⟩
          have hl3 := arrL_le p i p.length
          have HLR3 : Hid (∀ k (hk : k < (arrL p i p.length).length), ∃ v : Nat, (arrL p i p.length)[k] = (v : Int) ∧ v < p.length) := Lib.hid fun k hk => by
            obtain ⟨v, e, hv, _⟩ := arrL_at hk
            exact ⟨v, e, hv⟩
          obtain ⟨L3, hL3⟩ : ∃ L3, L3 = arrL p i p.length := ⟨_, rfl⟩
          rw [← hL3] at ho hl3 HLR3 ⊢
          have HL3 := Lib.hid hL3
          have HR3 : Hid (RdI w9 (wp.heap.size + 1) w9.heap.size al3 L3) := Lib.hid (by have h9 := ho.rd; rw [HSZM.out] at h9; exact h9)
          have hz9 : wp.heap.size + 1 ≤ w9.heap.size := by have h9 := hb.size; rw [HSZM.out] at h9; exact h9
          have HMET := Lib.hid ((HMET0.out.agr (agr_below hb (by rw [HSZM.out]; exact Nat.le_refl _))).mono (Nat.le_refl _) hz9)
          have HB9 := Lib.hid (HBM.out.trans (hb.mono (by rw [HSZM.out]; omega)))
          clear ho hb hL3 HMET0 HARR hmk HLR
          go_wp2_with fail
          go_loopw [80] (fun kv wr => ∃ (k : Nat) (G : Nat → Bool), k ≤ L3.length ∧ kv = .int .i64 k ∧ (∀ m, m < N → G m = (L3.take k).any fun v => metB p v.toNat (DD.getD m ([], 0))) ∧ (∀ v ∈ L3.take k, DD.any (metB p v.toNat) = true) ∧ OwV wr 4 wp.heap.size w9.heap.size (some ⟨wp.heap.size, 0, none⟩) N N (fun m => .bool (G m)) ∧ Chg (fun b => b = wp.heap.size) w9 wr) (fun kv _ => L3.length - (intOf kv).toNat)
          case atStart => exact ⟨0, fun _ => false, Nat.zero_le _, rfl, fun m _ => by simp, fun v hv => by simp at hv, HMET.out, Chg.refl _ _⟩
          case round =>
            obtain ⟨k, G, hk, rfl, hG, hall, hmet, hch⟩ := hrel
            have HG := Lib.hid hG
            have HALL := Lib.hid hall
            have HM := Lib.hid hmet
            have HCH := Lib.hid hch
            have hz10 : w9.heap.size ≤ wr.heap.size := hch.size
            clear hG hall hmet hch
            obtain ⟨wq, hwq⟩ : ∃ v : World, v = wr := ⟨_, rfl⟩
            subst hwq
            by_cases hlt3 : k < L3.length
            · obtain ⟨v, hv, hvp⟩ := HLR3.out k hlt3
              obtain ⟨b3, off3, e3, _, hb33, hd3⟩ := (HR3.out.agr (HCH.out.agr (Nat.le_refl _) (fun b h1 h2 h3 => by omega))).at k hlt3
              subst e3
              rw [hv] at hd3
              have HTK3 : Hid (L3.take (k + 1) = L3.take k ++ [(v : Int)]) := Lib.hid (by rw [List.take_succ_eq_append_getElem hlt3, hv])
              have HVM : Hid ((v : Int) ∈ arrL p i p.length) := Lib.hid (by rw [← HL3.out, ← hv]; exact List.getElem_mem hlt3)
              have hki3 : (k : Int) < (L3.length : Int) := by omega
              clear hv
              go_wp2_with fail
              go_loopw [22, 86] (fun fv jv wr => ∃ (j : Nat) (f : Bool) (G1 : Nat → Bool), j ≤ N ∧ jv = .int .i64 j ∧ fv = .bool f ∧ f = (List.range j).any (fun m => metB p v (DD.getD m ([], 0))) ∧ (∀ m, m < N → G1 m = (G m || (decide (m < j) && metB p v (DD.getD m ([], 0))))) ∧ OwV wr 4 wp.heap.size w9.heap.size (some ⟨wp.heap.size, 0, none⟩) N N (fun m => .bool (G1 m)) ∧ Chg (fun b => b = wp.heap.size) w9 wr) (fun _ jv _ => N - (intOf jv).toNat)
              case atStart => exact ⟨0, false, G, Nat.zero_le _, rfl, rfl, rfl, fun m _ => by simp, HM.out, HCH.out⟩
              case round =>
                obtain ⟨j, f, G1, hj, rfl, rfl, hf, hG1, hmet, hch⟩ := hrel
                have HF := Lib.hid hf
                have HG1 := Lib.hid hG1
                have HM1 := Lib.hid hmet
                have HCH1 := Lib.hid hch
                have hz11 : w9.heap.size ≤ wr.heap.size := hch.size
                have HBQ := Lib.hid (HB9.out.trans (hch.below (D := wp.heap.size) (fun b hb => by omega) (by omega)))
                clear hf hG1 hmet hch
                obtain ⟨ws, hws⟩ : ∃ v : World, v = wr := ⟨_, rfl⟩
                subst hws
                by_cases hlt4 : j < N
                · have HDSQ := Lib.hid (HDS.out.below HBQ.out)
                  obtain ⟨gx, aq, cq, Bq, Cq, ex, hgx, hcq, hrq, hCq⟩ := HDSQ.out.atQ j (by rw [← HNQ.out]; exact hlt4)
                  subst ex
                  obtain ⟨b4, off4, e4, _, hb44, hd4⟩ := HDSQ.out.rdA.at j (by omega)
                  subst e4
                  have hA1j : A1[j]'(by omega) = ((DD.getD j ([], 0)).2 : Int) := by rw [← getD_lt (show j < A1.length by omega)]; exact (HQM.out j hlt4).2
                  rw [hA1j] at hd4
                  rw [(HQM.out j hlt4).1] at hcq hrq
                  obtain ⟨s1, s2, s3⟩ := HDSQ'.out j hlt4
                  obtain ⟨dj, hdj⟩ : ∃ dj, dj = DD.getD j ([], 0) := ⟨_, rfl⟩
                  rw [← hdj] at hd4 hcq hrq s1 s2 s3
                  have hcall := sameSet_any a3 c3 p v aq cq dj.1 dj.2 ws B3 C3 Bq Cq (F3.out.below (HBWR.out.trans (HBQ.out.mono (by omega))) hC3) (by omega) HPS.out hvp hrq hCq s1 s2 (by omega)
                  have hji : (j : Int) < (N : Int) := by omega
                  have hjai : (j : Int) < (A1.length : Int) := by omega
                  have HDJ := Lib.hid hdj
                  clear hA1j hrq s1 hdj
                  cases hq : sameB p v dj.1 dj.2
                  · rw [hq] at hcall
                    have HCALL := Lib.hid hcall
                    have HQV : Hid (metB p v (DD.getD j ([], 0)) = false) := Lib.hid (by rw [← HDJ.out]; exact hq)
                    clear hcall hq
                    go_wp2_with fail
                    refine HCALL.out.mono ?_
                    rintro e w4 ⟨rfl, hb⟩
                    have HM2 := Lib.hid (HM1.out.agr (agr_below hb (by omega)))
                    have HCH2 := Lib.hid (HCH1.out.then_below hb)
                    clear hb
                    go_wp2_with fail
                    go_roundw
                    case rel => exact ⟨j + 1, f, G1, by omega, by go_num, rfl, by rw [range_any_succ, HQV.out, ← HF.out, Bool.or_false], fun m hm => by
                      rw [HG1.out m hm]
                      congr 1
                      by_cases e : m = j
                      · subst e; rw [HQV.out, Bool.and_false, Bool.and_false]
                      · congr 1; exact decide_eq_decide.2 (by omega), HM2.out, HCH2.out⟩
                    case measure => simp [intOf]; omega
                  · rw [hq] at hcall
                    have HCALL := Lib.hid hcall
                    have HQV : Hid (metB p v (DD.getD j ([], 0)) = true) := Lib.hid (by rw [← HDJ.out]; exact hq)
                    clear hcall hq
                    go_wp2_with fail
                    refine HCALL.out.mono ?_
                    rintro e w4 ⟨rfl, hb⟩
                    have HM2 := Lib.hid (HM1.out.agr (agr_below hb (by omega)))
                    have HCH2 := Lib.hid (HCH1.out.then_below hb)
                    have hz12 : ws.heap.size ≤ w4.heap.size := hb.size
                    obtain ⟨⟨vold, hcell⟩, hfz, hgl, hput⟩ := HM2.out.setB j hlt4
                    have HPUT := Lib.hid hput
                    clear hb hput
                    go_wp2_with fail
                    go_roundw
                    case rel => exact ⟨j + 1, true, fun m => if m = j then true else G1 m, by omega, by go_num, rfl, by rw [range_any_succ, HQV.out, Bool.or_true], fun m hm => by
                      show (if m = j then true else G1 m) = _
                      by_cases e : m = j
                      · subst e
                        rw [if_pos rfl, HQV.out, Bool.and_true, decide_eq_true (by omega), Bool.or_true]
                      · rw [if_neg e, HG1.out m hm]
                        congr 2
                        exact decide_eq_decide.2 (by omega), HPUT.out true, HCH2.out.set (.inl rfl) _⟩
                    case measure => simp [intOf]; omega
                · obtain rfl : j = N := by omega
                  cases f
                  · go_wp2_with fail
                    go_ret
                    refine ⟨ret_bool ?_, HBWR.out.trans (HBQ.out.mono (by omega))⟩
                    rw [← HDD.out]
                    refine (metD_no HVM.out ?_).symm
                    rw [← range_any_getD _ _ ([], 0), HND2.out, Int.toNat_natCast]
                    exact HF.out.symm
                  · go_wp2_with fail
                    go_roundw
                    case rel => exact ⟨k + 1, G1, by omega, by go_num, fun m hm => by rw [HTK3.out, List.any_append, ← HG.out m hm, HG1.out m hm, decide_eq_true hm, Bool.true_and, List.any_cons, List.any_nil, Bool.or_false, Int.toNat_natCast], fun v' hv' => by
                      rw [HTK3.out, List.mem_append] at hv'
                      rcases hv' with h | h
                      · exact HALL.out v' h
                      · rw [List.mem_singleton] at h
                        rw [h, ← range_any_getD _ _ ([], 0), HND2.out, Int.toNat_natCast]
                        exact HF.out.symm, HM1.out, HCH1.out⟩
                    case measure => simp [intOf]; omega
            · obtain rfl : k = L3.length := by omega
              have HCB := Lib.hid (containsB_any (some ⟨wp.heap.size, 0, none⟩) N N G wq HM.out.rdBo (by omega))
              have hfin := metD_fin (p := p) (i := i) (D := DD) (G := G) (fun v hv => HALL.out v (by rw [List.take_of_length_le (Nat.le_refl _), HL3.out]; exact hv)) (fun m hm => by
                rw [HG.out m (by rw [← HND2.out]; exact hm), List.take_of_length_le (Nat.le_refl _), HL3.out])
              rw [HND2.out] at hfin
              have HFIN := Lib.hid hfin
              clear hfin
              go_wp2_with fail
              refine HCB.out.mono ?_
              rintro e w' ⟨rfl, rfl⟩
              go_wp2_with fail
              go_ret
              exact ⟨ret_bool (by rw [← HDD.out]; exact HFIN.out), HBWR.out.trans ((HB9.out.trans (HCH.out.below (D := wp.heap.size) (fun b hb => by omega) (by omega))).mono (by omega))⟩
end Go.Proofs.Ytfjodcfbhpglhaa
namespace Go.Hyp
open Go.RowKit Go.Deep
theorem solB_no {s : List (List Int × Int)} {PL : List (List (List Int))} {NL : List Int} (h : sysB s = false ∨ PL.length ≠ s.length ∨ NL.length ≠ s.length) : solB s PL NL = false := by
  cases e : solB s PL NL
  · rfl
  · exfalso
    obtain ⟨h1, h2, h3, _⟩ := solB_iff.1 e
    rcases h with h | h | h
    · rw [h1] at h; cases h
    · exact h h2
    · exact h h3
theorem solB_no1 {s : List (List Int × Int)} {PL : List (List (List Int))} {NL : List Int} {k : Nat} (hk : k < s.length) (h : nodeB (PL.getD k []) (NL.getD k 0) = false) : solB s PL NL = false := by
  cases e : solB s PL NL
  · rfl
  · exfalso
    have := (solB_iff.1 e).2.2.2.1 k hk
    rw [h] at this; cases this
theorem solB_no2 {s : List (List Int × Int)} {PL : List (List (List Int))} {NL : List Int} {k : Nat} (hk : k < s.length) (h : metD (PL.getD k []) (NL.getD k 0).toNat (dueOf (s.getD k ([], 0)) PL NL) = false) : solB s PL NL = false := by
  unfold solB
  have : ((List.range s.length).all fun k => metD (PL.getD k []) (NL.getD k 0).toNat (dueOf (s.getD k ([], 0)) PL NL)) = false := by
    rw [List.all_eq_false]
    exact ⟨k, List.mem_range.2 hk, by rw [h]; decide⟩
  rw [this, Bool.and_false, Bool.and_false]
theorem solB_all {s : List (List Int × Int)} {PL : List (List (List Int))} {NL : List Int} (h : sysB s = true) (h1 : PL.length = s.length) (h2 : NL.length = s.length) (h3 : ∀ k, k < s.length → nodeB (PL.getD k []) (NL.getD k 0) = true)
    (h4 : ∀ k, k < s.length → metD (PL.getD k []) (NL.getD k 0).toNat (dueOf (s.getD k ([], 0)) PL NL) = true) : solB s PL NL = true := by
  unfold solB
  rw [h, decide_eq_true h1, decide_eq_true h2, List.all_eq_true.2 (fun k hk => h3 k (List.mem_range.1 hk)), List.all_eq_true.2 (fun k hk => h4 k (List.mem_range.1 hk))]
  rfl
end Go.Hyp
namespace Go.Proofs.Ytfjodcfbhpglhaa
open Go.RowKit Go.Hyp Go.Deep

set_option maxRecDepth 4000 in
set_option maxHeartbeats 1600000 in
theorem implSolutionOk_any (a : Option Addr) (cap : Nat) (s : List (List Int × Int)) (a1 : Option Addr) (c1 : Nat) (PL : List (List (List Int))) (a2 : Option Addr) (c2 : Nat) (NL : List Int) (w : World) (B C B1 C1 B2 C2 : Nat)
    (h : RdY w B C a s) (hC : C ≤ w.heap.size) (hl : s.length ≤ maxLen) (h1 : RdIII w B1 C1 a1 PL) (hC1 : C1 ≤ w.heap.size) (hl1 : PL.length ≤ maxLen) (h2 : RdI w B2 C2 a2 NL) (hC2 : C2 ≤ w.heap.size) (hl2 : NL.length ≤ maxLen) :
    Calls Try.prog 11 #[.slice a s.length cap, .slice a1 PL.length c1, .slice a2 NL.length c2] w fun e w' => e = .returned (.bool (solB s PL NL)) ∧ Below w.heap.size w w' := by
  have F := Lib.hid h
  have F1 := Lib.hid h1
  have F2 := Lib.hid h2
  have HIS := Lib.hid (isSystem_any a cap s w B C h hC hl)
  unfold maxLen at hl hl1 hl2
  clear h h1 h2
  cases hs : sysB s
  · have HS := Lib.hid hs
    have HE := Lib.hid (solB_no (PL := PL) (NL := NL) (.inl hs))
    clear hs
    go_enter Try.func11, Try.ntmps11
    go_wp2_with fail
    refine HIS.out.mono ?_
    rintro e w1 ⟨rfl, hb⟩
    rw [HS.out]
    have HB := Lib.hid hb
    clear hb
    go_wp2_with fail
    go_ret
    exact ⟨ret_bool HE.out.symm, HB.out⟩
  by_cases hp : PL.length = s.length
  · by_cases hn : NL.length = s.length
    · have HS := Lib.hid hs
      have HPE := Lib.hid hp
      have HNE := Lib.hid hn
      have hq1 : (((PL.length : Nat) : Int) != ((s.length : Nat) : Int)) = false := by simp [hp]
      have hq2 : (((NL.length : Nat) : Int) != ((s.length : Nat) : Int)) = false := by simp [hn]
      have hp1 : PL.length ≤ s.length := by omega
      have hp2 : s.length ≤ PL.length := by omega
      have hn1 : NL.length ≤ s.length := by omega
      have hn2 : s.length ≤ NL.length := by omega
      obtain ⟨⟨_, hs3⟩, hsat⟩ := sysB_at hs
      have HAT := Lib.hid hsat
      clear hs hp hn hsat
      go_enter Try.func11, Try.ntmps11
      go_wp2_with fail
      refine HIS.out.mono ?_
      rintro e w1 ⟨rfl, hb⟩
      rw [HS.out]
      have HB := Lib.hid hb
      have hz1 : w.heap.size ≤ w1.heap.size := hb.size
      clear hb HIS
      go_wp2_with fail
      clear hq1 hq2
      go_loopw [30] (fun kv wr => ∃ k : Nat, k ≤ PL.length ∧ kv = .int .i64 k ∧ (∀ m, m < k → nodeB (PL.getD m []) (NL.getD m 0) = true) ∧ wr = w1) (fun kv _ => PL.length - (intOf kv).toNat)
      case atStart => exact ⟨0, Nat.zero_le _, rfl, fun m hm => absurd hm (Nat.not_lt_zero _), rfl⟩
      case round =>
        obtain ⟨k, hk, rfl, hno, hwr⟩ := hrel
        rw [hwr]
        have HNO := Lib.hid hno
        clear hwr hno
        by_cases hlt : k < PL.length
        · obtain ⟨b1, off1, aq, cq, e1, _, hb1, hcq, hrq, hlq⟩ := (F1.out.below HB.out hC1) k hlt
          subst e1
          obtain ⟨b2, off2, e2, _, hb2, hd2⟩ := (F2.out.below HB.out hC2).at k (by omega)
          subst e2
          have hki : (k : Int) < (PL.length : Int) := by omega
          have hkn : (k : Int) < (NL.length : Int) := by omega
          obtain ⟨v, hv⟩ : ∃ v, v = NL[k]'(by omega) := ⟨_, rfl⟩
          rw [← hv] at hd2
          have hcall := hasNode_any aq cq (PL.getD k []) v w1 B1 C1 hrq hlq
          have hv2 : NL.getD k 0 = v := by rw [hv]; exact getD_lt (by omega)
          have hno1 := fun h => solB_no1 (s := s) (PL := PL) (NL := NL) (k := k) (by omega) h
          obtain ⟨q, hq0⟩ : ∃ q, q = PL.getD k [] := ⟨_, rfl⟩
          rw [← hq0, hv2] at hno1
          rw [← hq0] at hcall hcq
          have HNO1 := Lib.hid hno1
          have HQ0 := Lib.hid hq0
          have HV2 := Lib.hid hv2
          clear hv hv2 hrq hno1 hq0 hlq
          cases hq : nodeB q v
          · rw [hq] at hcall
            have HCALL := Lib.hid hcall
            have HE := Lib.hid (HNO1.out hq)
            clear hcall hq
            go_wp2_with fail
            refine HCALL.out.mono ?_
            rintro e w' ⟨rfl, rfl⟩
            go_wp2_with fail
            go_ret
            exact ⟨ret_bool HE.out.symm, HB.out⟩
          · rw [hq] at hcall
            have HCALL := Lib.hid hcall
            have HQ := Lib.hid hq
            clear hcall hq
            go_wp2_with fail
            refine HCALL.out.mono ?_
            rintro e w' ⟨rfl, rfl⟩
            go_wp2_with fail
            go_roundw
            case rel => exact ⟨k + 1, by omega, by go_num, fun m hm => by
              by_cases e : m = k
              · subst e; rw [← HQ0.out, HV2.out]; exact HQ.out
              · exact HNO.out m (by omega), by first | rfl | trivial⟩
            case measure => simp [intOf]; omega
        · obtain rfl : k = PL.length := by omega
          go_wp2_with fail
          go_loopw [45] (fun kv wr => ∃ k : Nat, k ≤ s.length ∧ kv = .int .i64 k ∧ (∀ m, m < k → metD (PL.getD m []) (NL.getD m 0).toNat (dueOf (s.getD m ([], 0)) PL NL) = true) ∧ Below w.heap.size w wr) (fun kv _ => s.length - (intOf kv).toNat)
          case atStart => exact ⟨0, Nat.zero_le _, rfl, fun m hm => absurd hm (Nat.not_lt_zero _), HB.out⟩
          case round =>
            obtain ⟨k, hk, rfl, hyes, hb⟩ := hrel
            have HY := Lib.hid hyes
            have HBR := Lib.hid hb
            have hzr : w.heap.size ≤ wr.heap.size := hb.size
            clear hyes hb
            obtain ⟨wo, hwo⟩ : ∃ v : World, v = wr := ⟨_, rfl⟩
            subst hwo
            by_cases hlt2 : k < s.length
            · obtain ⟨b0, off0, xa, xc, e0, _, hb0, hc0, hcc0, hr0, hl0⟩ := (F.out.below HBR.out hC).at k hlt2
              subst e0
              obtain ⟨b1, off1, aq, cq, e1, _, hb1, hcq, hrq, hlq⟩ := (F1.out.below HBR.out hC1) k (by omega)
              subst e1
              obtain ⟨b2, off2, e2, _, hb2, hd2⟩ := (F2.out.below HBR.out hC2).at k (by omega)
              subst e2
              obtain ⟨j, ej, hj, hpp⟩ := nodeB_nat (HNO.out k (by omega))
              have hv2 : NL[k]'(by omega) = (j : Int) := by rw [← getD_lt (show k < NL.length by omega)]; exact ej
              rw [hv2] at hd2
              have hat := HAT.out k hlt2
              have hki : (k : Int) < (PL.length : Int) := by omega
              have hkn : (k : Int) < (NL.length : Int) := by omega
              have hks : (k : Int) < (s.length : Int) := by omega
              have esk : s.getD k ([], 0) = s[k] := by simp [List.getD, hlt2]
              have HRQ := Lib.hid hrq
              have HR0 := Lib.hid hr0
              have HPP := Lib.hid hpp
              have HEJ := Lib.hid ej
              have HAK := Lib.hid hat
              have HESK := Lib.hid esk
              have hbw1 : b1 < wo.heap.size := by omega
              have hbw2 : b2 < wo.heap.size := by omega
              obtain ⟨q, hq0⟩ : ∃ q, q = PL.getD k [] := ⟨_, rfl⟩
              rw [← hq0] at hcq HRQ hj HPP hlq
              have HQ0 := Lib.hid hq0
              clear hrq hr0 hpp ej hat esk hv2 hq0
              obtain ⟨names, hnm⟩ : ∃ names, names = s[k].1 := ⟨_, rfl⟩
              obtain ⟨code, hcd⟩ : ∃ code, code = s[k].2 := ⟨_, rfl⟩
              rw [← hnm] at hc0 HR0
              rw [← hcd] at hcc0
              obtain ⟨g1, g2, g3, g4⟩ := HAK.out
              rw [← hnm] at g1 g2
              rw [← hcd] at g3 g4
              have hES : s[k] = (names, code) := by rw [hnm, hcd]
              have hyk := fun h => solB_no2 (s := s) (PL := PL) (NL := NL) (k := k) hlt2 h
              rw [HESK.out, hES, ← HQ0.out, HEJ.out, Int.toNat_natCast] at hyk
              have HES := Lib.hid hES
              have HYK := Lib.hid hyk
              have HG1 := Lib.hid g1
              have hnl3 : names.length ≤ 3 := by omega
              have hnPL : PL.length = names.length := by omega
              have hnNL : NL.length = names.length := by omega
              have HNPL := Lib.hid hnPL
              have HNNL := Lib.hid hnNL
              have hc1x := hcq
              clear hnm hcd g1 g2 hES hyk hl0 hlq hnPL hnNL hc1x
              obtain ⟨b', hbq⟩ : ∃ b', b' = metD q j (dueOf (names, code) PL NL) := ⟨_, rfl⟩
              have HBQ := Lib.hid hbq
              clear hbq
              obtain ⟨wx, hwx⟩ : ∃ v, v = wo.alloc (.cells #[.slice xa names.length xc, .int .i64 code] 50) := ⟨_, rfl⟩
              have hba := below_alloc wo (.cells #[.slice xa names.length xc, .int .i64 code] 50)
              have hbk := alloc1 wo (.cells #[.slice xa names.length xc, .int .i64 code] 50)
              have hzx : wo.heap.size < (wo.alloc (.cells #[.slice xa names.length xc, .int .i64 code] 50)).heap.size := by simp
              rw [← hwx] at hba hbk hzx
              have HWX := Lib.hid hwx
              have HBX := Lib.hid (HBR.out.trans (hba.mono hzr))
              obtain ⟨x0, x1, _, _⟩ := blk2 hbk
              have x2 : wx.cell? ⟨b1, off1 + k, none⟩ = some (.slice aq q.length cq) := ((bcell hba).1 b1 (off1 + k) hbw1).trans hcq
              have x3 : wx.cell? ⟨b2, off2 + k, none⟩ = some (.int .i64 j) := ((bcell hba).1 b2 (off2 + k) hbw2).trans hd2
              have hbx1 : b1 < wx.heap.size := by omega
              have hbx2 : b2 < wx.heap.size := by omega
              have hCx : C ≤ wx.heap.size := by omega
              have hC1x : C1 ≤ wx.heap.size := by omega
              have hC2x : C2 ≤ wx.heap.size := by omega
              have hwwx : w.heap.size ≤ wx.heap.size := by omega
              have HX := Lib.hid ((HR0.out.below hba (by omega)))
              have HXQ := Lib.hid ((HRQ.out.below hba (by omega)))
              have HNOD : Hid (∀ m, m < names.length → nodeB (PL.getD m []) (NL.getD m 0) = true) := Lib.hid fun m hm => HNO.out m (by have := HNPL.out; omega)
              clear hba hbk hwx hcq hd2
              go_wp2_with fail
              rw [← HWX.out]
              cases b'
              · skip
                go_region_held3 (fun w' => w'.cell? ⟨wo.heap.size, 0, none⟩ = some (.slice xa names.length xc) ∧ w'.cell? ⟨wo.heap.size, 1, none⟩ = some (.int .i64 code) ∧ w'.cell? ⟨b1, off1 + k, none⟩ = some (.slice aq q.length cq) ∧ w'.cell? ⟨b2, off2 + k, none⟩ = some (.int .i64 j)) (go_keep)
                  (first
                    | (go_at_call 32
                       go_loud (
                       refine (isSaid_any xa xc names code (some ⟨b1, off1, none⟩) c1 PL (some ⟨b2, off2, none⟩) c2 NL aq cq q j _ B C B1 C1 B2 C2 B1 C1 (by exact HX.out) (by exact hCx) (by exact F1.out.below HBX.out.drew hC1) (by exact hC1x) (by exact F2.out.below HBX.out.drew hC2) (by exact hC2x) (by exact HXQ.out) (by exact hC1x) hnl3 HG1.out g3 g4 HNPL.out HNNL.out HNOD.out HPP.out hj).mono ?_
                       rintro e w3 ⟨rfl, hb3⟩
                       rw [← HBQ.out]
                       replace hb3 := undrew hb3
                       have x0' := ((bcell hb3).1 wo.heap.size 0 hzx).trans x0
                       have x1' := ((bcell hb3).1 wo.heap.size 1 hzx).trans x1
                       have x2' := ((bcell hb3).1 b1 (off1 + k) hbx1).trans x2
                       have x3' := ((bcell hb3).1 b2 (off2 + k) hbx2).trans x3
                       have HB3 := Lib.hid (HBX.out.trans (hb3.mono hwwx))
                       clear hb3)))
                go_wp2_with fail
                go_ret
                exact ⟨ret_bool (HYK.out HBQ.out.symm).symm, HB3.out⟩
              · skip
                go_region_held3 (fun w' => w'.cell? ⟨wo.heap.size, 0, none⟩ = some (.slice xa names.length xc) ∧ w'.cell? ⟨wo.heap.size, 1, none⟩ = some (.int .i64 code) ∧ w'.cell? ⟨b1, off1 + k, none⟩ = some (.slice aq q.length cq) ∧ w'.cell? ⟨b2, off2 + k, none⟩ = some (.int .i64 j)) (go_keep)
                  (first
                    | (go_at_call 32
                       go_loud (
                       refine (isSaid_any xa xc names code (some ⟨b1, off1, none⟩) c1 PL (some ⟨b2, off2, none⟩) c2 NL aq cq q j _ B C B1 C1 B2 C2 B1 C1 (by exact HX.out) (by exact hCx) (by exact F1.out.below HBX.out.drew hC1) (by exact hC1x) (by exact F2.out.below HBX.out.drew hC2) (by exact hC2x) (by exact HXQ.out) (by exact hC1x) hnl3 HG1.out g3 g4 HNPL.out HNNL.out HNOD.out HPP.out hj).mono ?_
                       rintro e w3 ⟨rfl, hb3⟩
                       rw [← HBQ.out]
                       replace hb3 := undrew hb3
                       have x0' := ((bcell hb3).1 wo.heap.size 0 hzx).trans x0
                       have x1' := ((bcell hb3).1 wo.heap.size 1 hzx).trans x1
                       have x2' := ((bcell hb3).1 b1 (off1 + k) hbx1).trans x2
                       have x3' := ((bcell hb3).1 b2 (off2 + k) hbx2).trans x3
                       have HB3 := Lib.hid (HBX.out.trans (hb3.mono hwwx))
                       clear hb3)))
                go_wp2_with fail
                go_roundw
                case rel => exact ⟨k + 1, by omega, by go_num, fun m hm => by
                  by_cases e : m = k
                  · subst e
                    rw [HESK.out, HES.out, ← HQ0.out, HEJ.out, Int.toNat_natCast]
                    exact HBQ.out.symm
                  · exact HY.out m (by omega), HB3.out⟩
                case measure => simp [intOf]; omega
            · obtain rfl : k = s.length := by omega
              have HE := Lib.hid (solB_all HS.out HPE.out HNE.out (fun m hm => HNO.out m (by omega)) HY.out)
              go_wp2_with fail
              go_ret
              exact ⟨ret_bool HE.out.symm, HBR.out⟩
    · have HS := Lib.hid hs
      have HE := Lib.hid (solB_no (s := s) (PL := PL) (NL := NL) (.inr (.inr hn)))
      have hq1 : (((PL.length : Nat) : Int) != ((s.length : Nat) : Int)) = false := by simp [hp]
      have hq2 : (((NL.length : Nat) : Int) != ((s.length : Nat) : Int)) = true := bne_iff_ne.2 (by omega)
      clear hs hp hn
      go_enter Try.func11, Try.ntmps11
      go_wp2_with fail
      refine HIS.out.mono ?_
      rintro e w1 ⟨rfl, hb⟩
      rw [HS.out]
      have HB := Lib.hid hb
      clear hb
      go_wp2_with fail
      go_ret
      exact ⟨ret_bool HE.out.symm, HB.out⟩
  · have HS := Lib.hid hs
    have HE := Lib.hid (solB_no (s := s) (PL := PL) (NL := NL) (.inr (.inl hp)))
    have hq1 : (((PL.length : Nat) : Int) != ((s.length : Nat) : Int)) = true := bne_iff_ne.2 (by omega)
    clear hs hp
    go_enter Try.func11, Try.ntmps11
    go_wp2_with fail
    refine HIS.out.mono ?_
    rintro e w1 ⟨rfl, hb⟩
    rw [HS.out]
    have HB := Lib.hid hb
    clear hb
    go_wp2_with fail
    go_ret
    exact ⟨ret_bool HE.out.symm, HB.out⟩
end Go.Proofs.Ytfjodcfbhpglhaa
