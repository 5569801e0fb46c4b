/- spec.ShortOf, walked. Walks of the functions by which the laws draw streams: what comes is a pair of short slices of numbers. What PutAhead answers: the short stream of a bit and a short stream behind it. No program in sight. To own a slice, told tightly. impl.PutAhead, walked. spec.PutAhead, walked. -/
import Derived.Deep.RegionLaw
import Derived.Deep.Cut
import Derived.Test.YtgfoolneophkcaaM5
import Derived.Test.YtgfoolneophkcaaM6
import Derived.Deep.RegionHeld3
import Derived.Test.YtgfoolneophkcaaM4
import Derived.Test.YtgfoolneophkcaaM3
import Derived.Test.YtgfoolneophkcaaM7
namespace Go.Hyp
open Go.RowKit Go.Deep
theorem bitOf_bitB {l1 l2 : List Int} (h : streamB l1 l2 = true) (k : Nat) : bitB (bitOf l1 l2 k) = true := by
  unfold streamB bitsB at h
  simp only [Bool.and_eq_true, decide_eq_true_eq, List.all_eq_true] at h
  obtain ⟨⟨⟨b1, b2⟩, b3⟩, _⟩ := h
  unfold bitOf
  by_cases hk : k < l1.length
  · rw [if_pos hk]
    have : l1.getD k 0 = l1[k] := by simp [List.getD, hk]
    rw [this]; exact b1 _ (List.getElem_mem hk)
  · rw [if_neg hk]
    have hm : (k - l1.length) % l2.length < l2.length := Nat.mod_lt _ (by omega)
    have : l2.getD ((k - l1.length) % l2.length) 0 = l2[(k - l1.length) % l2.length] := by simp [List.getD, hm]
    rw [this]; exact b2 _ (List.getElem_mem hm)
theorem bitsOf_bits {l1 l2 : List Int} (h : streamB l1 l2 = true) (a n : Nat) : bitsB (bitsOf (bitOf l1 l2) a n) = true := by
  unfold bitsB bitsOf
  rw [List.all_eq_true]
  intro x hx
  obtain ⟨i, _, rfl⟩ := List.mem_map.1 hx
  exact bitOf_bitB h _
theorem told_stream {l1 l2 : List Int} (h : streamB l1 l2 = true) {a g : Nat} (ha : a ≤ l1.length) (hg : 0 < g) (hgl : g ≤ l2.length) : streamB (bitsOf (bitOf l1 l2) 0 a) (bitsOf (bitOf l1 l2) a g) = true := by
  have h2 := h
  unfold streamB at h2 ⊢
  simp only [Bool.and_eq_true, decide_eq_true_eq] at h2
  rw [bitsOf_bits h, bitsOf_bits h, bitsOf_len, bitsOf_len, decide_eq_true (by omega), decide_eq_true (by omega)]; rfl
theorem told_iff {l1 l2 : List Int} (h : streamB l1 l2 = true) {a g : Nat} (ha : a ≤ l1.length) (hg : 0 < g) (hgl : g ≤ l2.length) : SameP (bitsOf (bitOf l1 l2) 0 a) (bitsOf (bitOf l1 l2) a g) l1 l2 ↔ Per (bitOf l1 l2) a g :=
  ⟨fun hs => (told_same hg).1 hs.2.2, fun hp => ⟨told_stream h ha hg hgl, h, (told_same hg).2 hp⟩⟩
theorem bitAt_at {l1 l2 : List Int} (h : streamB l1 l2 = true) {k : Nat} (hk : k ≤ 999) : bitAtI l1 l2 k = bitOf l1 l2 k := by
  have : (streamB l1 l2 && (decide (0 ≤ (k : Int)) && decide ((k : Int) ≤ 999))) = true := by rw [h]; simp; omega
  unfold bitAtI; rw [if_pos this]; simp
theorem below_app2 {W w w1 : World} {o : Obj} {r : Option Nat} (h : Below W.heap.size W w) (hg : (w.alloc o).grownBy w1 r) (hr : ∀ k, r = some k → W.heap.size ≤ k) : Below W.heap.size W w1 :=
  (h.alloc h.size o).grown hg (by have := h.size; simp; omega) hr
end Go.Hyp
namespace Go.Proofs.Ytgfoolneophkcaa
open Go.RowKit Go.Hyp Go.Deep

set_option maxRecDepth 8000 in
set_option maxHeartbeats 4000000 in
theorem specShortOf_any (a1 a2 : Option Addr) (c1 c2 : Nat) (l1 l2 : List Int) (w : World) (B C : Nat) (h1 : RdI w B C a1 l1) (h2 : RdI w B C a2 l2) (hC : C ≤ w.heap.size) (hl1 : l1.length ≤ 1048576) (hl2 : l2.length ≤ 1048576) :
    Calls Try.prog 28 #[.agg #[.slice a1 l1.length c1, .slice a2 l2.length c2]] w fun e w' => ∃ m1 m2, ShortAns l1 l2 m1 m2 ∧ RetS 3 m1 m2 w e w' := by
  have hb := (below_alloc w (.cells #[.slice a1 l1.length c1, .slice a2 l2.length c2] 34)).alloc (by simp) (.cells #[.slice none 0 0, .slice none 0 0] 34)
  have b0 := alloc2 w (.cells #[.slice a1 l1.length c1, .slice a2 l2.length c2] 34) (.cells #[.slice none 0 0, .slice none 0 0] 34)
  have F1 := Lib.hid h1
  have F2 := Lib.hid h2
  have HB := Lib.hid hb
  have B0 := Lib.hid b0
  clear h1 h2 hb b0
  cases hy : streamB l1 l2
  · have HY := Lib.hid hy
    clear hy
    go_enter Try.func28, Try.ntmps28
    go_wp2_with fail
    refine (specStreamOk_any a1 a2 c1 c2 l1 l2 _ B C B C (F1.out.below HB.out hC) (F2.out.below HB.out hC) (by simp; omega) (by simp; omega) hl1 hl2).mono ?_
    rintro e w1 ⟨rfl, hb1⟩
    rw [HY.out]
    have x2 := hb1.blk B0.out.2 (by simp)
    obtain ⟨q1, q2, q3, q4⟩ := blk2 x2
    have X2 := Lib.hid x2
    have H1 := Lib.hid (below_trans HB.out (hb1.mono (by first | (simp; done) | (simp; omega))))
    have hlt := lt_of_block x2
    clear hb1 x2
    go_wp2_with fail
    have r0 := blk_set (.slice none 0 0) (i := 1) (blk_set (.slice none 0 0) (i := 0) X2.out)
    have r1 := (blk2 r0).1
    have r2 := (blk2 r0).2.1
    clear r0 q1 q2 q3 q4
    refine bodyPost_ret (v := .agg #[.slice none 0 0, .slice none 0 0]) (by simp [results, Try.results28, go_sem, r1, r2]) rfl ⟨[], [], .inr ⟨HY.out, rfl, rfl⟩, none, 0, none, 0, rfl, .inl ⟨rfl, rfl, rfl⟩, .inl ⟨rfl, rfl, rfl⟩, ?_, (H1.out.setCell (by simp) _).setCell (by simp) _⟩
    intro x y hx; cases hx
  · have HY := Lib.hid hy
    have hlen : l1.length + l2.length ≤ 12 ∧ 1 ≤ l2.length := by
      unfold streamB at hy
      simp only [Bool.and_eq_true, decide_eq_true_eq] at hy
      omega
    obtain ⟨hl12, hl20⟩ := hlen
    obtain ⟨f, hf⟩ : ∃ f, f = bitOf l1 l2 := ⟨_, rfl⟩
    have HF := Lib.hid hf
    have HPER : Hid (Per f l1.length l2.length) := Lib.hid (by rw [hf]; exact bitOf_per l1 l2)
    clear hy hf
    go_enter Try.func28, Try.ntmps28
    go_wp2_with fail
    refine (specStreamOk_any a1 a2 c1 c2 l1 l2 _ B C B C (F1.out.below HB.out hC) (F2.out.below HB.out hC) (by simp; omega) (by simp; omega) hl1 hl2).mono ?_
    rintro e w1 ⟨rfl, hb1⟩
    rw [HY.out]
    have X1 := Lib.hid (hb1.blk B0.out.1 (by simp; omega))
    have X2 := Lib.hid (hb1.blk B0.out.2 (by simp))
    have H1 := Lib.hid (below_trans HB.out (hb1.mono (by first | (simp; done) | (simp; omega))))
    have hz1 : w.heap.size + 2 ≤ w1.heap.size := by have := hb1.size; simpa using this
    obtain ⟨p1, p2, p3, p4⟩ := blk2 X1.out
    clear hb1 B0 HB
    go_wp2_with fail
    go_loopw [3] (fun av wr => ∃ a : Nat, a ≤ l1.length + 1 ∧ av = .int .i64 a ∧ (∀ a' g', a' < a → 0 < g' → g' ≤ l2.length → ¬ Per f a' g') ∧ wr.heap[w.heap.size]? = some (.cells #[.slice a1 l1.length c1, .slice a2 l2.length c2] 34 (0, 0)) ∧ wr.heap[w.heap.size + 1]? = some (.cells #[.slice none 0 0, .slice none 0 0] 34 (0, 0)) ∧ Below w.heap.size w wr) (fun av _ => l1.length + 1 - (intOf av).toNat)
    case atStart => exact ⟨0, Nat.zero_le _, rfl, fun a' g' h => absurd h (Nat.not_lt_zero _), X1.out, X2.out, H1.out⟩
    case round =>
      obtain ⟨a, ha, rfl, hno, x1, x2, hb⟩ := hrel
      obtain ⟨wa, hwa⟩ : ∃ v : World, v = wr := ⟨_, rfl⟩
      subst hwa
      obtain ⟨p1, p2, p3, p4⟩ := blk2 x1
      have HNO := Lib.hid hno
      have XA1 := Lib.hid x1
      have XA2 := Lib.hid x2
      have HBA := Lib.hid hb
      have hlta := lt_of_block x1
      clear hno x1 x2 hb X1 X2 H1
      by_cases hal : a ≤ l1.length
      · have hai : (a : Int) ≤ (l1.length : Int) := by omega
        go_wp2_with fail
        clear p1 p2 p3 p4
        go_loopw [4] (fun gv wr => ∃ g : Nat, 1 ≤ g ∧ g ≤ l2.length + 1 ∧ gv = .int .i64 g ∧ (∀ g', 0 < g' → g' < g → ¬ Per f a g') ∧ wr.heap[w.heap.size]? = some (.cells #[.slice a1 l1.length c1, .slice a2 l2.length c2] 34 (0, 0)) ∧ wr.heap[w.heap.size + 1]? = some (.cells #[.slice none 0 0, .slice none 0 0] 34 (0, 0)) ∧ Below w.heap.size w wr) (fun gv _ => l2.length + 1 - (intOf gv).toNat)
        case atStart => exact ⟨1, Nat.le_refl _, by omega, rfl, fun g' h h2 => by omega, XA1.out, XA2.out, HBA.out⟩
        case round =>
          obtain ⟨g, hg1, hg, rfl, hno, x1, x2, hb⟩ := hrel
          obtain ⟨wg, hwg⟩ : ∃ v : World, v = wr := ⟨_, rfl⟩
          subst hwg
          obtain ⟨p1, p2, p3, p4⟩ := blk2 x1
          have HNG := Lib.hid hno
          have XG1 := Lib.hid x1
          have XG2 := Lib.hid x2
          have HBG := Lib.hid hb
          have hltg := lt_of_block x1
          have hltg2 := lt_of_block x2
          clear hno x1 x2 hb XA1 XA2 HBA
          by_cases hgl : g ≤ l2.length
          · have hgi : (g : Int) ≤ (l2.length : Int) := by omega
            have XN := Lib.hid (blk_new (w := wg) (o := .cells #[.slice none 0 0, .slice none 0 0] 34 (0, 0)) rfl)
            have XN1 := Lib.hid (blk_old (o := .cells #[.slice none 0 0, .slice none 0 0] 34 (0, 0)) XG1.out)
            have XN2 := Lib.hid (blk_old (o := .cells #[.slice none 0 0, .slice none 0 0] 34 (0, 0)) XG2.out)
            have HBN := Lib.hid (HBG.out.alloc HBG.out.size (.cells #[.slice none 0 0, .slice none 0 0] 34 (0, 0)))
            have hXs : wg.heap.size < (wg.alloc (.cells #[.slice none 0 0, .slice none 0 0] 34 (0, 0))).heap.size := by simp
            have hX0 : w.heap.size + 1 < wg.heap.size := by omega
            go_wp2_with fail
            have HXS := Lib.hid hXs
            clear hXs p1 p2 p3 p4
            go_loopw [6] (fun kv wr => ∃ (k : Nat) (x : Option Addr) (c : Nat) (L : List Int), k ≤ a ∧ kv = .int .i64 k ∧ L = bitsOf f 0 k ∧ wr.heap[wg.heap.size]? = some (.cells #[.slice x L.length c, .slice none 0 0] 34 (0, 0)) ∧ OwI wr 3 (wg.heap.size + 1) wr.heap.size x c L ∧ wg.heap.size < wr.heap.size ∧ wr.heap[w.heap.size]? = some (.cells #[.slice a1 l1.length c1, .slice a2 l2.length c2] 34 (0, 0)) ∧ wr.heap[w.heap.size + 1]? = some (.cells #[.slice none 0 0, .slice none 0 0] 34 (0, 0)) ∧ Below w.heap.size w wr) (fun kv _ => a - (intOf kv).toNat)
            case atStart => exact ⟨0, none, 0, [], Nat.zero_le _, rfl, rfl, XN.out, .inl ⟨rfl, rfl, rfl⟩, HXS.out, XN1.out, XN2.out, HBN.out⟩
            case round =>
              obtain ⟨k, x, c, L, hk, rfl, hL, xo, ho, hX1, x1, x2, hb⟩ := hrel
              obtain ⟨wk, hwk⟩ : ∃ v : World, v = wr := ⟨_, rfl⟩
              subst hwk
              clear XN XN1 XN2 HBN HXS XG1 XG2 HBG
              have HLE := Lib.hid hL
              have XK := Lib.hid xo
              have HOK := Lib.hid ho
              have XK1 := Lib.hid x1
              have XK2 := Lib.hid x2
              have HBK := Lib.hid hb
              have hlen : L.length = k := by rw [hL, bitsOf_len]
              obtain ⟨p1, p2, p3, p4⟩ := blk2 x1
              obtain ⟨q1, q2, q3, q4⟩ := blk2 xo
              have hltk := lt_of_block x1
              have hltk2 := lt_of_block x2
              have hltX := lt_of_block xo
              have hlL : L.length ≤ 12 := by omega
              clear hlen hL xo ho x1 x2 hb
              by_cases hlt : k < a
              · have hli : ((k : Nat) : Int) < (a : Int) := by omega
                have HA : Hid (bitAtI l1 l2 (k : Nat) = f k) := Lib.hid (by rw [HF.out]; exact bitAt_at HY.out (by omega))
                obtain ⟨v, hv⟩ : ∃ v, v = f k := ⟨_, rfl⟩
                rw [← hv] at HA
                have HV : Hid (bitsOf f 0 (k + 1) = L ++ [v]) := Lib.hid (by rw [bitsOf_succ, HLE.out, hv]; rw [Nat.zero_add])
                have hCk : C ≤ wk.heap.size := Nat.le_trans hC HBK.out.size
                have G1 := Lib.hid (F1.out.below HBK.out.drew hC)
                have G2 := Lib.hid (F2.out.below HBK.out.drew hC)
                have HRR : Hid (∀ q, blockOf x = some q → w.heap.size ≤ q) := Lib.hid fun q hq => by have := HOK.out.block_in hq; omega
                have HN0 := Lib.hid (HOK.out.not_block (k := w.heap.size) (by omega))
                have HN1 := Lib.hid (HOK.out.not_block (k := w.heap.size + 1) (by omega))
                have HNX := Lib.hid (HOK.out.not_block (k := wg.heap.size) (by omega))
                clear hv
                go_wp2_with fail
                go_region_law (first
                    | (refine step_appI Try.underlying29 Try.infoInt _ (by rfl) _ _ (by rfl) (wg.heap.size + 1) wk.heap.size x c L ?_ HO2A.out hB2A ⟨w2.heap.size, 0, none⟩ v ?_ ?_ hL2A ?_
                       · rfl
                       · rfl
                       · exact new_cell _ _ _
                       go_loud (
                       intro gg cap' w3 hown3 hgrow hat hlt3
                       have hb1 := grown_blk hgrow (blk_old Y1.out) HN0.out
                       have hb2' := grown_blk hgrow (blk_old Y2.out) HN1.out
                       have hbX := grown_blk hgrow (blk_old YX.out) HNX.out
                       obtain ⟨p1, p2, p3, p4⟩ := blk2 hb1
                       obtain ⟨q1, q2, q3, q4⟩ := blk2 hbX
                       have Z1 := Lib.hid hb1
                       have Z2 := Lib.hid hb2'
                       have ZX := Lib.hid hbX
                       have HO3 := Lib.hid hown3
                       have hz3 : w2.heap.size ≤ w3.heap.size := by have := hgrow.size; simp at this; omega
                       have HB3 := Lib.hid (below_app2 HB2.out hgrow HRR.out)
                       skip
                       clear hb1 hb2' hbX hown3 hgrow))
                    | (go_simp
                       go_at_call 69
                       refine (specBitAt_any a1 a2 c1 c2 l1 l2 (k : Nat) _ B C B C (by exact G1.out) (by exact G2.out) (by exact hCk) (by exact hCk) hl1 hl2).mono ?_
                       rintro e2 w2 ⟨rfl, hb2⟩
                       rw [HA.out]
                       replace hb2 := undrew hb2
                       have Y1 := Lib.hid (hb2.blk XK1.out hltk)
                       have Y2 := Lib.hid (hb2.blk XK2.out hltk2)
                       have YX := Lib.hid (hb2.blk XK.out hltX)
                       obtain ⟨p1, p2, p3, p4⟩ := blk2 Y1.out
                       obtain ⟨q1, q2, q3, q4⟩ := blk2 YX.out
                       have hz2 : wk.heap.size ≤ w2.heap.size := hb2.size
                       have hX2 : wg.heap.size < w2.heap.size := Nat.lt_of_lt_of_le hltX hz2
                       have hX3 : w.heap.size < w2.heap.size := Nat.lt_of_lt_of_le hltk hz2
                       have HO2 := Lib.hid (HOK.out.below hb2 (Nat.le_refl _))
                       have HB2 := Lib.hid (HBK.out.trans (hb2.mono HBK.out.size))
                       have HO2A := Lib.hid (HO2.out.agr ((Agr.refl _ _ w2).alloc hz2 (.cells #[.int .i64 v] 3)))
                       have hB2A : (wg.heap.size + 1) ≤ (w2.alloc (.cells #[.int .i64 v] 3)).heap.size := by simp; omega
                       have hL2A : L.length ≤ 1048576 := by omega
                       have HBB := Lib.hid hb2
                       clear hb2))
                all_goals
                  go_wp2_with fail
                  go_roundw
                  case rel =>
                    have hl : (L ++ [v]).length = L.length + 1 := by simp
                    refine ⟨k + 1, some ⟨gg, 0, none⟩, cap', L ++ [v], by omega, by go_num, HV.out.symm, by rw [hl]; exact blk_set _ ZX.out, (HO3.out.agr ((Agr.refl _ _ _).set (by omega) _)).mono (Nat.le_refl _) (by simp), by simp; omega, blk_set_other _ Z1.out (by omega), blk_set_other _ Z2.out (by omega), HB3.out.setCell (by simp; omega) _⟩
                  case measure => simp [intOf]; omega
              · obtain rfl : a = k := by omega
                obtain ⟨Y, hY⟩ : ∃ Y, Y = wk.heap.size := ⟨_, rfl⟩
                have hXY : wg.heap.size < Y := by omega
                have hYs : Y ≤ wk.heap.size := by omega
                rw [← hY] at HOK
                clear hY p1 p2 p3 p4 q1 q2 q3 q4
                have HLA := HLE
                clear HLE
                go_wp2_with fail
                go_loopw [7] (fun kv wr => ∃ (j : Nat) (y : Option Addr) (e : Nat) (M : List Int), j ≤ g ∧ kv = .int .i64 (a + j : Nat) ∧ M = bitsOf f a j ∧ wr.heap[wg.heap.size]? = some (.cells #[.slice x L.length c, .slice y M.length e] 34 (0, 0)) ∧ OwI wr 3 Y wr.heap.size y e M ∧ OwI wr 3 (wg.heap.size + 1) Y x c L ∧ Y ≤ wr.heap.size ∧ wr.heap[w.heap.size]? = some (.cells #[.slice a1 l1.length c1, .slice a2 l2.length c2] 34 (0, 0)) ∧ wr.heap[w.heap.size + 1]? = some (.cells #[.slice none 0 0, .slice none 0 0] 34 (0, 0)) ∧ Below w.heap.size w wr) (fun kv _ => a + g - (intOf kv).toNat)
                case atStart => exact ⟨0, none, 0, [], Nat.zero_le _, int_eq (by omega), rfl, XK.out, .inl ⟨rfl, rfl, rfl⟩, HOK.out, hYs, XK1.out, XK2.out, HBK.out⟩
                case round =>
                  obtain ⟨j, y, e, M, hj, rfl, hM, xo, ho, hoL, hY1, x1, x2, hb⟩ := hrel
                  obtain ⟨wk, hwk⟩ : ∃ v : World, v = wr := ⟨_, rfl⟩
                  subst hwk
                  clear XK XK1 XK2 HBK HOK
                  have HLE := Lib.hid hM
                  have XK := Lib.hid xo
                  have HOK := Lib.hid ho
                  have XK1 := Lib.hid x1
                  have XK2 := Lib.hid x2
                  have HBK := Lib.hid hb
                  have hlen : M.length = j := by rw [hM, bitsOf_len]
                  obtain ⟨p1, p2, p3, p4⟩ := blk2 x1
                  obtain ⟨q1, q2, q3, q4⟩ := blk2 xo
                  have hltk := lt_of_block x1
                  have hltk2 := lt_of_block x2
                  have hltX := lt_of_block xo
                  have hlL : M.length ≤ 12 := by omega
                  clear hlen hM xo ho x1 x2 hb
                  have HOL := Lib.hid hoL
                  clear hoL
                  by_cases hlt : j < g
                  · have hli : (((a + j) : Nat) : Int) < (a : Int) + (g : Int) := by omega
                    have HA : Hid (bitAtI l1 l2 ((a + j) : Nat) = f (a + j)) := Lib.hid (by rw [HF.out]; exact bitAt_at HY.out (by omega))
                    obtain ⟨v, hv⟩ : ∃ v, v = f (a + j) := ⟨_, rfl⟩
                    rw [← hv] at HA
                    have HV : Hid (bitsOf f a (j + 1) = M ++ [v]) := Lib.hid (by rw [bitsOf_succ, HLE.out, hv])
                    have hCk : C ≤ wk.heap.size := Nat.le_trans hC HBK.out.size
                    have G1 := Lib.hid (F1.out.below HBK.out.drew hC)
                    have G2 := Lib.hid (F2.out.below HBK.out.drew hC)
                    have HRR : Hid (∀ q, blockOf y = some q → w.heap.size ≤ q) := Lib.hid fun q hq => by have := HOK.out.block_in hq; omega
                    have HN0 := Lib.hid (HOK.out.not_block (k := w.heap.size) (by omega))
                    have HN1 := Lib.hid (HOK.out.not_block (k := w.heap.size + 1) (by omega))
                    have HNX := Lib.hid (HOK.out.not_block (k := wg.heap.size) (by omega))
                    clear hv
                    go_wp2_with fail
                    go_region_law (first
                        | (refine step_appI Try.underlying29 Try.infoInt _ (by rfl) _ _ (by rfl) Y wk.heap.size y e M ?_ HO2A.out hB2A ⟨w2.heap.size, 0, none⟩ v ?_ ?_ hL2A ?_
                           · rfl
                           · rfl
                           · exact new_cell _ _ _
                           go_loud (
                           intro gg cap' w3 hown3 hgrow hat hlt3
                           have hb1 := grown_blk hgrow (blk_old Y1.out) HN0.out
                           have hb2' := grown_blk hgrow (blk_old Y2.out) HN1.out
                           have hbX := grown_blk hgrow (blk_old YX.out) HNX.out
                           obtain ⟨p1, p2, p3, p4⟩ := blk2 hb1
                           obtain ⟨q1, q2, q3, q4⟩ := blk2 hbX
                           have Z1 := Lib.hid hb1
                           have Z2 := Lib.hid hb2'
                           have ZX := Lib.hid hbX
                           have HO3 := Lib.hid hown3
                           have hz3 : w2.heap.size ≤ w3.heap.size := by have := hgrow.size; simp at this; omega
                           have HB3 := Lib.hid (below_app2 HB2.out hgrow HRR.out)
                           have HL3 := Lib.hid ((HOL.out.below HBB.out hY1).agr (fun b g1 g2 => (hgrow.block b (by simp; omega) (fun e => by have := HOK.out.block_in e.symm; omega)).trans (Below.heap_alloc _ _ _ (by omega))))
                           clear hb1 hb2' hbX hown3 hgrow))
                        | (go_simp
                           go_at_call 69
                           refine (specBitAt_any a1 a2 c1 c2 l1 l2 ((a + j) : Nat) _ B C B C (by exact G1.out) (by exact G2.out) (by exact hCk) (by exact hCk) hl1 hl2).mono ?_
                           rintro e2 w2 ⟨rfl, hb2⟩
                           rw [HA.out]
                           replace hb2 := undrew hb2
                           have Y1 := Lib.hid (hb2.blk XK1.out hltk)
                           have Y2 := Lib.hid (hb2.blk XK2.out hltk2)
                           have YX := Lib.hid (hb2.blk XK.out hltX)
                           obtain ⟨p1, p2, p3, p4⟩ := blk2 Y1.out
                           obtain ⟨q1, q2, q3, q4⟩ := blk2 YX.out
                           have hz2 : wk.heap.size ≤ w2.heap.size := hb2.size
                           have hX2 : wg.heap.size < w2.heap.size := Nat.lt_of_lt_of_le hltX hz2
                           have hX3 : w.heap.size < w2.heap.size := Nat.lt_of_lt_of_le hltk hz2
                           have HO2 := Lib.hid (HOK.out.below hb2 (Nat.le_refl _))
                           have HB2 := Lib.hid (HBK.out.trans (hb2.mono HBK.out.size))
                           have HO2A := Lib.hid (HO2.out.agr ((Agr.refl _ _ w2).alloc hz2 (.cells #[.int .i64 v] 3)))
                           have hB2A : Y ≤ (w2.alloc (.cells #[.int .i64 v] 3)).heap.size := by simp; omega
                           have hL2A : M.length ≤ 1048576 := by omega
                           have HBB := Lib.hid hb2
                           clear hb2))
                    all_goals
                      go_wp2_with fail
                      go_roundw
                      case rel =>
                        have hl : (M ++ [v]).length = M.length + 1 := by simp
                        refine ⟨j + 1, some ⟨gg, 0, none⟩, cap', M ++ [v], by omega, by go_num, HV.out.symm, by rw [hl]; exact blk_set _ ZX.out, (HO3.out.agr ((Agr.refl _ _ _).set (by omega) _)).mono (Nat.le_refl _) (by simp), HL3.out.agr ((Agr.refl _ _ _).set (by omega) _), by simp; omega, blk_set_other _ Z1.out (by omega), blk_set_other _ Z2.out (by omega), HB3.out.setCell (by simp; omega) _⟩
                      case measure => simp [intOf]; omega
                  · obtain rfl : j = g := by omega
                    have hnl : ¬ (((a + j : Nat) : Int) < (a : Int) + (j : Int)) := by omega
                    have HSI := told_iff HY.out hal (show 0 < j by omega) hgl
                    rw [← HF.out, ← HLA.out, ← HLE.out] at HSI
                    have HSI' := Lib.hid HSI
                    have RL := Lib.hid (HOL.out.rd.mono (Nat.zero_le _) hY1)
                    have RM := Lib.hid (HOK.out.rd.mono (Nat.zero_le _) (Nat.le_refl _))
                    have RA := Lib.hid ((F1.out.below HBK.out hC).mono (Nat.zero_le _) (Nat.le_trans hC HBK.out.size))
                    have RB := Lib.hid ((F2.out.below HBK.out hC).mono (Nat.zero_le _) (Nat.le_trans hC HBK.out.size))
                    have hL12 : L.length ≤ 1048576 := by rw [HLA.out, bitsOf_len]; omega
                    have hM12 : M.length ≤ 1048576 := by rw [HLE.out, bitsOf_len]; omega
                    clear HSI
                    go_wp2_with fail
                    refine (specSame_any x y a1 a2 c e c1 c2 L M l1 l2 wk 0 wk.heap.size RL.out RM.out RA.out RB.out (Nat.le_refl _) hL12 hM12 hl1 hl2).mono ?_
                    rintro ev w5 ⟨b, rfl, hbs, hb5⟩
                    have Y1 := Lib.hid (hb5.blk XK1.out hltk)
                    have Y2 := Lib.hid (hb5.blk XK2.out hltk2)
                    have YX := Lib.hid (hb5.blk XK.out hltX)
                    have HO5 := Lib.hid (HOK.out.below hb5 (Nat.le_refl _))
                    have HL5 := Lib.hid (HOL.out.below hb5 hY1)
                    have HB5 := Lib.hid (HBK.out.trans (hb5.mono HBK.out.size))
                    have hz5 := hb5.size
                    have HBS := Lib.hid (hbs.trans HSI'.out)
                    clear hbs hb5 p1 p2 p3 p4 q1 q2 q3 q4 RL RM RA RB
                    cases b
                    · have HNP : Hid (¬ Per f a j) := Lib.hid fun h => by have := HBS.out.2 h; cases this
                      go_wp2_with fail
                      go_roundw
                      case rel => exact ⟨j + 1, by omega, by omega, by go_num, fun g' h1 h2 => by
                        by_cases e : g' = j
                        · subst e; exact HNP.out
                        · exact HNG.out g' h1 (by omega), Y1.out, Y2.out, HB5.out⟩
                      case measure => simp [intOf]; omega
                    · have HP := Lib.hid (HBS.out.1 rfl)
                      have hSF := told_short (l2 := l2) (show 0 < j by omega) hgl HP.out HNO.out HNG.out
                      rw [← HLA.out, ← HLE.out] at hSF
                      have HSF := Lib.hid hSF
                      have HST := Lib.hid (told_stream HY.out hal (show 0 < j by omega) hgl)
                      obtain ⟨q1, q2, q3, q4⟩ := blk2 YX.out
                      obtain ⟨s1, s2, s3, s4⟩ := blk2 Y2.out
                      have hltY := lt_of_block Y2.out
                      have hltYX := lt_of_block YX.out
                      clear hSF HBS
                      go_wp2_with fail
                      have r0 := blk_set (.slice y M.length e) (i := 1) (blk_set (.slice x L.length c) (i := 0) Y2.out)
                      have r1 := (blk2 r0).1
                      have r2 := (blk2 r0).2.1
                      clear r0 q1 q2 q3 q4 s1 s2 s3 s4
                      refine bodyPost_ret (v := .agg #[.slice x L.length c, .slice y M.length e]) (by simp [results, Try.results28, go_sem, r1, r2]) rfl ⟨L, M, .inl ⟨HY.out, by rw [← HF.out]; exact HSF.out, by rw [HLA.out, bitsOf_len]; exact hal, by rw [HLE.out, bitsOf_len]; exact hgl, by rw [HLA.out, HLE.out, HF.out]; exact HST.out⟩, x, c, y, e, rfl, ?_, ?_, ?_, ?_⟩
                      · exact (HL5.out.agr (((Agr.refl _ _ _).set (by omega) _).set (by omega) _)).mono (by omega) (by simp; omega)
                      · exact (HO5.out.agr (((Agr.refl _ _ _).set (by omega) _).set (by omega) _)).mono (by omega) (by simp; omega)
                      · exact HOL.out.dis HOK.out (Nat.le_refl _)
                      · exact (HB5.out.setCell (by simp) _).setCell (by simp) _
          · obtain rfl : g = l2.length + 1 := by omega
            have hnl : ¬ (((l2.length + 1 : Nat) : Int) ≤ (l2.length : Int)) := by omega
            go_wp2_with fail
            go_roundw
            case rel => exact ⟨a + 1, by omega, by go_num, fun a' g' h1 h2 h3 => by
              by_cases e : a' = a
              · subst e; exact HNG.out g' h2 (by omega)
              · exact HNO.out a' g' (by omega) h2 h3, XG1.out, XG2.out, HBG.out⟩
            case measure => simp [intOf]; omega
      · exfalso
        exact HNO.out l1.length l2.length (by omega) (by omega) (Nat.le_refl _) HPER.out
end Go.Proofs.Ytgfoolneophkcaa
namespace Go.Proofs.Ytgfoolneophkcaa
open Go.RowKit Go.Hyp Go.Deep

set_option maxRecDepth 8000 in
set_option maxHeartbeats 1000000 in
theorem l20Stream_any (rb : Nat) (l : List Int) (p n : Nat) (w : World) (hr : Rdr w rb 92 l p) (hp : p ≤ 524288) (hn : n ≤ 1048576) :
    Calls Try.prog 73 #[.pointer (some ⟨rb, 0, none⟩), .int .i64 n] w (DrewS rb 92 l p 40 w) := by
  have hlt := hr.lt
  have b0 := alloc2 w (.cells #[.slice none 0 0, .slice none 0 0] 34) (.cells #[.slice none 0 0, .slice none 0 0] 34)
  have HB := Lib.hid b0
  have HR := Lib.hid (hr.below ((below_alloc w (.cells #[.slice none 0 0, .slice none 0 0] 34)).alloc (by simp) (.cells #[.slice none 0 0, .slice none 0 0] 34)) hlt)
  have HC := Lib.hid (((Chg.refl (· = rb) w).alloc (.cells #[.slice none 0 0, .slice none 0 0] 34)).alloc (.cells #[.slice none 0 0, .slice none 0 0] 34))
  clear b0 hr
  go_enter Try.func73, Try.ntmps73
  go_wp2_with fail
  refine (pick_rdr rb l p 3 _ HR.out (by omega) (by omega)).mono ?_
  rintro e w1 ⟨v, rfl, v0, v1, hr1, hc1, hz1⟩
  obtain ⟨k0, rfl⟩ := Int.eq_ofNat_of_zero_le v0
  have B1 := Lib.hid (hc1.blk HB.out.1 (by omega))
  have B2 := Lib.hid (hc1.blk HB.out.2 (by omega))
  have HR1 := Lib.hid hr1
  have HC1 := Lib.hid (HC.out.trans hc1)
  simp at hz1
  have HZ := Lib.hid hz1
  clear hc1 hr1 hz1 HB HR HC
  have hk0 : k0 ≤ 2 := by omega
  clear v1
  go_wp2_with fail
  go_loopw [6] (fun i wr => ∃ (k : Nat) (l1 : List Int) (a : Option Addr) (c p' : Nat), i = .int .i64 k ∧ k + l1.length ≤ 2 ∧ wr.heap[w.heap.size + 1]? = some (.cells #[.slice a l1.length c, .slice none 0 0] 34 (0, 0)) ∧
      wr.heap[w.heap.size]? = some (.cells #[.slice none 0 0, .slice none 0 0] 34 (0, 0)) ∧ OwI wr 3 (w.heap.size + 2) wr.heap.size a c l1 ∧ p ≤ p' ∧ p' + k ≤ p + 3 ∧ Rdr wr rb 92 l p' ∧ Chg (· = rb) w wr ∧ w.heap.size + 2 ≤ wr.heap.size) (fun i _ => (intOf i).toNat)
  case atStart => exact ⟨k0, [], none, 0, p + 1, rfl, by simpa using hk0, B2.out, B1.out, .inl ⟨rfl, rfl, rfl⟩, by omega, by omega, HR1.out, HC1.out, by have := HZ.out; omega⟩
  case round =>
    obtain ⟨k, l1, a, c, p', rfl, hk, hb2, hb1, ho, hp1, hp2, hr', hc', hz⟩ := hrel
    have HO := Lib.hid ho
    have HB1 := Lib.hid hb1
    have HB2 := Lib.hid hb2
    have HR' := Lib.hid hr'
    have HC' := Lib.hid hc'
    obtain ⟨q0, q1, q2, q3⟩ := blk2 hb2
    clear ho hb1 hb2 hr' hc' B1 B2 HR1 HC1 HZ
    by_cases h0 : 0 < k
    · go_wp2_with fail
      go_region_law (first
          | (refine step_appI Try.underlying29 Try.infoInt _ (by rfl) _ _ (by rfl) (w.heap.size + 2) wr.heap.size a c l1 (by rfl) (by exact HO2.out.agr ((Agr.refl _ _ _).alloc (by have := HZ2.out; omega) _)) (by simp; have := HZ2.out; omega) ⟨w2.heap.size, 0, none⟩ v (by rfl) (by exact new_cell _ _ _) (by omega) ?_
             intro g cap' w3 hown3 hgrow hat hlt3
             have hne := HO.out.not_block (k := w.heap.size + 1) (by omega)
             have hne0 := HO.out.not_block (k := w.heap.size) (by omega)
             have hb3 := grown_blk hgrow (blk_old B2'.out) hne
             obtain ⟨q0, q1, q2, q3⟩ := blk2 hb3
             have B3 := Lib.hid hb3
             have B3' := Lib.hid (grown_blk hgrow (blk_old B1'.out) hne0)
             have HO3 := Lib.hid hown3
             have hz3 : w.heap.size + 2 ≤ w3.heap.size := by have := hgrow.size; simp at this; omega
             have HC3 := Lib.hid ((HC2.out.alloc _).grown hgrow (fun k hk => .inr (by have := HO.out.block_in hk; omega)))
             have HR3 := Lib.hid (HR2.out.agr (fun k h1 h2 => ((hgrow.block k (by have := HZ2.out; simp; omega) (fun e => by have := HO.out.block_in e.symm; omega)).trans (Below.heap_alloc _ _ _ (by have := HZ2.out; omega)))))
             clear hb3 hown3 hgrow hne hne0)
          | (go_simp
             go_at_call 94
             refine (pick_rdr rb l p' 2 _ (by exact HR'.out) (by omega) (by omega)).mono ?_
             rintro e w2 ⟨v, rfl, v0, v1, hr2, hc2, hz2⟩
             replace hc2 := hc2.undrew
             have hz2' : w2.heap.size = wr.heap.size := hz2
             have hb2' := hc2.blk (k := w.heap.size + 1) HB2.out (by omega)
             have hb1' := hc2.blk (k := w.heap.size) HB1.out (by omega)
             have hlt2 : w.heap.size + 1 < w2.heap.size := by omega
             obtain ⟨q0, q1, q2, q3⟩ := blk2 hb2'
             have B2' := Lib.hid hb2'
             have B1' := Lib.hid hb1'
             have HR2 := Lib.hid hr2
             have HC2 := Lib.hid (HC'.out.trans hc2)
             have HO2 := Lib.hid (HO.out.agr (hc2.agr (Nat.le_refl _) (fun k h1 h2 => by omega)))
             have HZ2 := Lib.hid hz2'
             clear hr2 hc2 hb1' hb2' hz2 hz2'))
      all_goals
        go_wp2_with fail
        go_roundw
        case rel =>
          have hl : (l1 ++ [v]).length = l1.length + 1 := by simp
          refine ⟨k - 1, l1 ++ [v], some ⟨g, 0, none⟩, cap', p' + 1, int_eq (by omega), by omega, by rw [hl]; exact blk_set _ B3.out, blk_set_other _ B3'.out (by omega), ?_, by omega, by omega, HR3.out.agr ((Agr.refl _ _ _).set (by omega) _), HC3.out.set (.inr (by omega)) _, ?_⟩
          · exact (HO3.out.agr ((Agr.refl _ _ _).set (by omega) _)).mono (Nat.le_refl _) (by simp)
          · simp; omega
        case measure => simp [intOf]; omega
    · obtain rfl : k = 0 := by omega
      have RA := Lib.hid HO.out.rd
      have hX0 := hz
      go_wp2_with fail
      refine (pick_rdr rb l p' 4 _ HR'.out (by omega) (by omega)).mono ?_
      rintro e w1' ⟨v, rfl, v0, v1, hr1, hc1, hz1⟩
      obtain ⟨k1, rfl⟩ := Int.eq_ofNat_of_zero_le v0
      have HB2' := Lib.hid (hc1.blk HB2.out (by omega))
      have HB1' := Lib.hid (hc1.blk HB1.out (by omega))
      have HR1 := Lib.hid hr1
      have HC1 := Lib.hid (HC'.out.trans hc1)
      have RA' := Lib.hid (RA.out.agr (hc1.agr (Nat.le_refl _) (fun k h1 h2 => by omega)))
      have hX : w.heap.size + 2 ≤ w1'.heap.size := by omega
      have HZ1 := Lib.hid hz1
      have hk1 : k1 ≤ 3 := by omega
      clear hc1 hr1 v1 hX0 hz1 HB1 HB2 HR' HC' HO RA q0 q1 q2 q3 hz
      generalize hXe : wr.heap.size = X at RA' HZ1
      have HXe := Lib.hid hXe
      have hX2 : w.heap.size + 2 ≤ X := by have := HZ1.out; omega
      clear hXe
      go_wp2_with fail
      go_loopw [7] (fun i wr => ∃ (k : Nat) (l2 : List Int) (a2 : Option Addr) (c2 p2 : Nat), i = .int .i64 k ∧ k + l2.length ≤ 4 ∧ 1 ≤ k + l2.length ∧ wr.heap[w.heap.size + 1]? = some (.cells #[.slice a l1.length c, .slice a2 l2.length c2] 34 (0, 0)) ∧
          wr.heap[w.heap.size]? = some (.cells #[.slice none 0 0, .slice none 0 0] 34 (0, 0)) ∧ OwI wr 3 X wr.heap.size a2 c2 l2 ∧ RdI wr (w.heap.size + 2) X a l1 ∧ p ≤ p2 ∧ p2 + k ≤ p + 8 ∧ Rdr wr rb 92 l p2 ∧ Chg (· = rb) w wr ∧ X ≤ wr.heap.size) (fun i _ => (intOf i).toNat)
      case atStart => exact ⟨k1 + 1, [], none, 0, p' + 1, int_eq (by omega), by simp; omega, by omega, HB2'.out, HB1'.out, .inl ⟨rfl, rfl, rfl⟩, RA'.out, by omega, by omega, HR1.out, HC1.out, by have := HZ1.out; omega⟩
      case round =>
        obtain ⟨k, l2, a2, c2, p2, rfl, hk2, hk3, hb2, hb1, ho, hrd, hp3, hp4, hr', hc', hz⟩ := hrel
        have HO := Lib.hid ho
        have HRD := Lib.hid hrd
        have HB1 := Lib.hid hb1
        have HB2 := Lib.hid hb2
        have HR' := Lib.hid hr'
        have HC' := Lib.hid hc'
        obtain ⟨q0, q1, q2, q3⟩ := blk2 hb2
        clear ho hb1 hb2 hr' hc' hrd HB1' HB2' HR1 HC1 HZ1 RA'
        by_cases h0 : 0 < k
        · go_wp2_with fail
          go_region_law (first
              | (refine step_appI Try.underlying29 Try.infoInt _ (by rfl) _ _ (by rfl) X wr.heap.size a2 c2 l2 (by rfl) (by exact HO2.out.agr ((Agr.refl _ _ _).alloc (by have := HZ2.out; omega) _)) (by simp; have := HZ2.out; omega) ⟨w2.heap.size, 0, none⟩ v (by rfl) (by exact new_cell _ _ _) (by omega) ?_
                 intro g cap' w3 hown3 hgrow hat hlt3
                 have hne := HO.out.not_block (k := w.heap.size + 1) (by omega)
                 have hne0 := HO.out.not_block (k := w.heap.size) (by omega)
                 have hb3 := grown_blk hgrow (blk_old B2'.out) hne
                 obtain ⟨q0, q1, q2, q3⟩ := blk2 hb3
                 have B3 := Lib.hid hb3
                 have B3' := Lib.hid (grown_blk hgrow (blk_old B1'.out) hne0)
                 have HO3 := Lib.hid hown3
                 have hz3 : X ≤ w3.heap.size := by have := hgrow.size; simp at this; have := HZ2.out; omega
                 have HC3 := Lib.hid ((HC2.out.alloc _).grown hgrow (fun k hk => .inr (by have := HO.out.block_in hk; omega)))
                 have HRD3 := Lib.hid (HRD2.out.agr (fun k h1 h2 => ((hgrow.block k (by have := HZ2.out; simp; omega) (fun e => by have := HO.out.block_in e.symm; omega)).trans (Below.heap_alloc _ _ _ (by have := HZ2.out; omega)))))
                 have HR3 := Lib.hid (HR2.out.agr (fun k h1 h2 => ((hgrow.block k (by have := HZ2.out; simp; omega) (fun e => by have := HO.out.block_in e.symm; omega)).trans (Below.heap_alloc _ _ _ (by have := HZ2.out; omega)))))
                 clear hb3 hown3 hgrow hne hne0)
              | (go_simp
                 go_at_call 94
                 refine (pick_rdr rb l p2 2 _ (by exact HR'.out) (by omega) (by omega)).mono ?_
                 rintro e w2 ⟨v, rfl, v0, v1, hr2, hc2, hz2⟩
                 replace hc2 := hc2.undrew
                 have hz2' : w2.heap.size = wr.heap.size := hz2
                 have hb2' := hc2.blk (k := w.heap.size + 1) HB2.out (by omega)
                 have hb1' := hc2.blk (k := w.heap.size) HB1.out (by omega)
                 have hlt2 : w.heap.size + 1 < w2.heap.size := by omega
                 obtain ⟨q0, q1, q2, q3⟩ := blk2 hb2'
                 have B2' := Lib.hid hb2'
                 have B1' := Lib.hid hb1'
                 have HR2 := Lib.hid hr2
                 have HC2 := Lib.hid (HC'.out.trans hc2)
                 have HO2 := Lib.hid (HO.out.agr (hc2.agr (Nat.le_refl _) (fun k h1 h2 => by omega)))
                 have HRD2 := Lib.hid (HRD.out.agr (hc2.agr hz (fun k h1 h2 => by omega)))
                 have HZ2 := Lib.hid hz2'
                 clear hr2 hc2 hb1' hb2' hz2 hz2'))
          all_goals
            go_wp2_with fail
            go_roundw
            case rel =>
              have hl : (l2 ++ [v]).length = l2.length + 1 := by simp
              refine ⟨k - 1, l2 ++ [v], some ⟨g, 0, none⟩, cap', p2 + 1, int_eq (by omega), by omega, by omega, by rw [hl]; exact blk_set _ B3.out, blk_set_other _ B3'.out (by omega), ?_, HRD3.out.agr ((Agr.refl _ _ _).set (by omega) _), by omega, by omega, HR3.out.agr ((Agr.refl _ _ _).set (by omega) _), HC3.out.set (.inr (by omega)) _, by simpa using hz3⟩
              exact (HO3.out.agr ((Agr.refl _ _ _).set (by omega) _)).mono (Nat.le_refl _) (by simp)
            case measure => simp [intOf]; omega
        · obtain rfl : k = 0 := by omega
          go_wp2_with fail
          refine (pick_rdr rb l p2 3 _ HR'.out (by omega) (by omega)).mono ?_
          rintro e w4 ⟨v, rfl, v0, v1, hr1, hc1, hz1⟩
          obtain ⟨k2, rfl⟩ := Int.eq_ofNat_of_zero_le v0
          have HB2' := Lib.hid (hc1.blk HB2.out (by omega))
          have HB1' := Lib.hid (hc1.blk HB1.out (by omega))
          have HR1 := Lib.hid hr1
          have HC1 := Lib.hid (HC'.out.trans hc1)
          have HO1 := Lib.hid (HO.out.agr (hc1.agr (Nat.le_refl _) (fun k h1 h2 => by omega)))
          have HRD1 := Lib.hid (HRD.out.agr (hc1.agr hz (fun k h1 h2 => by omega)))
          have hzX : X ≤ w4.heap.size := by omega
          have hlt4 : w.heap.size + 1 < w4.heap.size := by omega
          have HZ1 := Lib.hid hz1
          clear hc1 hr1 hz1 HB1 HB2 HR' HC' HO HRD q0 q1 q2 q3
          obtain ⟨q0, q1, q2, q3⟩ := blk2 HB2'.out
          go_upto_if 38 with (fail)
          go_cut [] from 38 (fun wc => ∃ (a3 : Option Addr) (c3 : Nat) (l3 : List Int), 1 ≤ l3.length ∧ l3.length ≤ 8 ∧ wc.heap[w.heap.size + 1]? = some (.cells #[.slice a l1.length c, .slice a3 l3.length c3] 34 (0, 0)) ∧
            wc.heap[w.heap.size]? = some (.cells #[.slice none 0 0, .slice none 0 0] 34 (0, 0)) ∧ OwI wc 3 X wc.heap.size a3 c3 l3 ∧ RdI wc (w.heap.size + 2) X a l1 ∧ Rdr wc rb 92 l (p2 + 1) ∧ Chg (· = rb) w wc ∧ X ≤ wc.heap.size)
          case first =>
            by_cases hk : k2 = 0
            · have hkb : ((k2 : Int) == 0) = true := beq_iff_eq.2 (by omega)
              have Hk := Lib.hid hk
              clear hk
              go_wp2_with fail
              go_region_law (first
              | (refine step_appIs Try.underlying29 Try.infoInt _ (by rfl) _ _ (by rfl) w4.heap.size (w4.heap.size + 1) (some ⟨w4.heap.size, 0, none⟩) 0 [] (by rfl) (by exact OwI_empty w4 3) (by simp) X wr.heap.size a2 c2 l2 (by rfl) (by exact HO1.out.rd.agr (((Agr.refl _ _ _).alloc (by have := HZ1.out; omega) _).drew)) (by exact HO1.out.nilcap) (by simp; omega) ?_
                 intro a3 c3 w6 hown6 hgrow6 hat6
                 have hbk : blockOf (some (⟨w4.heap.size, 0, none⟩ : Addr)) = some w4.heap.size := rfl
                 have hb6 := grown_blk hgrow6 (blk_old HB2'.out) (by rw [hbk]; simp; have := lt_of_block HB2'.out; omega)
                 have hb6' := grown_blk hgrow6 (blk_old HB1'.out) (by rw [hbk]; simp; have := lt_of_block HB1'.out; omega)
                 have hz6 : w4.heap.size + 1 ≤ w6.heap.size := by have := hgrow6.size; simpa using this
                 have HAG : Hid (Agr 0 w4.heap.size w4 w6) := fun k h1 h2 => (hgrow6.block k (by simp; omega) (by rw [hbk]; simp; omega)).trans (Below.heap_alloc _ _ _ h2)
                 obtain ⟨q0, q1, q2, q3⟩ := blk2 hb6
                 have B6 := Lib.hid hb6
                 have B6' := Lib.hid hb6'
                 have HO6 := Lib.hid hown6
                 have HC6 := Lib.hid ((HC1.out.alloc _).drew.grown hgrow6 (fun k hk => .inr (by rw [hbk] at hk; cases hk; have := HC1.out.size; omega)))
                 clear hb6 hb6' hown6 hgrow6)
              | (refine step_appIs Try.underlying29 Try.infoInt _ (by rfl) _ _ (by rfl) w4.heap.size w6.heap.size a3 c3 l2 (by rfl) (by exact HO6.out) (by omega) X wr.heap.size a2 c2 l2 (by rfl) (by exact HO1.out.rd.agr (HAG.out.mono (by omega) (by have := HZ1.out; omega))) (by exact HO1.out.nilcap) (by omega) ?_
                 intro a4 c4 w7 hown7 hgrow7 hat7
                 have hb7 := grown_blk hgrow7 B6.out (HO6.out.not_block (by have := lt_of_block HB2'.out; omega))
                 have hb7' := grown_blk hgrow7 B6'.out (HO6.out.not_block (by have := lt_of_block HB1'.out; omega))
                 have HAG7 : Hid (Agr 0 w4.heap.size w4 w7) := fun k h1 h2 => (hgrow7.block k (by omega) (fun e => by have := HO6.out.block_in e.symm; omega)).trans (HAG.out k h1 h2)
                 obtain ⟨q0, q1, q2, q3⟩ := blk2 hb7
                 have hz7 : w4.heap.size + 1 ≤ w7.heap.size := by have := hgrow7.size; omega
                 have B7 := Lib.hid hb7
                 have B7' := Lib.hid hb7'
                 have HO7 := Lib.hid hown7
                 have HC7 := Lib.hid (HC6.out.grown hgrow7 (fun k hk => .inr (by have := HO6.out.block_in hk; have := HC1.out.size; omega)))
                 clear hb7 hb7' hown7 hgrow7))
              all_goals
                go_wp2_with fail
                go_meet
                case rel =>
                  have hl : (([] ++ l2) ++ l2 : List Int).length = l2.length + l2.length := by simp
                  refine ⟨a4, c4, ([] ++ l2) ++ l2, by omega, by omega, by rw [hl]; exact blk_set _ B7.out, blk_set_other _ B7'.out (by omega), ?_, (HRD1.out.agr (HAG7.out.mono (by omega) (by omega))).agr ((Agr.refl _ _ _).set (by omega) _), ?_, HC7.out.set (.inr (by omega)) _, by simp; omega⟩
                  · exact (HO7.out.agr ((Agr.refl _ _ _).set (by omega) _)).mono (by omega) (by simp)
                  · exact (HR1.out.agr (HAG7.out.mono (by omega) (by omega))).agr ((Agr.refl _ _ _).set (by omega) _)
            · have hkb : ((k2 : Int) == 0) = false := beq_eq_false_iff_ne.2 (by omega)
              go_wp2_with fail
              go_meet
              case rel => exact ⟨a2, c2, l2, by omega, by omega, HB2'.out, HB1'.out, HO1.out.mono (Nat.le_refl _) (by have := HZ1.out; omega), HRD1.out, HR1.out, HC1.out, hzX⟩
          case rest =>
            obtain ⟨a3, c3, l3, hl3, hl3', hb2, hb1, ho, hrd, hr', hc', hz'⟩ := hcut
            have HB2 := Lib.hid hb2
            have HB1 := Lib.hid hb1
            have HO := Lib.hid ho
            have HRD := Lib.hid hrd
            have HR := Lib.hid hr'
            have HC := Lib.hid hc'
            clear hb2 hb1 ho hrd hr' hc' HB2' HB1' HR1 HC1 HO1 HRD1 HZ1 q0 q1 q2 q3
            go_wp2_with fail
            refine (odd_rdr rb l (p2 + 1) n wc HR.out (by omega) hn).mono ?_
            rintro e w5 ⟨bb, rfl, p3, hp5, hp6, hr5, hc5⟩
            have HB2a := Lib.hid (hc5.blk HB2.out (by omega))
            have HB1a := Lib.hid (hc5.blk HB1.out (by omega))
            have HR5 := Lib.hid hr5
            have HC5 := Lib.hid (HC.out.trans hc5)
            have HO5 := Lib.hid (HO.out.agr (hc5.agr (Nat.le_refl _) (fun k h1 h2 => by omega)))
            have HRD5 := Lib.hid (HRD.out.agr (hc5.agr hz' (fun k h1 h2 => by omega)))
            have HZ5 : Hid (wc.heap.size ≤ w5.heap.size) := hc5.size
            clear hc5 hr5 HB2 HB1 HO HRD HR HC
            obtain ⟨q0, q1, q2, q3⟩ := blk2 HB2a.out
            obtain ⟨t0, t1, t2, t3⟩ := blk2 HB1a.out
            cases bb
            · go_wp2_with fail
              obtain ⟨r0, r1, _, _⟩ := blk2 (blk_set (.slice a3 l3.length c3) (i := 1) (blk_set (.slice a l1.length c) (i := 0) HB1a.out))
              refine bodyPost_ret (v := .agg #[.slice a l1.length c, .slice a3 l3.length c3]) (by simp [results, Try.results73, go_sem, r0, r1]) rfl ⟨a, c, l1, a3, c3, l3, rfl, ?_, ?_, by omega, by omega, ⟨p3, by omega, by omega, ?_⟩, ?_⟩
              · exact (HRD5.out.agr (((Agr.refl _ _ _).set (by omega) _).set (by omega) _)).mono (by omega) (by have := HZ5.out; simp; omega)
              · exact (HO5.out.rd.agr (((Agr.refl _ _ _).set (by omega) _).set (by omega) _)).mono (by omega) (by have := HZ5.out; simp; omega)
              · exact HR5.out.agr (((Agr.refl _ _ _).set (by omega) _).set (by omega) _)
              · exact (HC5.out.set (.inr (by omega)) _).set (.inr (by omega)) _
            · go_wp2_with fail
              refine (pick_rdr rb l p3 3 _ HR5.out (by omega) (by omega)).mono ?_
              rintro e w6 ⟨v', rfl, v0', v1', hr6, hc6, hz6⟩
              have HB2b := Lib.hid (hc6.blk HB2a.out (by omega))
              have HB1b := Lib.hid (hc6.blk HB1a.out (by omega))
              have HR6 := Lib.hid hr6
              have HC6 := Lib.hid (HC5.out.trans hc6)
              have HO6 := Lib.hid (HO5.out.agr (hc6.agr HZ5.out (fun k h1 h2 => by omega)))
              have HRD6 := Lib.hid (HRD5.out.agr (hc6.agr (by have := HZ5.out; omega) (fun k h1 h2 => by omega)))
              have HZ6 := Lib.hid hz6
              clear hc6 hr6 hz6 HB2a HB1a HO5 HRD5 HR5 HC5 q0 q1 q2 q3 t0 t1 t2 t3
              obtain ⟨q0, q1, q2, q3⟩ := blk2 HB2b.out
              obtain ⟨t0, t1, t2, t3⟩ := blk2 HB1b.out
              have hlt6 : w.heap.size + 1 < w6.heap.size := by have := HZ6.out; have := HZ5.out; omega
              have hlt6' : w.heap.size < w6.heap.size := by omega
              have hwc6 : wc.heap.size ≤ w6.heap.size := by have := HZ6.out; have := HZ5.out; omega
              obtain rfl | rfl | rfl : v' = 0 ∨ v' = 1 ∨ v' = 2 := by omega
              · go_wp2_with fail
                obtain ⟨r0, r1, _, _⟩ := blk2 (blk_old (o := .cells #[] 3) (blk_set (.slice (some ⟨w6.heap.size, 0, none⟩) 0 0) (i := 1) (blk_set (.slice a l1.length c) (i := 0) (blk_set_other (i := 1) (k := w.heap.size + 1) (.slice (some ⟨w6.heap.size, 0, none⟩) 0 0) HB1b.out (by omega)))))
                refine bodyPost_ret (v := .agg #[.slice a l1.length c, .slice (some ⟨w6.heap.size, 0, none⟩) 0 0]) (by simp [results, Try.results73, go_sem, r0, r1]) rfl ⟨a, c, l1, some ⟨w6.heap.size, 0, none⟩, 0, [], rfl, ?_, fun i hi => by simp at hi, by omega, by simp, ⟨p3 + 1, by omega, by omega, ?_⟩, ?_⟩
                · exact (HRD6.out.agr (((((Agr.refl _ _ _).set (by omega) _).set (by omega) _).set (by omega) _).alloc (by simp; omega) _)).mono (by omega) (by simp; omega)
                · exact HR6.out.agr (((((Agr.refl _ _ _).set (by omega) _).set (by omega) _).set (by omega) _).alloc (by simp; omega) _)
                · exact (((HC6.out.set (.inr (by omega)) _).set (.inr (by omega)) _).set (.inr (by omega)) _).alloc _
              · obtain ⟨g, f, rfl, hg1, hg2, hrow, hgl, _, hf⟩ : ∃ g f, a3 = some ⟨g, 0, none⟩ ∧ X ≤ g ∧ g < wc.heap.size ∧ w6.rowIs g 3 c3 f ∧ l3.length ≤ c3 ∧ c3 ≤ maxLen ∧ ∀ i, i < l3.length → f i = .int .i64 (l3.getD i 0) := by
                  rcases HO6.out with ⟨_, h, _⟩ | h
                  · rw [h] at hl3; simp at hl3
                  · exact h
                have hd := hrow.cell (i := 0) (by omega)
                have hfz := hrow.frozen 0
                obtain ⟨x0, x1, x2, x3⟩ := blk2 (blk_set_other (i := 0) (k := g) (.int .i64 2) HB2b.out (by omega))
                obtain ⟨y0, y1, y2, y3⟩ := blk2 (blk_set_other (i := 0) (k := g) (.int .i64 2) HB1b.out (by omega))
                have Hrow := Lib.hid hrow
                have hcl0 : (0 : Int) < (l3.length : Int) := by omega
                clear hrow
                go_wp2_with fail
                obtain ⟨r0, r1, _, _⟩ := blk2 (blk_set (.slice (some ⟨g, 0, none⟩) l3.length c3) (i := 1) (blk_set (.slice a l1.length c) (i := 0) (blk_set_other (i := 0) (k := g) (.int .i64 2) HB1b.out (by omega))))
                have hlen : (l3.set 0 2).length = l3.length := by simp
                refine bodyPost_ret (v := .agg #[.slice a l1.length c, .slice (some ⟨g, 0, none⟩) l3.length c3]) (by simp [results, Try.results73, go_sem, r0, r1]) rfl ?_
                rw [← hlen]
                refine DrewS.of (p' := p3 + 1) ((HRD6.out.agr ((Agr.refl _ _ _).set (by omega) _)).mono (by omega) (by simp; omega)) ?_ (by omega) (by omega) (by omega) (by omega) (HR6.out.agr ((Agr.refl _ _ _).set (by omega) _)) (HC6.out.set (.inr (by omega)) _) hlt
                intro i hi
                refine ⟨g, 0, rfl, by omega, by simp; omega, ?_⟩
                rw [Nat.zero_add, (Hrow.out.set 0 _).cell (by omega)]
                by_cases hi0 : i = 0
                · subst hi0; rw [if_pos rfl]; simp [List.getD, show 0 < l3.length by omega]
                · rw [if_neg hi0, hf i (by omega)]; simp [List.getD, Ne.symm hi0]
              · have hmk : ∀ w, (Instr.makeSlice 29 (.int .i64 12) (.int .i64 12)).run Try.prog w = .ok (.slice (some ⟨w.heap.size, 0, none⟩) 12 12) (w.alloc (.cells (madeCells #[.int .i64 0] 12) 3)) :=
                  run_make_row' (P := Try.prog) 29 3 _ _ Try.underlying29 Try.infoInt rfl .i64 .i64 12 (by omega) (by omega)
                go_wp2_with fail
                obtain ⟨r0, r1, _, _⟩ := blk2 (blk_old (o := .cells (madeCells #[.int .i64 0] 12) 3) (blk_set (.slice a3 l3.length c3) (i := 1) (blk_set (.slice (some ⟨w6.heap.size, 0, none⟩) 12 12) (i := 0) (blk_set_other (i := 0) (k := w.heap.size + 1) (.slice (some ⟨w6.heap.size, 0, none⟩) 12 12) HB1b.out (by omega)))))
                refine bodyPost_ret (v := .agg #[.slice (some ⟨w6.heap.size, 0, none⟩) 12 12, .slice a3 l3.length c3]) (by simp [results, Try.results73, go_sem, r0, r1]) rfl ⟨some ⟨w6.heap.size, 0, none⟩, 12, List.replicate 12 0, a3, c3, l3, by simp, ?_, ?_, by simp, by omega, ⟨p3 + 1, by omega, by omega, ?_⟩, ?_⟩
                · intro i hi
                  have hi' : i < 12 := by simpa using hi
                  refine ⟨w6.heap.size, 0, rfl, by omega, by simp, ?_⟩
                  rw [Nat.zero_add, World.cell?_alloc_at _ _ _ _ (by simp)]
                  rw [show (List.replicate 12 (0 : Int)).getD i 0 = 0 from by unfold List.getD; rw [List.getElem?_replicate]; split <;> rfl]
                  simp [madeCells, hi', Nat.mod_one]
                · exact (HO6.out.rd.agr (((((Agr.refl _ _ _).set (by omega) _).set (by omega) _).set (by omega) _).alloc (by simp; omega) _)).mono (by omega) (by simp; omega)
                · exact HR6.out.agr (((((Agr.refl _ _ _).set (by omega) _).set (by omega) _).set (by omega) _).alloc (by simp; omega) _)
                · exact (((HC6.out.set (.inr (by omega)) _).set (.inr (by omega)) _).set (.inr (by omega)) _).alloc _
set_option maxHeartbeats 400000 in
theorem alive_any (w : World) : Calls Try.prog 31 #[] w fun e w' => e = .returned (.bool true) ∧ w = w' := by
  go_enter Try.func31, Try.ntmps31
  go_wp2
  go_ret
  exact ⟨ret_bool (by decide), rfl⟩
end Go.Proofs.Ytgfoolneophkcaa
namespace Go.Hyp
open Go.RowKit Go.Deep
/-- What PutAhead answers. -/
def PutAns (bit : Int) (l1 l2 m1 m2 : List Int) (b : Bool) : Prop :=
  (b = false ∧ m1 = [] ∧ m2 = [] ∧ (bitB bit = false ∨ streamB l1 l2 = false ∨ ∃ s1 s2, ShortFor (bitOf l1 l2) s1 s2 ∧ 12 ≤ s1.length + s2.length)) ∨
  (b = true ∧ bitB bit = true ∧ streamB l1 l2 = true ∧ ∃ s1 s2, ShortFor (bitOf l1 l2) s1 s2 ∧ s1.length + s2.length < 12 ∧ ShortFor (bitOf ([bit] ++ s1) s2) m1 m2 ∧ m1.length ≤ 12 ∧ m2.length ≤ 12)
theorem PutAns.one {bit : Int} {l1 l2 m1 m2 n1 n2 : List Int} {b c : Bool} (h : PutAns bit l1 l2 m1 m2 b) (k : PutAns bit l1 l2 n1 n2 c) : m1 = n1 ∧ m2 = n2 ∧ b = c := by
  rcases h with ⟨e1, e2, e3, h⟩ | ⟨e1, hb, hs, s1, s2, h1, h2, h3, _⟩ <;> rcases k with ⟨q1, q2, q3, k⟩ | ⟨q1, kb, ks, t1, t2, k1, k2, k3, _⟩
  · exact ⟨e2.trans q2.symm, e3.trans q3.symm, e1.trans q1.symm⟩
  · exfalso
    rcases h with h | h | ⟨s1, s2, h, h12⟩
    · rw [kb] at h; cases h
    · rw [ks] at h; cases h
    · obtain ⟨rfl, rfl⟩ := h.one k1; omega
  · exfalso
    rcases k with k | k | ⟨t1, t2, k, k12⟩
    · rw [hb] at k; cases k
    · rw [hs] at k; cases k
    · obtain ⟨rfl, rfl⟩ := h1.one k; omega
  · obtain ⟨rfl, rfl⟩ := h1.one k1
    obtain ⟨rfl, rfl⟩ := h3.one k3
    exact ⟨rfl, rfl, e1.trans q1.symm⟩
theorem PutAns.len {bit : Int} {l1 l2 m1 m2 : List Int} {b : Bool} (h : PutAns bit l1 l2 m1 m2 b) : m1.length ≤ 12 ∧ m2.length ≤ 12 := by
  rcases h with ⟨_, rfl, rfl, _⟩ | ⟨_, _, _, s1, s2, _, _, _, h⟩
  · simp
  · exact h
/-- A call that hands back a new stream and a Boolean. -/
def RetSB (E : Nat) (l1 l2 : List Int) (b : Bool) (w : World) (e : Ending) (w' : World) : Prop :=
  ∃ a1 c1 a2 c2, e = .returned (.tuple #[.agg #[.slice a1 l1.length c1, .slice a2 l2.length c2], .bool b]) ∧ OwI w' E w.heap.size w'.heap.size a1 c1 l1 ∧ OwI w' E w.heap.size w'.heap.size a2 c2 l2 ∧ Dis a1 a2 ∧ Below w.heap.size w w'
theorem RetSB.zero {E : Nat} {w w' : World} (h : Below w.heap.size w w') : RetSB E [] [] false w (.returned (.tuple #[.agg #[.slice none 0 0, .slice none 0 0], .bool false])) w' :=
  ⟨none, 0, none, 0, rfl, .inl ⟨rfl, rfl, rfl⟩, .inl ⟨rfl, rfl, rfl⟩, fun x y hx => (by cases hx), h⟩
theorem bit_or {bit : Int} (h : bitB bit = true) : bit = 0 ∨ bit = 1 := by
  unfold bitB at h; simpa using h
theorem ahead_stream {bit : Int} {l1 l2 s1 s2 : List Int} (hb : bitB bit = true) (hs : streamB l1 l2 = true) (h : ShortAns l1 l2 s1 s2) : streamB ([bit] ++ s1) s2 = decide (s1.length + s2.length < 12) ∧ ShortFor (bitOf l1 l2) s1 s2 ∧ 1 ≤ s2.length ∧ s1.length + s2.length ≤ 12 := by
  rcases h with ⟨_, hf, _, _, h⟩ | ⟨h0, _⟩
  · refine ⟨?_, hf, ?_, ?_⟩
    · have h2 := h
      unfold streamB at h2 ⊢
      simp only [Bool.and_eq_true, decide_eq_true_eq] at h2
      obtain ⟨⟨⟨b1, b2⟩, b3⟩, b4⟩ := h2
      have e : bitsB ([bit] ++ s1) = true := by
        unfold bitsB at b1 ⊢
        rw [List.all_append, b1]; simp [hb]
      rw [e, b2, decide_eq_true b3]
      by_cases hlt : s1.length + s2.length < 12
      · rw [decide_eq_true hlt, decide_eq_true (by simp; omega)]; rfl
      · rw [decide_eq_false hlt, decide_eq_false (by simp; omega)]; rfl
    · unfold streamB at h
      simp only [Bool.and_eq_true, decide_eq_true_eq] at h
      omega
    · unfold streamB at h
      simp only [Bool.and_eq_true, decide_eq_true_eq] at h
      omega
  · rw [hs] at h0; cases h0
end Go.Hyp
namespace Go.Hyp
open Go.RowKit Go.Deep
theorem OwI.tight {w : World} {E B C g cap : Nat} {l : List Int} (h : OwI w E B C (some ⟨g, 0, none⟩) cap l) : OwI w E g (g + 1) (some ⟨g, 0, none⟩) cap l := by
  rcases h with ⟨e, _⟩ | ⟨g', f, e, h1, h2, h3⟩
  · cases e
  · cases e; exact .inr ⟨g, f, rfl, Nat.le_refl _, Nat.lt_succ_self _, h3⟩
end Go.Hyp
namespace Go.Proofs.Ytgfoolneophkcaa
open Go.RowKit Go.Hyp Go.Deep

set_option maxRecDepth 8000 in
set_option maxHeartbeats 8000000 in
theorem implPutAhead_any (bit : Int) (a1 a2 : Option Addr) (c1 c2 : Nat) (l1 l2 : List Int) (w : World) (B C : Nat) (h1 : RdI w B C a1 l1) (h2 : RdI w B C a2 l2) (hC : C ≤ w.heap.size) (hn1 : l1.length ≤ 1048576) (hn2 : l2.length ≤ 1048576) :
    Calls Try.prog 36 #[.int .i64 bit, .agg #[.slice a1 l1.length c1, .slice a2 l2.length c2]] w fun e w' => ∃ m1 m2 b, PutAns bit l1 l2 m1 m2 b ∧ RetSB 3 m1 m2 b w e w' := by
  have H := Lib.hid ((below_alloc w (.cells #[.slice a1 l1.length c1, .slice a2 l2.length c2] 34)).alloc (by simp) (.cells #[.slice none 0 0, .slice none 0 0] 34))
  have F1 := Lib.hid h1
  have F2 := Lib.hid h2
  have b0 := alloc2 w (.cells #[.slice a1 l1.length c1, .slice a2 l2.length c2] 34) (.cells #[.slice none 0 0, .slice none 0 0] 34)
  have BA := Lib.hid b0.1
  have BR := Lib.hid b0.2
  clear h1 h2 b0
  cases hbt : bitB bit
  · have HBT := Lib.hid hbt
    have hb2 := hbt
    unfold bitB at hb2
    simp only [Bool.or_eq_false_iff, beq_eq_false_iff_ne] at hb2
    have t0 : (bit != 0) = true := by simp [hb2.1]
    have t1 : (bit != 1) = true := by simp [hb2.2]
    clear hbt hb2
    go_enter Try.func36, Try.ntmps36
    go_wp2_with fail
    have r1 := (blk2 BR.out).1
    have r2 := (blk2 BR.out).2.1
    refine bodyPost_ret (v := .tuple #[.agg #[.slice none 0 0, .slice none 0 0], .bool false]) (by simp [results, Try.results36, go_sem, r1, r2]) rfl ⟨[], [], false, .inl ⟨rfl, rfl, rfl, .inl HBT.out⟩, RetSB.zero H.out⟩
  · have HBT := Lib.hid hbt
    have hbit := bit_or hbt
    have htt : ((bit != 0) = false) ∨ ((bit != 0) = true ∧ (bit != 1) = false) := by
      rcases hbit with h | h
      · left; simp [h]
      · right; constructor <;> simp [h]
    clear hbt hbit
    cases hst : streamB l1 l2
    · have HST := Lib.hid hst
      clear hst
      rcases htt with t0 | ⟨t0, t1⟩
      all_goals
        go_enter Try.func36, Try.ntmps36
        go_wp2_with fail
        obtain ⟨W0, hW⟩ : ∃ v, v = (w.alloc (.cells #[.slice a1 l1.length c1, .slice a2 l2.length c2] 34)).alloc (.cells #[.slice none 0 0, .slice none 0 0] 34) := ⟨_, rfl⟩
        have hz0 : w.heap.size + 1 < W0.heap.size := by rw [hW]; simp
        rw [← hW] at BA BR H ⊢
        clear hW
        refine (isStream_any a1 a2 c1 c2 l1 l2 W0 B C B C (F1.out.below H.out hC) (F2.out.below H.out hC) (by omega) (by omega) hn1 hn2).mono ?_
        rintro e W1 ⟨rfl, hb⟩
        rw [HST.out]
        have hz1 : W0.heap.size ≤ W1.heap.size := hb.size
        replace BA := Lib.hid (hb.blk BA.out (blk_lt BA.out))
        replace BR := Lib.hid (hb.blk BR.out (blk_lt BR.out))
        replace H := Lib.hid (below_then H.out hb)
        clear hb
        have hwR := blk_lt BR.out
        obtain ⟨cR1, cR2, cR3, cR4⟩ := blk2 BR.out
        go_wp2_with fail
        have r0 := blk_set (.slice none 0 0) (i := 1) (blk_set (.slice none 0 0) (i := 0) BR.out)
        have r1 := (blk2 r0).1
        have r2 := (blk2 r0).2.1
        clear r0 cR1 cR2 cR3 cR4
        refine bodyPost_ret (v := .tuple #[.agg #[.slice none 0 0, .slice none 0 0], .bool false]) (by simp [results, Try.results36, go_sem, r1, r2]) rfl ⟨[], [], false, .inl ⟨rfl, rfl, rfl, .inr (.inl HST.out)⟩, RetSB.zero ((H.out.setCell (by simp) _).setCell (by simp) _)⟩
    · have HST := Lib.hid hst
      have hlen : l1.length ≤ 12 ∧ l2.length ≤ 12 ∧ 1 ≤ l2.length := by
        unfold streamB at hst
        simp only [Bool.and_eq_true, decide_eq_true_eq] at hst
        omega
      obtain ⟨hl1, hl2, hl0⟩ := hlen
      clear hst
      rcases htt with t0 | ⟨t0, t1⟩
      all_goals
        go_enter Try.func36, Try.ntmps36
        go_wp2_with fail
        obtain ⟨W0, hW⟩ : ∃ v, v = (w.alloc (.cells #[.slice a1 l1.length c1, .slice a2 l2.length c2] 34)).alloc (.cells #[.slice none 0 0, .slice none 0 0] 34) := ⟨_, rfl⟩
        have hz0 : w.heap.size + 1 < W0.heap.size := by rw [hW]; simp
        rw [← hW] at BA BR H ⊢
        clear hW
        refine (isStream_any a1 a2 c1 c2 l1 l2 W0 B C B C (F1.out.below H.out hC) (F2.out.below H.out hC) (by omega) (by omega) hn1 hn2).mono ?_
        rintro e W1 ⟨rfl, hb⟩
        rw [HST.out]
        have hz1 : W0.heap.size ≤ W1.heap.size := hb.size
        replace BA := Lib.hid (hb.blk BA.out (blk_lt BA.out))
        replace BR := Lib.hid (hb.blk BR.out (blk_lt BR.out))
        replace H := Lib.hid (below_then H.out hb)
        clear hb
        obtain ⟨cA1, cA2, _, _⟩ := blk2 BA.out
        obtain ⟨cR1, cR2, _, _⟩ := blk2 BR.out
        go_wp2_with fail
        clear cA1 cA2 cR1 cR2
        refine (shortOf_any a1 a2 c1 c2 l1 l2 W1 B C B C (F1.out.below H.out hC) (F2.out.below H.out hC) (by omega) (by omega) hl1 hl2 hl0).mono ?_
        rintro e W2 ⟨s1, s2, hf, hs1, hs2, i1, i2, xS1, gS1, xS2, gS2, rfl, o1, o2, hd, hb⟩
        have HF := Lib.hid hf
        have HAN : Hid (ShortAns l1 l2 s1 s2) := Lib.hid (.inl ⟨HST.out, hf, hs1, hs2, short_stream HST.out hf hs1 hs2 i1 i2⟩)
        clear hf i1 i2
        have hz2 : W1.heap.size ≤ W2.heap.size := hb.size
        replace BA := Lib.hid (hb.blk BA.out (blk_lt BA.out))
        replace BR := Lib.hid (hb.blk BR.out (blk_lt BR.out))
        replace H := Lib.hid (below_then H.out hb)
        obtain ⟨loS, hlo⟩ : ∃ v, v = W1.heap.size := ⟨_, rfl⟩
        obtain ⟨hiS, hhi⟩ : ∃ v, v = W2.heap.size := ⟨_, rfl⟩
        rw [← hlo, ← hhi] at o1 o2
        have OS1 := Lib.hid o1
        have OS2 := Lib.hid o2
        have DS := Lib.hid hd
        have hlhS : loS ≤ hiS := by omega
        have hhwS : hiS ≤ W2.heap.size := by omega
        have hwlS : w.heap.size < loS := by omega
        have hbcAS : w.heap.size < loS := by omega
        have hbcRS : w.heap.size + 1 < loS := by omega
        clear hlo hhi o1 o2 hd
        clear hb
        obtain ⟨hsa, _, hs20, hsl⟩ := ahead_stream HBT.out HST.out HAN.out
        have HSA := Lib.hid hsa
        clear hsa
        by_cases h12 : s1.length + s2.length = 12
        · have hq : ((s1.length : Int) + (s2.length : Int) == 12) = true := beq_iff_eq.2 (by omega)
          have HW : Hid (∃ s1 s2, ShortFor (bitOf l1 l2) s1 s2 ∧ 12 ≤ s1.length + s2.length) := Lib.hid ⟨s1, s2, HF.out, by omega⟩
          clear h12
          replace BR := Lib.hid (blk_old (o := .cells #[.slice xS1 s1.length gS1, .slice xS2 s2.length gS2] 34) BR.out)
          replace H := Lib.hid (below_alloc' H.out (.cells #[.slice xS1 s1.length gS1, .slice xS2 s2.length gS2] 34))
          have hwR := blk_lt BR.out
          obtain ⟨cR1, cR2, cR3, cR4⟩ := blk2 BR.out
          go_wp2_with fail
          have r0 := blk_set (.slice none 0 0) (i := 1) (blk_set (.slice none 0 0) (i := 0) BR.out)
          have r1 := (blk2 r0).1
          have r2 := (blk2 r0).2.1
          clear r0 cR1 cR2 cR3 cR4
          refine bodyPost_ret (v := .tuple #[.agg #[.slice none 0 0, .slice none 0 0], .bool false]) (by simp [results, Try.results36, go_sem, r1, r2]) rfl ⟨[], [], false, .inl ⟨rfl, rfl, rfl, .inr (.inr HW.out)⟩, RetSB.zero ((H.out.setCell (by simp) _).setCell (by simp) _)⟩
        · have hq : ((s1.length : Int) + (s2.length : Int) == 12) = false := beq_eq_false_iff_ne.2 (by omega)
          have hal := below_alloc W2 (.cells #[.slice xS1 s1.length gS1, .slice xS2 s2.length gS2] 34)
          replace BA := Lib.hid (blk_old (o := .cells #[.slice xS1 s1.length gS1, .slice xS2 s2.length gS2] 34) BA.out)
          replace BR := Lib.hid (blk_old (o := .cells #[.slice xS1 s1.length gS1, .slice xS2 s2.length gS2] 34) BR.out)
          replace OS1 := Lib.hid (OS1.out.below hal (by omega))
          replace OS2 := Lib.hid (OS2.out.below hal (by omega))
          have BT := Lib.hid (blk_new (w := W2) (o := .cells #[.slice xS1 s1.length gS1, .slice xS2 s2.length gS2] 34) rfl)
          replace H := Lib.hid (below_alloc' H.out (.cells #[.slice xS1 s1.length gS1, .slice xS2 s2.length gS2] 34))
          clear hal
          have hcbST : hiS ≤ W2.heap.size := by omega
          obtain ⟨cA1, cA2, _, _⟩ := blk2 BA.out
          obtain ⟨cR1, cR2, _, _⟩ := blk2 BR.out
          obtain ⟨cT1, cT2, _, _⟩ := blk2 BT.out
          go_wp2_with fail
          clear hq
          clear cA1 cA2 cR1 cR2 cT1 cT2
          obtain ⟨W3, hW⟩ : ∃ v, v = W2.alloc (.cells #[.slice xS1 s1.length gS1, .slice xS2 s2.length gS2] 34) := ⟨_, rfl⟩
          have hz3 : W2.heap.size < W3.heap.size := by rw [hW]; simp
          rw [← hW] at BA BR BT OS1 OS2 H ⊢
          clear hW
          refine wp_region_held_drew (S := (fun w' => w'.cell? ⟨W2.heap.size, 0, none⟩ = some (.slice xS1 s1.length gS1) ∧ w'.cell? ⟨W2.heap.size, 1, none⟩ = some (.slice xS2 s2.length gS2))) (by kernel_rfl) (by exact ⟨(blk2 BT.out).1, (blk2 BT.out).2.1⟩) (fun hHeld => ?_)
          obtain ⟨W4, hW⟩ : ∃ v, v = W3.drew := ⟨_, rfl⟩
          have hb : Below W3.heap.size W3 W4 := by rw [hW]; exact (Below.refl _ _).drew
          rw [← hW] at hHeld ⊢
          clear hW
          have hz4 : W3.heap.size ≤ W4.heap.size := hb.size
          replace BA := Lib.hid (hb.blk BA.out (blk_lt BA.out))
          replace BR := Lib.hid (hb.blk BR.out (blk_lt BR.out))
          replace BT := Lib.hid (hb.blk BT.out (blk_lt BT.out))
          replace OS1 := Lib.hid (OS1.out.below hb (by omega))
          replace OS2 := Lib.hid (OS2.out.below hb (by omega))
          replace H := Lib.hid (below_then H.out hb)
          clear hb
          refine wpAnyH_take (i := 0) (v := ?_) rfl (by kernel_rfl) (by kernel_rfl) (by kernel_rfl) (fun _ _ _ h => h) (Or.inl ⟨by rfl, ?_⟩) hHeld ?_
          rotate_left
          · intro w hSw; (try dsimp only at hSw); first | (go_simp; done) | (go_simp; with_reducible rfl)
          simp only [Act.put, List.setIfInBounds_toArray, List.set_cons_zero, List.set_cons_succ, List.getElem_toArray, List.getElem_cons_zero, List.getElem_cons_succ]
          refine wpAnyH_take (i := 2) (v := ?_) rfl (by kernel_rfl) (by kernel_rfl) (by kernel_rfl) (fun _ _ _ h => h) (Or.inl ⟨by rfl, ?_⟩) hHeld ?_
          rotate_left
          · intro w hSw; (try dsimp only at hSw); first | (go_simp; done) | (go_simp; with_reducible rfl)
          simp only [Act.put, List.setIfInBounds_toArray, List.set_cons_zero, List.set_cons_succ, List.getElem_toArray, List.getElem_cons_zero, List.getElem_cons_succ]
          refine wpAnyH_take (i := 3) (v := ?_) rfl (by kernel_rfl) (by kernel_rfl) (by kernel_rfl) (fun _ _ _ h => h) (Or.inl ⟨by rfl, ?_⟩) hHeld ?_
          rotate_left
          · intro w hSw; (try dsimp only at hSw); first | (go_simp; done) | (go_simp; with_reducible rfl)
          simp only [Act.put, List.setIfInBounds_toArray, List.set_cons_zero, List.set_cons_succ, List.getElem_toArray, List.getElem_cons_zero, List.getElem_cons_succ]
          refine wpAnyH_take (i := 5) (v := ?_) rfl (by kernel_rfl) (by kernel_rfl) (by kernel_rfl) (fun _ _ _ h => h) (Or.inl ⟨by rfl, ?_⟩) hHeld ?_
          rotate_left
          · intro w hSw; (try dsimp only at hSw); first | (go_simp; done) | (go_simp; with_reducible rfl)
          simp only [Act.put, List.setIfInBounds_toArray, List.set_cons_zero, List.set_cons_succ, List.getElem_toArray, List.getElem_cons_zero, List.getElem_cons_succ]
          refine wpAnyH_take (i := 6) (v := ?_) rfl (by kernel_rfl) (by kernel_rfl) (by kernel_rfl) (fun _ _ _ h => h) (Or.inl ⟨by rfl, ?_⟩) hHeld ?_
          rotate_left
          · intro w hSw; (try dsimp only at hSw); first | (go_simp; done) | (go_simp; with_reducible rfl)
          simp only [Act.put, List.setIfInBounds_toArray, List.set_cons_zero, List.set_cons_succ, List.getElem_toArray, List.getElem_cons_zero, List.getElem_cons_succ]
          refine wpAnyH_ready (rs := [1]) (by kernel_rfl) (by simp) ?_
          refine AllReadyH.cons rfl (fun K hK => ?_) (AllReadyH.nil)
          go_simp
          have o1 := OwI_one W4 3 bit
          have hb := below_alloc W4 (.cells #[.int .i64 bit] 3)
          have hs1 : W4.heap.size < (W4.alloc (.cells #[.int .i64 bit] 3)).heap.size := by simp
          obtain ⟨W5, hW⟩ : ∃ v, v = W4.alloc (.cells #[.int .i64 bit] 3) := ⟨_, rfl⟩
          rw [← hW] at o1 hb hs1 ⊢
          clear hW
          have hz5 : W4.heap.size ≤ W5.heap.size := hb.size
          replace BA := Lib.hid (hb.blk BA.out (blk_lt BA.out))
          replace BR := Lib.hid (hb.blk BR.out (blk_lt BR.out))
          replace BT := Lib.hid (hb.blk BT.out (blk_lt BT.out))
          replace OS1 := Lib.hid (OS1.out.below hb (by omega))
          replace OS2 := Lib.hid (OS2.out.below hb (by omega))
          replace H := Lib.hid (below_then H.out hb)
          have ON := Lib.hid o1
          have hwN : w.heap.size + 1 < W4.heap.size := by omega
          clear o1 hb
          have hcNS : hiS ≤ W4.heap.size := by omega
          refine hK.out _ _ (by exact ⟨(blk2 BT.out).1, (blk2 BT.out).2.1⟩) (fun hHeld2 => ?_)
          clear hK K hHeld
          have hHeld := hHeld2
          clear hHeld2
          (try simp only [Act.put, List.setIfInBounds_toArray, List.set_cons_zero, List.set_cons_succ])
          have hlap : [bit].length + s1.length ≤ 4194304 := by simp; omega
          refine wpAnyH_ready (rs := [4]) (by kernel_rfl) (by simp) ?_
          refine AllReadyH.cons rfl (fun K hK => ?_) (AllReadyH.nil)
          refine step_appIs Try.underlying29 Try.infoInt _ (by rfl) _ _ (by rfl) W4.heap.size (W4.heap.size + 1) (some ⟨W4.heap.size, 0, none⟩) 1 [bit] ?_ ON.out (by omega) loS hiS xS1 gS1 s1 ?_ OS1.out.rd OS1.out.nilcap hlap ?_
          · rfl
          · rfl
          intro aN cN W6 hown hgrow hat
          have hc : Chg (fun q => q = W4.heap.size) W5 W6 := (Chg.refl _ _).grown hgrow (fun q hq => .inl (by cases hq; rfl))
          have hz6 : W5.heap.size ≤ W6.heap.size := hc.size
          obtain ⟨gN, e0, _, _, _, _, hgN⟩ := hown.at0 (by simp)
          subst e0
          have hgg : gN = W4.heap.size ∨ gN = W5.heap.size := by
            rcases hat with hh | hh
            · left; cases hh; rfl
            · right; cases hh; rfl
          replace ON := Lib.hid hown.tight
          replace BA := Lib.hid (hc.blk BA.out (by omega))
          replace BR := Lib.hid (hc.blk BR.out (by omega))
          replace BT := Lib.hid (hc.blk BT.out (by omega))
          replace OS1 := Lib.hid (OS1.out.agr (hc.agr (by omega) (fun q h1 h2 h3 => by omega)))
          replace OS2 := Lib.hid (OS2.out.agr (hc.agr (by omega) (fun q h1 h2 h3 => by omega)))
          replace H := Lib.hid (H.out.trans (hc.below (D := w.heap.size) (fun q hq => by omega) H.out.size))
          have hNbA : gN < w.heap.size ∨ w.heap.size < gN := by omega
          have hNbR : gN < w.heap.size + 1 ∨ w.heap.size + 1 < gN := by omega
          have hNbT : gN < W2.heap.size ∨ W2.heap.size < gN := by omega
          have hNcS : gN < loS ∨ hiS ≤ gN := by omega
          clear hc hown hgrow hat hgg
          refine hK.out _ _ (by exact ⟨(blk2 BT.out).1, (blk2 BT.out).2.1⟩) (fun hHeld2 => ?_)
          clear hK K hHeld
          have hHeld := hHeld2
          clear hHeld2
          (try simp only [Act.put, List.setIfInBounds_toArray, List.set_cons_zero, List.set_cons_succ])
          refine wpAnyH_take (i := 7) (v := ?_) rfl (by kernel_rfl) (by kernel_rfl) (by kernel_rfl) (fun _ _ _ h => h) (Or.inl ⟨by rfl, ?_⟩) hHeld ?_
          rotate_left
          · intro w hSw; (try dsimp only at hSw); first | (go_simp; done) | (go_simp; with_reducible rfl)
          simp only [Act.put, List.setIfInBounds_toArray, List.set_cons_zero, List.set_cons_succ, List.getElem_toArray, List.getElem_cons_zero, List.getElem_cons_succ]
          refine wpAnyH_ready (rs := [8]) (by kernel_rfl) (by simp) ?_
          refine AllReadyH.cons rfl (fun K hK => ?_) (AllReadyH.nil)
          go_simp
          have hlN : ([bit] ++ s1).length = 1 + s1.length := by simp; omega
          have hcall := shortOf_any (some ⟨gN, 0, none⟩) xS2 cN gS2 ([bit] ++ s1) s2 W6 gN (gN + 1) loS hiS ON.out.rd OS2.out.rd (by omega) (by omega) (by simp; omega) (by omega) hs20
          rw [hlN] at hcall
          refine hcall.mono ?_
          rintro e W7 ⟨m1, m2, hm, hm1, hm2, _, _, xM1, gM1, xM2, gM2, rfl, o1, o2, hd, hb⟩
          have hq1 : m1.length ≤ 12 ∧ m2.length ≤ 12 := by have := hlN; omega
          have HANS : Hid (PutAns bit l1 l2 m1 m2 true) := Lib.hid (.inr ⟨rfl, HBT.out, HST.out, s1, s2, HF.out, by omega, hm, hq1.1, hq1.2⟩)
          clear hcall hm hm1 hm2
          have hz7 : W6.heap.size ≤ W7.heap.size := hb.size
          replace BA := Lib.hid (hb.blk BA.out (blk_lt BA.out))
          replace BR := Lib.hid (hb.blk BR.out (blk_lt BR.out))
          replace BT := Lib.hid (hb.blk BT.out (blk_lt BT.out))
          replace OS1 := Lib.hid (OS1.out.below hb (by omega))
          replace OS2 := Lib.hid (OS2.out.below hb (by omega))
          replace H := Lib.hid (below_then H.out hb)
          obtain ⟨loM, hlo⟩ : ∃ v, v = W6.heap.size := ⟨_, rfl⟩
          obtain ⟨hiM, hhi⟩ : ∃ v, v = W7.heap.size := ⟨_, rfl⟩
          rw [← hlo, ← hhi] at o1 o2
          have OM1 := Lib.hid o1
          have OM2 := Lib.hid o2
          have DM := Lib.hid hd
          have hlhM : loM ≤ hiM := by omega
          have hhwM : hiM ≤ W7.heap.size := by omega
          have hwlM : w.heap.size < loM := by omega
          have hccSM : hiS ≤ loM := by omega
          have hbcAM : w.heap.size < loM := by omega
          have hbcRM : w.heap.size + 1 < loM := by omega
          have hbcTM : W2.heap.size < loM := by omega
          clear hlo hhi o1 o2 hd
          clear hb
          refine hK.out _ _ (by exact ⟨(blk2 BT.out).1, (blk2 BT.out).2.1⟩) (fun hHeld2 => ?_)
          clear hK K hHeld
          have hHeld := hHeld2
          clear hHeld2
          (try simp only [Act.put, List.setIfInBounds_toArray, List.set_cons_zero, List.set_cons_succ])
          refine wpAnyH_ready (rs := [9]) (by kernel_rfl) (by simp) ?_
          refine AllReadyH.cons rfl (fun K hK => ?_) (AllReadyH.nil)
          obtain ⟨cR1, cR2, cR3, cR4⟩ := blk2 BR.out
          go_simp
          refine hK.out _ _ (by exact ⟨(blk2 (blk_set_other _ (blk_set_other _ BT.out (by omega)) (by omega))).1, (blk2 (blk_set_other _ (blk_set_other _ BT.out (by omega)) (by omega))).2.1⟩) (fun hHeld2 => ?_)
          clear hK K hHeld cR1 cR2 cR3 cR4
          have hHeld := hHeld2
          clear hHeld2
          (try simp only [Act.put, List.setIfInBounds_toArray, List.set_cons_zero, List.set_cons_succ])
          refine wpAnyH_take (i := 10) (v := ?_) rfl (by kernel_rfl) (by kernel_rfl) (by kernel_rfl) (fun _ _ _ h => h) (Or.inl ⟨by rfl, ?_⟩) hHeld ?_
          rotate_left
          · intro w hSw; (try dsimp only at hSw); first | (go_simp; done) | (go_simp; with_reducible rfl)
          simp only [Act.put, List.setIfInBounds_toArray, List.set_cons_zero, List.set_cons_succ, List.getElem_toArray, List.getElem_cons_zero, List.getElem_cons_succ]
          refine wpAnyH_done (by kernel_rfl) ?_ _
          go_wp2_with fail
          have r0 := blk_set (.slice xM2 m2.length gM2) (i := 1) (blk_set (.slice xM1 m1.length gM1) (i := 0) BR.out)
          have r1 := (blk2 r0).1
          have r2 := (blk2 r0).2.1
          clear r0
          refine bodyPost_ret (v := .tuple #[.agg #[.slice xM1 m1.length gM1, .slice xM2 m2.length gM2], .bool true]) (by simp [results, Try.results36, go_sem, r1, r2]) rfl ⟨m1, m2, true, HANS.out, xM1, gM1, xM2, gM2, rfl, ?_, ?_, DM.out, (H.out.setCell (by simp) _).setCell (by simp) _⟩
          · exact (OM1.out.agr (((Agr.refl _ _ _).set (by omega) _).set (by omega) _)).mono (by omega) (by simp; omega)
          · exact (OM2.out.agr (((Agr.refl _ _ _).set (by omega) _).set (by omega) _)).mono (by omega) (by simp; omega)
end Go.Proofs.Ytgfoolneophkcaa
namespace Go.Proofs.Ytgfoolneophkcaa
open Go.RowKit Go.Hyp Go.Deep

set_option maxRecDepth 8000 in
set_option maxHeartbeats 8000000 in
theorem specPutAhead_any (bit : Int) (a1 a2 : Option Addr) (c1 c2 : Nat) (l1 l2 : List Int) (w : World) (B C : Nat) (h1 : RdI w B C a1 l1) (h2 : RdI w B C a2 l2) (hC : C ≤ w.heap.size) (hn1 : l1.length ≤ 1048576) (hn2 : l2.length ≤ 1048576) :
    Calls Try.prog 35 #[.int .i64 bit, .agg #[.slice a1 l1.length c1, .slice a2 l2.length c2]] w fun e w' => ∃ m1 m2 b, PutAns bit l1 l2 m1 m2 b ∧ RetSB 3 m1 m2 b w e w' := by
  have H := Lib.hid ((below_alloc w (.cells #[.slice a1 l1.length c1, .slice a2 l2.length c2] 34)).alloc (by simp) (.cells #[.slice none 0 0, .slice none 0 0] 34))
  have F1 := Lib.hid h1
  have F2 := Lib.hid h2
  have b0 := alloc2 w (.cells #[.slice a1 l1.length c1, .slice a2 l2.length c2] 34) (.cells #[.slice none 0 0, .slice none 0 0] 34)
  have BA := Lib.hid b0.1
  have BR := Lib.hid b0.2
  clear h1 h2 b0
  cases hst : streamB l1 l2
  · have HST := Lib.hid hst
    clear hst
    go_enter Try.func35, Try.ntmps35
    go_wp2_with fail
    obtain ⟨W0, hW⟩ : ∃ v, v = (w.alloc (.cells #[.slice a1 l1.length c1, .slice a2 l2.length c2] 34)).alloc (.cells #[.slice none 0 0, .slice none 0 0] 34) := ⟨_, rfl⟩
    have hz0 : w.heap.size + 1 < W0.heap.size := by rw [hW]; simp
    rw [← hW] at BA BR H ⊢
    clear hW
    refine (specStreamOk_any a1 a2 c1 c2 l1 l2 W0 B C B C (F1.out.below H.out hC) (F2.out.below H.out hC) (by omega) (by omega) hn1 hn2).mono ?_
    rintro e W1 ⟨rfl, hb⟩
    rw [HST.out]
    have hz1 : W0.heap.size ≤ W1.heap.size := hb.size
    replace BA := Lib.hid (hb.blk BA.out (blk_lt BA.out))
    replace BR := Lib.hid (hb.blk BR.out (blk_lt BR.out))
    replace H := Lib.hid (below_then H.out hb)
    clear hb
    have hwR := blk_lt BR.out
    obtain ⟨cR1, cR2, cR3, cR4⟩ := blk2 BR.out
    go_wp2_with fail
    have r0 := blk_set (.slice none 0 0) (i := 1) (blk_set (.slice none 0 0) (i := 0) BR.out)
    have r1 := (blk2 r0).1
    have r2 := (blk2 r0).2.1
    clear r0 cR1 cR2 cR3 cR4
    refine bodyPost_ret (v := .tuple #[.agg #[.slice none 0 0, .slice none 0 0], .bool false]) (by simp [results, Try.results35, go_sem, r1, r2]) rfl ⟨[], [], false, .inl ⟨rfl, rfl, rfl, .inr (.inl HST.out)⟩, RetSB.zero ((H.out.setCell (by simp) _).setCell (by simp) _)⟩
  · have HST := Lib.hid hst
    clear hst
    cases hbt : bitB bit
    · have HBT := Lib.hid hbt
      clear hbt
      go_enter Try.func35, Try.ntmps35
      go_wp2_with fail
      obtain ⟨W0, hW⟩ : ∃ v, v = (w.alloc (.cells #[.slice a1 l1.length c1, .slice a2 l2.length c2] 34)).alloc (.cells #[.slice none 0 0, .slice none 0 0] 34) := ⟨_, rfl⟩
      have hz0 : w.heap.size + 1 < W0.heap.size := by rw [hW]; simp
      rw [← hW] at BA BR H ⊢
      clear hW
      refine (specStreamOk_any a1 a2 c1 c2 l1 l2 W0 B C B C (F1.out.below H.out hC) (F2.out.below H.out hC) (by omega) (by omega) hn1 hn2).mono ?_
      rintro e W1 ⟨rfl, hb⟩
      rw [HST.out]
      have hz1 : W0.heap.size ≤ W1.heap.size := hb.size
      replace BA := Lib.hid (hb.blk BA.out (blk_lt BA.out))
      replace BR := Lib.hid (hb.blk BR.out (blk_lt BR.out))
      replace H := Lib.hid (below_then H.out hb)
      clear hb
      obtain ⟨cA1, cA2, _, _⟩ := blk2 BA.out
      obtain ⟨cR1, cR2, _, _⟩ := blk2 BR.out
      go_wp2_with fail
      clear cA1 cA2 cR1 cR2
      refine (l1In_bit bit W1).mono ?_
      rintro e w' ⟨rfl, rfl⟩
      rw [HBT.out]
      have hwR := blk_lt BR.out
      obtain ⟨cR1, cR2, cR3, cR4⟩ := blk2 BR.out
      go_wp2_with fail
      have r0 := blk_set (.slice none 0 0) (i := 1) (blk_set (.slice none 0 0) (i := 0) BR.out)
      have r1 := (blk2 r0).1
      have r2 := (blk2 r0).2.1
      clear r0 cR1 cR2 cR3 cR4
      refine bodyPost_ret (v := .tuple #[.agg #[.slice none 0 0, .slice none 0 0], .bool false]) (by simp [results, Try.results35, go_sem, r1, r2]) rfl ⟨[], [], false, .inl ⟨rfl, rfl, rfl, .inl HBT.out⟩, RetSB.zero ((H.out.setCell (by simp) _).setCell (by simp) _)⟩
    · have HBT := Lib.hid hbt
      clear hbt
      go_enter Try.func35, Try.ntmps35
      go_wp2_with fail
      obtain ⟨W0, hW⟩ : ∃ v, v = (w.alloc (.cells #[.slice a1 l1.length c1, .slice a2 l2.length c2] 34)).alloc (.cells #[.slice none 0 0, .slice none 0 0] 34) := ⟨_, rfl⟩
      have hz0 : w.heap.size + 1 < W0.heap.size := by rw [hW]; simp
      rw [← hW] at BA BR H ⊢
      clear hW
      refine (specStreamOk_any a1 a2 c1 c2 l1 l2 W0 B C B C (F1.out.below H.out hC) (F2.out.below H.out hC) (by omega) (by omega) hn1 hn2).mono ?_
      rintro e W1 ⟨rfl, hb⟩
      rw [HST.out]
      have hz1 : W0.heap.size ≤ W1.heap.size := hb.size
      replace BA := Lib.hid (hb.blk BA.out (blk_lt BA.out))
      replace BR := Lib.hid (hb.blk BR.out (blk_lt BR.out))
      replace H := Lib.hid (below_then H.out hb)
      clear hb
      obtain ⟨cA1, cA2, _, _⟩ := blk2 BA.out
      obtain ⟨cR1, cR2, _, _⟩ := blk2 BR.out
      go_wp2_with fail
      clear cA1 cA2 cR1 cR2
      refine (l1In_bit bit W1).mono ?_
      rintro e w' ⟨rfl, rfl⟩
      rw [HBT.out]
      obtain ⟨cA1, cA2, _, _⟩ := blk2 BA.out
      obtain ⟨cR1, cR2, _, _⟩ := blk2 BR.out
      go_wp2_with fail
      clear cA1 cA2 cR1 cR2
      refine (specShortOf_any a1 a2 c1 c2 l1 l2 W1 B C (F1.out.below H.out hC) (F2.out.below H.out hC) (by omega) hn1 hn2).mono ?_
      rintro e W2 ⟨s1, s2, hsa, xS1, gS1, xS2, gS2, rfl, o1, o2, hd, hb⟩
      obtain ⟨hsa2, hf, hs20, hsl⟩ := ahead_stream HBT.out HST.out hsa
      have HSA := Lib.hid hsa2
      have HF := Lib.hid hf
      clear hsa hsa2 hf
      have hz2 : W1.heap.size ≤ W2.heap.size := hb.size
      replace BA := Lib.hid (hb.blk BA.out (blk_lt BA.out))
      replace BR := Lib.hid (hb.blk BR.out (blk_lt BR.out))
      replace H := Lib.hid (below_then H.out hb)
      obtain ⟨loS, hlo⟩ : ∃ v, v = W1.heap.size := ⟨_, rfl⟩
      obtain ⟨hiS, hhi⟩ : ∃ v, v = W2.heap.size := ⟨_, rfl⟩
      rw [← hlo, ← hhi] at o1 o2
      have OS1 := Lib.hid o1
      have OS2 := Lib.hid o2
      have DS := Lib.hid hd
      have hlhS : loS ≤ hiS := by omega
      have hhwS : hiS ≤ W2.heap.size := by omega
      have hwlS : w.heap.size < loS := by omega
      have hbcAS : w.heap.size < loS := by omega
      have hbcRS : w.heap.size + 1 < loS := by omega
      clear hlo hhi o1 o2 hd
      clear hb
      have hal := below_alloc W2 (.cells #[.slice xS1 s1.length gS1, .slice xS2 s2.length gS2] 34)
      replace BA := Lib.hid (blk_old (o := .cells #[.slice xS1 s1.length gS1, .slice xS2 s2.length gS2] 34) BA.out)
      replace BR := Lib.hid (blk_old (o := .cells #[.slice xS1 s1.length gS1, .slice xS2 s2.length gS2] 34) BR.out)
      replace OS1 := Lib.hid (OS1.out.below hal (by omega))
      replace OS2 := Lib.hid (OS2.out.below hal (by omega))
      have BT := Lib.hid (blk_new (w := W2) (o := .cells #[.slice xS1 s1.length gS1, .slice xS2 s2.length gS2] 34) rfl)
      replace H := Lib.hid (below_alloc' H.out (.cells #[.slice xS1 s1.length gS1, .slice xS2 s2.length gS2] 34))
      clear hal
      have hcbST : hiS ≤ W2.heap.size := by omega
      obtain ⟨cA1, cA2, _, _⟩ := blk2 BA.out
      obtain ⟨cR1, cR2, _, _⟩ := blk2 BR.out
      obtain ⟨cT1, cT2, _, _⟩ := blk2 BT.out
      go_wp2_with fail
      clear cA1 cA2 cR1 cR2 cT1 cT2
      obtain ⟨W3, hW⟩ : ∃ v, v = W2.alloc (.cells #[.slice xS1 s1.length gS1, .slice xS2 s2.length gS2] 34) := ⟨_, rfl⟩
      have hz3 : W2.heap.size < W3.heap.size := by rw [hW]; simp
      rw [← hW] at BA BR BT OS1 OS2 H ⊢
      clear hW
      refine wp_region_held_drew (S := (fun w' => w'.cell? ⟨W2.heap.size, 0, none⟩ = some (.slice xS1 s1.length gS1) ∧ w'.cell? ⟨W2.heap.size, 1, none⟩ = some (.slice xS2 s2.length gS2))) (by kernel_rfl) (by exact ⟨(blk2 BT.out).1, (blk2 BT.out).2.1⟩) (fun hHeld => ?_)
      obtain ⟨W4, hW⟩ : ∃ v, v = W3.drew := ⟨_, rfl⟩
      have hb : Below W3.heap.size W3 W4 := by rw [hW]; exact (Below.refl _ _).drew
      rw [← hW] at hHeld ⊢
      clear hW
      have hz4 : W3.heap.size ≤ W4.heap.size := hb.size
      replace BA := Lib.hid (hb.blk BA.out (blk_lt BA.out))
      replace BR := Lib.hid (hb.blk BR.out (blk_lt BR.out))
      replace BT := Lib.hid (hb.blk BT.out (blk_lt BT.out))
      replace OS1 := Lib.hid (OS1.out.below hb (by omega))
      replace OS2 := Lib.hid (OS2.out.below hb (by omega))
      replace H := Lib.hid (below_then H.out hb)
      clear hb
      refine wpAnyH_take (i := 0) (v := ?_) rfl (by kernel_rfl) (by kernel_rfl) (by kernel_rfl) (fun _ _ _ h => h) (Or.inl ⟨by rfl, ?_⟩) hHeld ?_
      rotate_left
      · intro w hSw; (try dsimp only at hSw); first | (go_simp; done) | (go_simp; with_reducible rfl)
      simp only [Act.put, List.setIfInBounds_toArray, List.set_cons_zero, List.set_cons_succ, List.getElem_toArray, List.getElem_cons_zero, List.getElem_cons_succ]
      refine wpAnyH_take (i := 2) (v := ?_) rfl (by kernel_rfl) (by kernel_rfl) (by kernel_rfl) (fun _ _ _ h => h) (Or.inl ⟨by rfl, ?_⟩) hHeld ?_
      rotate_left
      · intro w hSw; (try dsimp only at hSw); first | (go_simp; done) | (go_simp; with_reducible rfl)
      simp only [Act.put, List.setIfInBounds_toArray, List.set_cons_zero, List.set_cons_succ, List.getElem_toArray, List.getElem_cons_zero, List.getElem_cons_succ]
      refine wpAnyH_take (i := 3) (v := ?_) rfl (by kernel_rfl) (by kernel_rfl) (by kernel_rfl) (fun _ _ _ h => h) (Or.inl ⟨by rfl, ?_⟩) hHeld ?_
      rotate_left
      · intro w hSw; (try dsimp only at hSw); first | (go_simp; done) | (go_simp; with_reducible rfl)
      simp only [Act.put, List.setIfInBounds_toArray, List.set_cons_zero, List.set_cons_succ, List.getElem_toArray, List.getElem_cons_zero, List.getElem_cons_succ]
      refine wpAnyH_take (i := 5) (v := ?_) rfl (by kernel_rfl) (by kernel_rfl) (by kernel_rfl) (fun _ _ _ h => h) (Or.inl ⟨by rfl, ?_⟩) hHeld ?_
      rotate_left
      · intro w hSw; (try dsimp only at hSw); first | (go_simp; done) | (go_simp; with_reducible rfl)
      simp only [Act.put, List.setIfInBounds_toArray, List.set_cons_zero, List.set_cons_succ, List.getElem_toArray, List.getElem_cons_zero, List.getElem_cons_succ]
      refine wpAnyH_take (i := 6) (v := ?_) rfl (by kernel_rfl) (by kernel_rfl) (by kernel_rfl) (fun _ _ _ h => h) (Or.inl ⟨by rfl, ?_⟩) hHeld ?_
      rotate_left
      · intro w hSw; (try dsimp only at hSw); first | (go_simp; done) | (go_simp; with_reducible rfl)
      simp only [Act.put, List.setIfInBounds_toArray, List.set_cons_zero, List.set_cons_succ, List.getElem_toArray, List.getElem_cons_zero, List.getElem_cons_succ]
      have hlap : [bit].length + s1.length ≤ 4194304 := by simp; omega
      have hlN : ([bit] ++ s1).length = 1 + s1.length := by simp; omega
      have HLN := Lib.hid hlN
      clear hlN
      refine wpAnyH_ready (rs := [1, 8]) (by kernel_rfl) (by simp) ?_
      refine AllReadyH.cons rfl (fun K hK => ?_) (AllReadyH.cons rfl (fun K hK => ?_) (AllReadyH.nil))
      · skip
        go_simp
        have o1 := OwI_one W4 3 bit
        have hb := below_alloc W4 (.cells #[.int .i64 bit] 3)
        have hs1 : W4.heap.size < (W4.alloc (.cells #[.int .i64 bit] 3)).heap.size := by simp
        obtain ⟨W5, hW⟩ : ∃ v, v = W4.alloc (.cells #[.int .i64 bit] 3) := ⟨_, rfl⟩
        rw [← hW] at o1 hb hs1 ⊢
        clear hW
        have hz5 : W4.heap.size ≤ W5.heap.size := hb.size
        replace BA := Lib.hid (hb.blk BA.out (blk_lt BA.out))
        replace BR := Lib.hid (hb.blk BR.out (blk_lt BR.out))
        replace BT := Lib.hid (hb.blk BT.out (blk_lt BT.out))
        replace OS1 := Lib.hid (OS1.out.below hb (by omega))
        replace OS2 := Lib.hid (OS2.out.below hb (by omega))
        replace H := Lib.hid (below_then H.out hb)
        have ON := Lib.hid o1
        have hwN : w.heap.size + 1 < W4.heap.size := by omega
        clear o1 hb
        have hcNS : hiS ≤ W4.heap.size := by omega
        refine hK.out _ _ (by exact ⟨(blk2 BT.out).1, (blk2 BT.out).2.1⟩) (fun hHeld2 => ?_)
        clear hK K hHeld
        have hHeld := hHeld2
        clear hHeld2
        (try simp only [Act.put, List.setIfInBounds_toArray, List.set_cons_zero, List.set_cons_succ])
        refine wpAnyH_ready (rs := [4, 8]) (by kernel_rfl) (by simp) ?_
        refine AllReadyH.cons rfl (fun K hK => ?_) (AllReadyH.cons rfl (fun K hK => ?_) (AllReadyH.nil))
        · skip
          refine step_appIs Try.underlying29 Try.infoInt _ (by rfl) _ _ (by rfl) W4.heap.size (W4.heap.size + 1) (some ⟨W4.heap.size, 0, none⟩) 1 [bit] ?_ ON.out (by omega) loS hiS xS1 gS1 s1 ?_ OS1.out.rd OS1.out.nilcap hlap ?_
          · rfl
          · rfl
          intro aN cN W6 hown hgrow hat
          have hc : Chg (fun q => q = W4.heap.size) W5 W6 := (Chg.refl _ _).grown hgrow (fun q hq => .inl (by cases hq; rfl))
          have hz6 : W5.heap.size ≤ W6.heap.size := hc.size
          obtain ⟨gN, e0, _, _, _, _, hgN⟩ := hown.at0 (by simp)
          subst e0
          have hgg : gN = W4.heap.size ∨ gN = W5.heap.size := by
            rcases hat with hh | hh
            · left; cases hh; rfl
            · right; cases hh; rfl
          replace ON := Lib.hid hown.tight
          replace BA := Lib.hid (hc.blk BA.out (by omega))
          replace BR := Lib.hid (hc.blk BR.out (by omega))
          replace BT := Lib.hid (hc.blk BT.out (by omega))
          replace OS1 := Lib.hid (OS1.out.agr (hc.agr (by omega) (fun q h1 h2 h3 => by omega)))
          replace OS2 := Lib.hid (OS2.out.agr (hc.agr (by omega) (fun q h1 h2 h3 => by omega)))
          replace H := Lib.hid (H.out.trans (hc.below (D := w.heap.size) (fun q hq => by omega) H.out.size))
          have hNbA : gN < w.heap.size ∨ w.heap.size < gN := by omega
          have hNbR : gN < w.heap.size + 1 ∨ w.heap.size + 1 < gN := by omega
          have hNbT : gN < W2.heap.size ∨ W2.heap.size < gN := by omega
          have hNcS : gN < loS ∨ hiS ≤ gN := by omega
          clear hc hown hgrow hat hgg
          refine hK.out _ _ (by exact ⟨(blk2 BT.out).1, (blk2 BT.out).2.1⟩) (fun hHeld2 => ?_)
          clear hK K hHeld
          have hHeld := hHeld2
          clear hHeld2
          (try simp only [Act.put, List.setIfInBounds_toArray, List.set_cons_zero, List.set_cons_succ])
          refine wpAnyH_take (i := 7) (v := ?_) rfl (by kernel_rfl) (by kernel_rfl) (by kernel_rfl) (fun _ _ _ h => h) (Or.inl ⟨by rfl, ?_⟩) hHeld ?_
          rotate_left
          · intro w hSw; (try dsimp only at hSw); first | (go_simp; done) | (go_simp; with_reducible rfl)
          simp only [Act.put, List.setIfInBounds_toArray, List.set_cons_zero, List.set_cons_succ, List.getElem_toArray, List.getElem_cons_zero, List.getElem_cons_succ]
          refine wpAnyH_ready (rs := [8]) (by kernel_rfl) (by simp) ?_
          refine AllReadyH.cons rfl (fun K hK => ?_) (AllReadyH.nil)
          · skip
            go_simp
            have hnew := blk_new (w := W6) (o := .cells #[.slice none 0 0, .slice none 0 0] 34 (0, 0)) rfl
            have hb := below_alloc W6 (.cells #[.slice none 0 0, .slice none 0 0] 34 (0, 0))
            have hs1 : W6.heap.size < (W6.alloc (.cells #[.slice none 0 0, .slice none 0 0] 34 (0, 0))).heap.size := by simp
            obtain ⟨W7, hW⟩ : ∃ v, v = W6.alloc (.cells #[.slice none 0 0, .slice none 0 0] 34 (0, 0)) := ⟨_, rfl⟩
            rw [← hW] at hnew hb hs1 ⊢
            clear hW
            have hz7 : W6.heap.size ≤ W7.heap.size := hb.size
            replace BA := Lib.hid (hb.blk BA.out (blk_lt BA.out))
            replace BR := Lib.hid (hb.blk BR.out (blk_lt BR.out))
            replace BT := Lib.hid (hb.blk BT.out (blk_lt BT.out))
            replace OS1 := Lib.hid (OS1.out.below hb (by omega))
            replace OS2 := Lib.hid (OS2.out.below hb (by omega))
            replace H := Lib.hid (below_then H.out hb)
            replace ON := Lib.hid (ON.out.below hb (by omega))
            have BU := Lib.hid hnew
            clear hnew hb
            have hcUS : hiS ≤ W6.heap.size := by omega
            refine hK.out _ _ (by exact ⟨(blk2 BT.out).1, (blk2 BT.out).2.1⟩) (fun hHeld2 => ?_)
            clear hK K hHeld
            have hHeld := hHeld2
            clear hHeld2
            (try simp only [Act.put, List.setIfInBounds_toArray, List.set_cons_zero, List.set_cons_succ])
            have hUN : gN ≠ W6.heap.size := by omega
            refine wpAnyH_ready (rs := [9]) (by kernel_rfl) (by simp) ?_
            refine AllReadyH.cons rfl (fun K hK => ?_) (AllReadyH.nil)
            obtain ⟨cU1, cU2, cU3, cU4⟩ := blk2 BU.out
            go_simp
            have vu := blk_set (.slice xS2 s2.length gS2) (i := 1) (blk_set (.slice (some ⟨gN, 0, none⟩) (1 + s1.length) cN) (i := 0) BU.out)
            have vA := blk_set_other (.slice xS2 s2.length gS2) (i := 1) (k := W6.heap.size) (blk_set_other (.slice (some ⟨gN, 0, none⟩) (1 + s1.length) cN) (i := 0) (k := W6.heap.size) BA.out (by omega)) (by omega)
            have vR := blk_set_other (.slice xS2 s2.length gS2) (i := 1) (k := W6.heap.size) (blk_set_other (.slice (some ⟨gN, 0, none⟩) (1 + s1.length) cN) (i := 0) (k := W6.heap.size) BR.out (by omega)) (by omega)
            have vT := blk_set_other (.slice xS2 s2.length gS2) (i := 1) (k := W6.heap.size) (blk_set_other (.slice (some ⟨gN, 0, none⟩) (1 + s1.length) cN) (i := 0) (k := W6.heap.size) BT.out (by omega)) (by omega)
            have vh := (H.out.setCell (p := ⟨W6.heap.size, 0, none⟩) (by dsimp; omega) (.slice (some ⟨gN, 0, none⟩) (1 + s1.length) cN)).setCell (p := ⟨W6.heap.size, 1, none⟩) (by dsimp; omega) (.slice xS2 s2.length gS2)
            have vs : ((W7.setCell ⟨W6.heap.size, 0, none⟩ (.slice (some ⟨gN, 0, none⟩) (1 + s1.length) cN)).setCell ⟨W6.heap.size, 1, none⟩ (.slice xS2 s2.length gS2)).heap.size = W7.heap.size := by simp
            have vn := ON.out.agr (((Agr.refl _ _ _).set (k := W6.heap.size) (i := 0) (by omega) (.slice (some ⟨gN, 0, none⟩) (1 + s1.length) cN)).set (k := W6.heap.size) (i := 1) (by omega) (.slice xS2 s2.length gS2))
            have vs1 := OS1.out.agr (((Agr.refl _ _ _).set (k := W6.heap.size) (i := 0) (by omega) (.slice (some ⟨gN, 0, none⟩) (1 + s1.length) cN)).set (k := W6.heap.size) (i := 1) (by omega) (.slice xS2 s2.length gS2))
            have vs2 := OS2.out.agr (((Agr.refl _ _ _).set (k := W6.heap.size) (i := 0) (by omega) (.slice (some ⟨gN, 0, none⟩) (1 + s1.length) cN)).set (k := W6.heap.size) (i := 1) (by omega) (.slice xS2 s2.length gS2))
            obtain ⟨W8, hW⟩ : ∃ v, v = (W7.setCell ⟨W6.heap.size, 0, none⟩ (.slice (some ⟨gN, 0, none⟩) (1 + s1.length) cN)).setCell ⟨W6.heap.size, 1, none⟩ (.slice xS2 s2.length gS2) := ⟨_, rfl⟩
            rw [← hW] at vu vA vR vT vh vs vn vs1 vs2 ⊢
            have hz8 : W7.heap.size ≤ W8.heap.size := by omega
            replace BU := Lib.hid vu
            replace BA := Lib.hid vA
            replace BR := Lib.hid vR
            replace BT := Lib.hid vT
            replace H := Lib.hid vh
            replace ON := Lib.hid vn
            replace OS1 := Lib.hid vs1
            replace OS2 := Lib.hid vs2
            clear hW vu vA vR vT vh vs vn vs1 vs2 cU1 cU2 cU3 cU4
            refine hK.out _ _ (by exact ⟨(blk2 BT.out).1, (blk2 BT.out).2.1⟩) (fun hHeld2 => ?_)
            clear hK K hHeld
            have hHeld := hHeld2
            clear hHeld2
            (try simp only [Act.put, List.setIfInBounds_toArray, List.set_cons_zero, List.set_cons_succ])
            refine wpAnyH_done (by kernel_rfl) ?_ _
            obtain ⟨cA1, cA2, _, _⟩ := blk2 BA.out
            obtain ⟨cR1, cR2, _, _⟩ := blk2 BR.out
            obtain ⟨cT1, cT2, _, _⟩ := blk2 BT.out
            obtain ⟨cU1, cU2, _, _⟩ := blk2 BU.out
            go_wp2_with fail
            clear cA1 cA2 cR1 cR2 cT1 cT2 cU1 cU2
            have hcall := specStreamOk_any (some ⟨gN, 0, none⟩) xS2 cN gS2 ([bit] ++ s1) s2 W8 gN (gN + 1) loS hiS ON.out.rd OS2.out.rd (by omega) (by omega) (by rw [HLN.out]; omega) (by omega)
            rw [HLN.out, HSA.out] at hcall
            have HCALL := Lib.hid hcall
            clear hcall
            by_cases h12 : s1.length + s2.length < 12
            · have HD : Hid (decide (s1.length + s2.length < 12) = true) := Lib.hid (decide_eq_true h12)
              refine HCALL.out.mono ?_
              rintro e W9 ⟨rfl, hb⟩
              rw [HD.out]
              clear HCALL
              have hz9 : W8.heap.size ≤ W9.heap.size := hb.size
              replace BA := Lib.hid (hb.blk BA.out (blk_lt BA.out))
              replace BR := Lib.hid (hb.blk BR.out (blk_lt BR.out))
              replace BT := Lib.hid (hb.blk BT.out (blk_lt BT.out))
              replace BU := Lib.hid (hb.blk BU.out (blk_lt BU.out))
              replace OS1 := Lib.hid (OS1.out.below hb (by omega))
              replace OS2 := Lib.hid (OS2.out.below hb (by omega))
              replace H := Lib.hid (below_then H.out hb)
              replace ON := Lib.hid (ON.out.below hb (by omega))
              clear hb
              obtain ⟨cA1, cA2, _, _⟩ := blk2 BA.out
              obtain ⟨cR1, cR2, _, _⟩ := blk2 BR.out
              obtain ⟨cT1, cT2, _, _⟩ := blk2 BT.out
              obtain ⟨cU1, cU2, _, _⟩ := blk2 BU.out
              go_wp2_with fail
              clear cA1 cA2 cR1 cR2 cT1 cT2 cU1 cU2
              have hcall := specShortOf_any (some ⟨gN, 0, none⟩) xS2 cN gS2 ([bit] ++ s1) s2 W9 0 W9.heap.size (ON.out.rd.mono (Nat.zero_le _) (by omega)) (OS2.out.rd.mono (Nat.zero_le _) (by omega)) (Nat.le_refl _) (by rw [HLN.out]; omega) (by omega)
              rw [HLN.out] at hcall
              refine hcall.mono ?_
              rintro e W10 ⟨m1, m2, hsm, xM1, gM1, xM2, gM2, rfl, o1, o2, hd, hb⟩
              have HANS : Hid (PutAns bit l1 l2 m1 m2 true) := Lib.hid (by
                rcases hsm with ⟨_, hm, _, _, hms⟩ | ⟨h0, _⟩
                · unfold streamB at hms
                  simp only [Bool.and_eq_true, decide_eq_true_eq] at hms
                  exact .inr ⟨rfl, HBT.out, HST.out, s1, s2, HF.out, h12, hm, by omega, by omega⟩
                · rw [HSA.out, HD.out] at h0; cases h0)
              clear hcall hsm
              have hz10 : W9.heap.size ≤ W10.heap.size := hb.size
              replace BA := Lib.hid (hb.blk BA.out (blk_lt BA.out))
              replace BR := Lib.hid (hb.blk BR.out (blk_lt BR.out))
              replace BT := Lib.hid (hb.blk BT.out (blk_lt BT.out))
              replace BU := Lib.hid (hb.blk BU.out (blk_lt BU.out))
              replace OS1 := Lib.hid (OS1.out.below hb (by omega))
              replace OS2 := Lib.hid (OS2.out.below hb (by omega))
              replace H := Lib.hid (below_then H.out hb)
              obtain ⟨loM, hlo⟩ : ∃ v, v = W9.heap.size := ⟨_, rfl⟩
              obtain ⟨hiM, hhi⟩ : ∃ v, v = W10.heap.size := ⟨_, rfl⟩
              rw [← hlo, ← hhi] at o1 o2
              have OM1 := Lib.hid o1
              have OM2 := Lib.hid o2
              have DM := Lib.hid hd
              have hlhM : loM ≤ hiM := by omega
              have hhwM : hiM ≤ W10.heap.size := by omega
              have hwlM : w.heap.size < loM := by omega
              have hccSM : hiS ≤ loM := by omega
              have hbcAM : w.heap.size < loM := by omega
              have hbcRM : w.heap.size + 1 < loM := by omega
              have hbcTM : W2.heap.size < loM := by omega
              have hbcUM : W6.heap.size < loM := by omega
              clear hlo hhi o1 o2 hd
              clear hb
              have hwR := blk_lt BR.out
              obtain ⟨cR1, cR2, cR3, cR4⟩ := blk2 BR.out
              go_wp2_with fail
              have r0 := blk_set (.slice xM2 m2.length gM2) (i := 1) (blk_set (.slice xM1 m1.length gM1) (i := 0) BR.out)
              have r1 := (blk2 r0).1
              have r2 := (blk2 r0).2.1
              clear r0 cR1 cR2 cR3 cR4
              refine bodyPost_ret (v := .tuple #[.agg #[.slice xM1 m1.length gM1, .slice xM2 m2.length gM2], .bool true]) (by simp [results, Try.results35, go_sem, r1, r2]) rfl ⟨m1, m2, true, HANS.out, xM1, gM1, xM2, gM2, rfl, ?_, ?_, DM.out, (H.out.setCell (by simp) _).setCell (by simp) _⟩
              · exact (OM1.out.agr (((Agr.refl _ _ _).set (by omega) _).set (by omega) _)).mono (by omega) (by simp; omega)
              · exact (OM2.out.agr (((Agr.refl _ _ _).set (by omega) _).set (by omega) _)).mono (by omega) (by simp; omega)
            · have HD : Hid (decide (s1.length + s2.length < 12) = false) := Lib.hid (decide_eq_false h12)
              have HW : Hid (∃ s1 s2, ShortFor (bitOf l1 l2) s1 s2 ∧ 12 ≤ s1.length + s2.length) := Lib.hid ⟨s1, s2, HF.out, by omega⟩
              refine HCALL.out.mono ?_
              rintro e W9 ⟨rfl, hb⟩
              rw [HD.out]
              clear HCALL
              have hz9 : W8.heap.size ≤ W9.heap.size := hb.size
              replace BA := Lib.hid (hb.blk BA.out (blk_lt BA.out))
              replace BR := Lib.hid (hb.blk BR.out (blk_lt BR.out))
              replace BT := Lib.hid (hb.blk BT.out (blk_lt BT.out))
              replace BU := Lib.hid (hb.blk BU.out (blk_lt BU.out))
              replace OS1 := Lib.hid (OS1.out.below hb (by omega))
              replace OS2 := Lib.hid (OS2.out.below hb (by omega))
              replace H := Lib.hid (below_then H.out hb)
              replace ON := Lib.hid (ON.out.below hb (by omega))
              clear hb
              have hwR := blk_lt BR.out
              obtain ⟨cR1, cR2, cR3, cR4⟩ := blk2 BR.out
              go_wp2_with fail
              have r0 := blk_set (.slice none 0 0) (i := 1) (blk_set (.slice none 0 0) (i := 0) BR.out)
              have r1 := (blk2 r0).1
              have r2 := (blk2 r0).2.1
              clear r0 cR1 cR2 cR3 cR4
              refine bodyPost_ret (v := .tuple #[.agg #[.slice none 0 0, .slice none 0 0], .bool false]) (by simp [results, Try.results35, go_sem, r1, r2]) rfl ⟨[], [], false, .inl ⟨rfl, rfl, rfl, .inr (.inr HW.out)⟩, RetSB.zero ((H.out.setCell (by simp) _).setCell (by simp) _)⟩
        · skip
          go_simp
          have hnew := blk_new (w := W5) (o := .cells #[.slice none 0 0, .slice none 0 0] 34 (0, 0)) rfl
          have hb := below_alloc W5 (.cells #[.slice none 0 0, .slice none 0 0] 34 (0, 0))
          have hs1 : W5.heap.size < (W5.alloc (.cells #[.slice none 0 0, .slice none 0 0] 34 (0, 0))).heap.size := by simp
          obtain ⟨W6, hW⟩ : ∃ v, v = W5.alloc (.cells #[.slice none 0 0, .slice none 0 0] 34 (0, 0)) := ⟨_, rfl⟩
          rw [← hW] at hnew hb hs1 ⊢
          clear hW
          have hz6 : W5.heap.size ≤ W6.heap.size := hb.size
          replace BA := Lib.hid (hb.blk BA.out (blk_lt BA.out))
          replace BR := Lib.hid (hb.blk BR.out (blk_lt BR.out))
          replace BT := Lib.hid (hb.blk BT.out (blk_lt BT.out))
          replace OS1 := Lib.hid (OS1.out.below hb (by omega))
          replace OS2 := Lib.hid (OS2.out.below hb (by omega))
          replace H := Lib.hid (below_then H.out hb)
          replace ON := Lib.hid (ON.out.below hb (by omega))
          have BU := Lib.hid hnew
          clear hnew hb
          have hcUS : hiS ≤ W5.heap.size := by omega
          refine hK.out _ _ (by exact ⟨(blk2 BT.out).1, (blk2 BT.out).2.1⟩) (fun hHeld2 => ?_)
          clear hK K hHeld
          have hHeld := hHeld2
          clear hHeld2
          (try simp only [Act.put, List.setIfInBounds_toArray, List.set_cons_zero, List.set_cons_succ])
          refine wpAnyH_ready (rs := [4]) (by kernel_rfl) (by simp) ?_
          refine AllReadyH.cons rfl (fun K hK => ?_) (AllReadyH.nil)
          · skip
            refine step_appIs Try.underlying29 Try.infoInt _ (by rfl) _ _ (by rfl) W4.heap.size (W4.heap.size + 1) (some ⟨W4.heap.size, 0, none⟩) 1 [bit] ?_ ON.out (by omega) loS hiS xS1 gS1 s1 ?_ OS1.out.rd OS1.out.nilcap hlap ?_
            · rfl
            · rfl
            intro aN cN W7 hown hgrow hat
            have hc : Chg (fun q => q = W4.heap.size) W6 W7 := (Chg.refl _ _).grown hgrow (fun q hq => .inl (by cases hq; rfl))
            have hz7 : W6.heap.size ≤ W7.heap.size := hc.size
            obtain ⟨gN, e0, _, _, _, _, hgN⟩ := hown.at0 (by simp)
            subst e0
            have hgg : gN = W4.heap.size ∨ gN = W6.heap.size := by
              rcases hat with hh | hh
              · left; cases hh; rfl
              · right; cases hh; rfl
            replace ON := Lib.hid hown.tight
            replace BA := Lib.hid (hc.blk BA.out (by omega))
            replace BR := Lib.hid (hc.blk BR.out (by omega))
            replace BT := Lib.hid (hc.blk BT.out (by omega))
            replace BU := Lib.hid (hc.blk BU.out (by omega))
            replace OS1 := Lib.hid (OS1.out.agr (hc.agr (by omega) (fun q h1 h2 h3 => by omega)))
            replace OS2 := Lib.hid (OS2.out.agr (hc.agr (by omega) (fun q h1 h2 h3 => by omega)))
            replace H := Lib.hid (H.out.trans (hc.below (D := w.heap.size) (fun q hq => by omega) H.out.size))
            have hNbA : gN < w.heap.size ∨ w.heap.size < gN := by omega
            have hNbR : gN < w.heap.size + 1 ∨ w.heap.size + 1 < gN := by omega
            have hNbT : gN < W2.heap.size ∨ W2.heap.size < gN := by omega
            have hNbU : gN < W5.heap.size ∨ W5.heap.size < gN := by omega
            have hNcS : gN < loS ∨ hiS ≤ gN := by omega
            clear hc hown hgrow hat hgg
            refine hK.out _ _ (by exact ⟨(blk2 BT.out).1, (blk2 BT.out).2.1⟩) (fun hHeld2 => ?_)
            clear hK K hHeld
            have hHeld := hHeld2
            clear hHeld2
            (try simp only [Act.put, List.setIfInBounds_toArray, List.set_cons_zero, List.set_cons_succ])
            refine wpAnyH_take (i := 7) (v := ?_) rfl (by kernel_rfl) (by kernel_rfl) (by kernel_rfl) (fun _ _ _ h => h) (Or.inl ⟨by rfl, ?_⟩) hHeld ?_
            rotate_left
            · intro w hSw; (try dsimp only at hSw); first | (go_simp; done) | (go_simp; with_reducible rfl)
            simp only [Act.put, List.setIfInBounds_toArray, List.set_cons_zero, List.set_cons_succ, List.getElem_toArray, List.getElem_cons_zero, List.getElem_cons_succ]
            have hUN : gN ≠ W5.heap.size := by omega
            refine wpAnyH_ready (rs := [9]) (by kernel_rfl) (by simp) ?_
            refine AllReadyH.cons rfl (fun K hK => ?_) (AllReadyH.nil)
            obtain ⟨cU1, cU2, cU3, cU4⟩ := blk2 BU.out
            go_simp
            have vu := blk_set (.slice xS2 s2.length gS2) (i := 1) (blk_set (.slice (some ⟨gN, 0, none⟩) (1 + s1.length) cN) (i := 0) BU.out)
            have vA := blk_set_other (.slice xS2 s2.length gS2) (i := 1) (k := W5.heap.size) (blk_set_other (.slice (some ⟨gN, 0, none⟩) (1 + s1.length) cN) (i := 0) (k := W5.heap.size) BA.out (by omega)) (by omega)
            have vR := blk_set_other (.slice xS2 s2.length gS2) (i := 1) (k := W5.heap.size) (blk_set_other (.slice (some ⟨gN, 0, none⟩) (1 + s1.length) cN) (i := 0) (k := W5.heap.size) BR.out (by omega)) (by omega)
            have vT := blk_set_other (.slice xS2 s2.length gS2) (i := 1) (k := W5.heap.size) (blk_set_other (.slice (some ⟨gN, 0, none⟩) (1 + s1.length) cN) (i := 0) (k := W5.heap.size) BT.out (by omega)) (by omega)
            have vh := (H.out.setCell (p := ⟨W5.heap.size, 0, none⟩) (by dsimp; omega) (.slice (some ⟨gN, 0, none⟩) (1 + s1.length) cN)).setCell (p := ⟨W5.heap.size, 1, none⟩) (by dsimp; omega) (.slice xS2 s2.length gS2)
            have vs : ((W7.setCell ⟨W5.heap.size, 0, none⟩ (.slice (some ⟨gN, 0, none⟩) (1 + s1.length) cN)).setCell ⟨W5.heap.size, 1, none⟩ (.slice xS2 s2.length gS2)).heap.size = W7.heap.size := by simp
            have vn := ON.out.agr (((Agr.refl _ _ _).set (k := W5.heap.size) (i := 0) (by omega) (.slice (some ⟨gN, 0, none⟩) (1 + s1.length) cN)).set (k := W5.heap.size) (i := 1) (by omega) (.slice xS2 s2.length gS2))
            have vs1 := OS1.out.agr (((Agr.refl _ _ _).set (k := W5.heap.size) (i := 0) (by omega) (.slice (some ⟨gN, 0, none⟩) (1 + s1.length) cN)).set (k := W5.heap.size) (i := 1) (by omega) (.slice xS2 s2.length gS2))
            have vs2 := OS2.out.agr (((Agr.refl _ _ _).set (k := W5.heap.size) (i := 0) (by omega) (.slice (some ⟨gN, 0, none⟩) (1 + s1.length) cN)).set (k := W5.heap.size) (i := 1) (by omega) (.slice xS2 s2.length gS2))
            obtain ⟨W8, hW⟩ : ∃ v, v = (W7.setCell ⟨W5.heap.size, 0, none⟩ (.slice (some ⟨gN, 0, none⟩) (1 + s1.length) cN)).setCell ⟨W5.heap.size, 1, none⟩ (.slice xS2 s2.length gS2) := ⟨_, rfl⟩
            rw [← hW] at vu vA vR vT vh vs vn vs1 vs2 ⊢
            have hz8 : W7.heap.size ≤ W8.heap.size := by omega
            replace BU := Lib.hid vu
            replace BA := Lib.hid vA
            replace BR := Lib.hid vR
            replace BT := Lib.hid vT
            replace H := Lib.hid vh
            replace ON := Lib.hid vn
            replace OS1 := Lib.hid vs1
            replace OS2 := Lib.hid vs2
            clear hW vu vA vR vT vh vs vn vs1 vs2 cU1 cU2 cU3 cU4
            refine hK.out _ _ (by exact ⟨(blk2 BT.out).1, (blk2 BT.out).2.1⟩) (fun hHeld2 => ?_)
            clear hK K hHeld
            have hHeld := hHeld2
            clear hHeld2
            (try simp only [Act.put, List.setIfInBounds_toArray, List.set_cons_zero, List.set_cons_succ])
            refine wpAnyH_done (by kernel_rfl) ?_ _
            obtain ⟨cA1, cA2, _, _⟩ := blk2 BA.out
            obtain ⟨cR1, cR2, _, _⟩ := blk2 BR.out
            obtain ⟨cT1, cT2, _, _⟩ := blk2 BT.out
            obtain ⟨cU1, cU2, _, _⟩ := blk2 BU.out
            go_wp2_with fail
            clear cA1 cA2 cR1 cR2 cT1 cT2 cU1 cU2
            have hcall := specStreamOk_any (some ⟨gN, 0, none⟩) xS2 cN gS2 ([bit] ++ s1) s2 W8 gN (gN + 1) loS hiS ON.out.rd OS2.out.rd (by omega) (by omega) (by rw [HLN.out]; omega) (by omega)
            rw [HLN.out, HSA.out] at hcall
            have HCALL := Lib.hid hcall
            clear hcall
            by_cases h12 : s1.length + s2.length < 12
            · have HD : Hid (decide (s1.length + s2.length < 12) = true) := Lib.hid (decide_eq_true h12)
              refine HCALL.out.mono ?_
              rintro e W9 ⟨rfl, hb⟩
              rw [HD.out]
              clear HCALL
              have hz9 : W8.heap.size ≤ W9.heap.size := hb.size
              replace BA := Lib.hid (hb.blk BA.out (blk_lt BA.out))
              replace BR := Lib.hid (hb.blk BR.out (blk_lt BR.out))
              replace BT := Lib.hid (hb.blk BT.out (blk_lt BT.out))
              replace BU := Lib.hid (hb.blk BU.out (blk_lt BU.out))
              replace OS1 := Lib.hid (OS1.out.below hb (by omega))
              replace OS2 := Lib.hid (OS2.out.below hb (by omega))
              replace H := Lib.hid (below_then H.out hb)
              replace ON := Lib.hid (ON.out.below hb (by omega))
              clear hb
              obtain ⟨cA1, cA2, _, _⟩ := blk2 BA.out
              obtain ⟨cR1, cR2, _, _⟩ := blk2 BR.out
              obtain ⟨cT1, cT2, _, _⟩ := blk2 BT.out
              obtain ⟨cU1, cU2, _, _⟩ := blk2 BU.out
              go_wp2_with fail
              clear cA1 cA2 cR1 cR2 cT1 cT2 cU1 cU2
              have hcall := specShortOf_any (some ⟨gN, 0, none⟩) xS2 cN gS2 ([bit] ++ s1) s2 W9 0 W9.heap.size (ON.out.rd.mono (Nat.zero_le _) (by omega)) (OS2.out.rd.mono (Nat.zero_le _) (by omega)) (Nat.le_refl _) (by rw [HLN.out]; omega) (by omega)
              rw [HLN.out] at hcall
              refine hcall.mono ?_
              rintro e W10 ⟨m1, m2, hsm, xM1, gM1, xM2, gM2, rfl, o1, o2, hd, hb⟩
              have HANS : Hid (PutAns bit l1 l2 m1 m2 true) := Lib.hid (by
                rcases hsm with ⟨_, hm, _, _, hms⟩ | ⟨h0, _⟩
                · unfold streamB at hms
                  simp only [Bool.and_eq_true, decide_eq_true_eq] at hms
                  exact .inr ⟨rfl, HBT.out, HST.out, s1, s2, HF.out, h12, hm, by omega, by omega⟩
                · rw [HSA.out, HD.out] at h0; cases h0)
              clear hcall hsm
              have hz10 : W9.heap.size ≤ W10.heap.size := hb.size
              replace BA := Lib.hid (hb.blk BA.out (blk_lt BA.out))
              replace BR := Lib.hid (hb.blk BR.out (blk_lt BR.out))
              replace BT := Lib.hid (hb.blk BT.out (blk_lt BT.out))
              replace BU := Lib.hid (hb.blk BU.out (blk_lt BU.out))
              replace OS1 := Lib.hid (OS1.out.below hb (by omega))
              replace OS2 := Lib.hid (OS2.out.below hb (by omega))
              replace H := Lib.hid (below_then H.out hb)
              obtain ⟨loM, hlo⟩ : ∃ v, v = W9.heap.size := ⟨_, rfl⟩
              obtain ⟨hiM, hhi⟩ : ∃ v, v = W10.heap.size := ⟨_, rfl⟩
              rw [← hlo, ← hhi] at o1 o2
              have OM1 := Lib.hid o1
              have OM2 := Lib.hid o2
              have DM := Lib.hid hd
              have hlhM : loM ≤ hiM := by omega
              have hhwM : hiM ≤ W10.heap.size := by omega
              have hwlM : w.heap.size < loM := by omega
              have hccSM : hiS ≤ loM := by omega
              have hbcAM : w.heap.size < loM := by omega
              have hbcRM : w.heap.size + 1 < loM := by omega
              have hbcTM : W2.heap.size < loM := by omega
              have hbcUM : W5.heap.size < loM := by omega
              clear hlo hhi o1 o2 hd
              clear hb
              have hwR := blk_lt BR.out
              obtain ⟨cR1, cR2, cR3, cR4⟩ := blk2 BR.out
              go_wp2_with fail
              have r0 := blk_set (.slice xM2 m2.length gM2) (i := 1) (blk_set (.slice xM1 m1.length gM1) (i := 0) BR.out)
              have r1 := (blk2 r0).1
              have r2 := (blk2 r0).2.1
              clear r0 cR1 cR2 cR3 cR4
              refine bodyPost_ret (v := .tuple #[.agg #[.slice xM1 m1.length gM1, .slice xM2 m2.length gM2], .bool true]) (by simp [results, Try.results35, go_sem, r1, r2]) rfl ⟨m1, m2, true, HANS.out, xM1, gM1, xM2, gM2, rfl, ?_, ?_, DM.out, (H.out.setCell (by simp) _).setCell (by simp) _⟩
              · exact (OM1.out.agr (((Agr.refl _ _ _).set (by omega) _).set (by omega) _)).mono (by omega) (by simp; omega)
              · exact (OM2.out.agr (((Agr.refl _ _ _).set (by omega) _).set (by omega) _)).mono (by omega) (by simp; omega)
            · have HD : Hid (decide (s1.length + s2.length < 12) = false) := Lib.hid (decide_eq_false h12)
              have HW : Hid (∃ s1 s2, ShortFor (bitOf l1 l2) s1 s2 ∧ 12 ≤ s1.length + s2.length) := Lib.hid ⟨s1, s2, HF.out, by omega⟩
              refine HCALL.out.mono ?_
              rintro e W9 ⟨rfl, hb⟩
              rw [HD.out]
              clear HCALL
              have hz9 : W8.heap.size ≤ W9.heap.size := hb.size
              replace BA := Lib.hid (hb.blk BA.out (blk_lt BA.out))
              replace BR := Lib.hid (hb.blk BR.out (blk_lt BR.out))
              replace BT := Lib.hid (hb.blk BT.out (blk_lt BT.out))
              replace BU := Lib.hid (hb.blk BU.out (blk_lt BU.out))
              replace OS1 := Lib.hid (OS1.out.below hb (by omega))
              replace OS2 := Lib.hid (OS2.out.below hb (by omega))
              replace H := Lib.hid (below_then H.out hb)
              replace ON := Lib.hid (ON.out.below hb (by omega))
              clear hb
              have hwR := blk_lt BR.out
              obtain ⟨cR1, cR2, cR3, cR4⟩ := blk2 BR.out
              go_wp2_with fail
              have r0 := blk_set (.slice none 0 0) (i := 1) (blk_set (.slice none 0 0) (i := 0) BR.out)
              have r1 := (blk2 r0).1
              have r2 := (blk2 r0).2.1
              clear r0 cR1 cR2 cR3 cR4
              refine bodyPost_ret (v := .tuple #[.agg #[.slice none 0 0, .slice none 0 0], .bool false]) (by simp [results, Try.results35, go_sem, r1, r2]) rfl ⟨[], [], false, .inl ⟨rfl, rfl, rfl, .inr (.inr HW.out)⟩, RetSB.zero ((H.out.setCell (by simp) _).setCell (by simp) _)⟩
      · skip
        go_simp
        have hnew := blk_new (w := W4) (o := .cells #[.slice none 0 0, .slice none 0 0] 34 (0, 0)) rfl
        have hb := below_alloc W4 (.cells #[.slice none 0 0, .slice none 0 0] 34 (0, 0))
        have hs1 : W4.heap.size < (W4.alloc (.cells #[.slice none 0 0, .slice none 0 0] 34 (0, 0))).heap.size := by simp
        obtain ⟨W5, hW⟩ : ∃ v, v = W4.alloc (.cells #[.slice none 0 0, .slice none 0 0] 34 (0, 0)) := ⟨_, rfl⟩
        rw [← hW] at hnew hb hs1 ⊢
        clear hW
        have hz5 : W4.heap.size ≤ W5.heap.size := hb.size
        replace BA := Lib.hid (hb.blk BA.out (blk_lt BA.out))
        replace BR := Lib.hid (hb.blk BR.out (blk_lt BR.out))
        replace BT := Lib.hid (hb.blk BT.out (blk_lt BT.out))
        replace OS1 := Lib.hid (OS1.out.below hb (by omega))
        replace OS2 := Lib.hid (OS2.out.below hb (by omega))
        replace H := Lib.hid (below_then H.out hb)
        have BU := Lib.hid hnew
        clear hnew hb
        have hcUS : hiS ≤ W4.heap.size := by omega
        refine hK.out _ _ (by exact ⟨(blk2 BT.out).1, (blk2 BT.out).2.1⟩) (fun hHeld2 => ?_)
        clear hK K hHeld
        have hHeld := hHeld2
        clear hHeld2
        (try simp only [Act.put, List.setIfInBounds_toArray, List.set_cons_zero, List.set_cons_succ])
        refine wpAnyH_ready (rs := [1]) (by kernel_rfl) (by simp) ?_
        refine AllReadyH.cons rfl (fun K hK => ?_) (AllReadyH.nil)
        · skip
          go_simp
          have o1 := OwI_one W5 3 bit
          have hb := below_alloc W5 (.cells #[.int .i64 bit] 3)
          have hs1 : W5.heap.size < (W5.alloc (.cells #[.int .i64 bit] 3)).heap.size := by simp
          obtain ⟨W6, hW⟩ : ∃ v, v = W5.alloc (.cells #[.int .i64 bit] 3) := ⟨_, rfl⟩
          rw [← hW] at o1 hb hs1 ⊢
          clear hW
          have hz6 : W5.heap.size ≤ W6.heap.size := hb.size
          replace BA := Lib.hid (hb.blk BA.out (blk_lt BA.out))
          replace BR := Lib.hid (hb.blk BR.out (blk_lt BR.out))
          replace BT := Lib.hid (hb.blk BT.out (blk_lt BT.out))
          replace BU := Lib.hid (hb.blk BU.out (blk_lt BU.out))
          replace OS1 := Lib.hid (OS1.out.below hb (by omega))
          replace OS2 := Lib.hid (OS2.out.below hb (by omega))
          replace H := Lib.hid (below_then H.out hb)
          have ON := Lib.hid o1
          have hwN : w.heap.size + 1 < W5.heap.size := by omega
          clear o1 hb
          have hcNS : hiS ≤ W5.heap.size := by omega
          refine hK.out _ _ (by exact ⟨(blk2 BT.out).1, (blk2 BT.out).2.1⟩) (fun hHeld2 => ?_)
          clear hK K hHeld
          have hHeld := hHeld2
          clear hHeld2
          (try simp only [Act.put, List.setIfInBounds_toArray, List.set_cons_zero, List.set_cons_succ])
          refine wpAnyH_ready (rs := [4]) (by kernel_rfl) (by simp) ?_
          refine AllReadyH.cons rfl (fun K hK => ?_) (AllReadyH.nil)
          · skip
            refine step_appIs Try.underlying29 Try.infoInt _ (by rfl) _ _ (by rfl) W5.heap.size (W5.heap.size + 1) (some ⟨W5.heap.size, 0, none⟩) 1 [bit] ?_ ON.out (by omega) loS hiS xS1 gS1 s1 ?_ OS1.out.rd OS1.out.nilcap hlap ?_
            · rfl
            · rfl
            intro aN cN W7 hown hgrow hat
            have hc : Chg (fun q => q = W5.heap.size) W6 W7 := (Chg.refl _ _).grown hgrow (fun q hq => .inl (by cases hq; rfl))
            have hz7 : W6.heap.size ≤ W7.heap.size := hc.size
            obtain ⟨gN, e0, _, _, _, _, hgN⟩ := hown.at0 (by simp)
            subst e0
            have hgg : gN = W5.heap.size ∨ gN = W6.heap.size := by
              rcases hat with hh | hh
              · left; cases hh; rfl
              · right; cases hh; rfl
            replace ON := Lib.hid hown.tight
            replace BA := Lib.hid (hc.blk BA.out (by omega))
            replace BR := Lib.hid (hc.blk BR.out (by omega))
            replace BT := Lib.hid (hc.blk BT.out (by omega))
            replace BU := Lib.hid (hc.blk BU.out (by omega))
            replace OS1 := Lib.hid (OS1.out.agr (hc.agr (by omega) (fun q h1 h2 h3 => by omega)))
            replace OS2 := Lib.hid (OS2.out.agr (hc.agr (by omega) (fun q h1 h2 h3 => by omega)))
            replace H := Lib.hid (H.out.trans (hc.below (D := w.heap.size) (fun q hq => by omega) H.out.size))
            have hNbA : gN < w.heap.size ∨ w.heap.size < gN := by omega
            have hNbR : gN < w.heap.size + 1 ∨ w.heap.size + 1 < gN := by omega
            have hNbT : gN < W2.heap.size ∨ W2.heap.size < gN := by omega
            have hNbU : gN < W4.heap.size ∨ W4.heap.size < gN := by omega
            have hNcS : gN < loS ∨ hiS ≤ gN := by omega
            clear hc hown hgrow hat hgg
            refine hK.out _ _ (by exact ⟨(blk2 BT.out).1, (blk2 BT.out).2.1⟩) (fun hHeld2 => ?_)
            clear hK K hHeld
            have hHeld := hHeld2
            clear hHeld2
            (try simp only [Act.put, List.setIfInBounds_toArray, List.set_cons_zero, List.set_cons_succ])
            refine wpAnyH_take (i := 7) (v := ?_) rfl (by kernel_rfl) (by kernel_rfl) (by kernel_rfl) (fun _ _ _ h => h) (Or.inl ⟨by rfl, ?_⟩) hHeld ?_
            rotate_left
            · intro w hSw; (try dsimp only at hSw); first | (go_simp; done) | (go_simp; with_reducible rfl)
            simp only [Act.put, List.setIfInBounds_toArray, List.set_cons_zero, List.set_cons_succ, List.getElem_toArray, List.getElem_cons_zero, List.getElem_cons_succ]
            have hUN : gN ≠ W4.heap.size := by omega
            refine wpAnyH_ready (rs := [9]) (by kernel_rfl) (by simp) ?_
            refine AllReadyH.cons rfl (fun K hK => ?_) (AllReadyH.nil)
            obtain ⟨cU1, cU2, cU3, cU4⟩ := blk2 BU.out
            go_simp
            have vu := blk_set (.slice xS2 s2.length gS2) (i := 1) (blk_set (.slice (some ⟨gN, 0, none⟩) (1 + s1.length) cN) (i := 0) BU.out)
            have vA := blk_set_other (.slice xS2 s2.length gS2) (i := 1) (k := W4.heap.size) (blk_set_other (.slice (some ⟨gN, 0, none⟩) (1 + s1.length) cN) (i := 0) (k := W4.heap.size) BA.out (by omega)) (by omega)
            have vR := blk_set_other (.slice xS2 s2.length gS2) (i := 1) (k := W4.heap.size) (blk_set_other (.slice (some ⟨gN, 0, none⟩) (1 + s1.length) cN) (i := 0) (k := W4.heap.size) BR.out (by omega)) (by omega)
            have vT := blk_set_other (.slice xS2 s2.length gS2) (i := 1) (k := W4.heap.size) (blk_set_other (.slice (some ⟨gN, 0, none⟩) (1 + s1.length) cN) (i := 0) (k := W4.heap.size) BT.out (by omega)) (by omega)
            have vh := (H.out.setCell (p := ⟨W4.heap.size, 0, none⟩) (by dsimp; omega) (.slice (some ⟨gN, 0, none⟩) (1 + s1.length) cN)).setCell (p := ⟨W4.heap.size, 1, none⟩) (by dsimp; omega) (.slice xS2 s2.length gS2)
            have vs : ((W7.setCell ⟨W4.heap.size, 0, none⟩ (.slice (some ⟨gN, 0, none⟩) (1 + s1.length) cN)).setCell ⟨W4.heap.size, 1, none⟩ (.slice xS2 s2.length gS2)).heap.size = W7.heap.size := by simp
            have vn := ON.out.agr (((Agr.refl _ _ _).set (k := W4.heap.size) (i := 0) (by omega) (.slice (some ⟨gN, 0, none⟩) (1 + s1.length) cN)).set (k := W4.heap.size) (i := 1) (by omega) (.slice xS2 s2.length gS2))
            have vs1 := OS1.out.agr (((Agr.refl _ _ _).set (k := W4.heap.size) (i := 0) (by omega) (.slice (some ⟨gN, 0, none⟩) (1 + s1.length) cN)).set (k := W4.heap.size) (i := 1) (by omega) (.slice xS2 s2.length gS2))
            have vs2 := OS2.out.agr (((Agr.refl _ _ _).set (k := W4.heap.size) (i := 0) (by omega) (.slice (some ⟨gN, 0, none⟩) (1 + s1.length) cN)).set (k := W4.heap.size) (i := 1) (by omega) (.slice xS2 s2.length gS2))
            obtain ⟨W8, hW⟩ : ∃ v, v = (W7.setCell ⟨W4.heap.size, 0, none⟩ (.slice (some ⟨gN, 0, none⟩) (1 + s1.length) cN)).setCell ⟨W4.heap.size, 1, none⟩ (.slice xS2 s2.length gS2) := ⟨_, rfl⟩
            rw [← hW] at vu vA vR vT vh vs vn vs1 vs2 ⊢
            have hz8 : W7.heap.size ≤ W8.heap.size := by omega
            replace BU := Lib.hid vu
            replace BA := Lib.hid vA
            replace BR := Lib.hid vR
            replace BT := Lib.hid vT
            replace H := Lib.hid vh
            replace ON := Lib.hid vn
            replace OS1 := Lib.hid vs1
            replace OS2 := Lib.hid vs2
            clear hW vu vA vR vT vh vs vn vs1 vs2 cU1 cU2 cU3 cU4
            refine hK.out _ _ (by exact ⟨(blk2 BT.out).1, (blk2 BT.out).2.1⟩) (fun hHeld2 => ?_)
            clear hK K hHeld
            have hHeld := hHeld2
            clear hHeld2
            (try simp only [Act.put, List.setIfInBounds_toArray, List.set_cons_zero, List.set_cons_succ])
            refine wpAnyH_done (by kernel_rfl) ?_ _
            obtain ⟨cA1, cA2, _, _⟩ := blk2 BA.out
            obtain ⟨cR1, cR2, _, _⟩ := blk2 BR.out
            obtain ⟨cT1, cT2, _, _⟩ := blk2 BT.out
            obtain ⟨cU1, cU2, _, _⟩ := blk2 BU.out
            go_wp2_with fail
            clear cA1 cA2 cR1 cR2 cT1 cT2 cU1 cU2
            have hcall := specStreamOk_any (some ⟨gN, 0, none⟩) xS2 cN gS2 ([bit] ++ s1) s2 W8 gN (gN + 1) loS hiS ON.out.rd OS2.out.rd (by omega) (by omega) (by rw [HLN.out]; omega) (by omega)
            rw [HLN.out, HSA.out] at hcall
            have HCALL := Lib.hid hcall
            clear hcall
            by_cases h12 : s1.length + s2.length < 12
            · have HD : Hid (decide (s1.length + s2.length < 12) = true) := Lib.hid (decide_eq_true h12)
              refine HCALL.out.mono ?_
              rintro e W9 ⟨rfl, hb⟩
              rw [HD.out]
              clear HCALL
              have hz9 : W8.heap.size ≤ W9.heap.size := hb.size
              replace BA := Lib.hid (hb.blk BA.out (blk_lt BA.out))
              replace BR := Lib.hid (hb.blk BR.out (blk_lt BR.out))
              replace BT := Lib.hid (hb.blk BT.out (blk_lt BT.out))
              replace BU := Lib.hid (hb.blk BU.out (blk_lt BU.out))
              replace OS1 := Lib.hid (OS1.out.below hb (by omega))
              replace OS2 := Lib.hid (OS2.out.below hb (by omega))
              replace H := Lib.hid (below_then H.out hb)
              replace ON := Lib.hid (ON.out.below hb (by omega))
              clear hb
              obtain ⟨cA1, cA2, _, _⟩ := blk2 BA.out
              obtain ⟨cR1, cR2, _, _⟩ := blk2 BR.out
              obtain ⟨cT1, cT2, _, _⟩ := blk2 BT.out
              obtain ⟨cU1, cU2, _, _⟩ := blk2 BU.out
              go_wp2_with fail
              clear cA1 cA2 cR1 cR2 cT1 cT2 cU1 cU2
              have hcall := specShortOf_any (some ⟨gN, 0, none⟩) xS2 cN gS2 ([bit] ++ s1) s2 W9 0 W9.heap.size (ON.out.rd.mono (Nat.zero_le _) (by omega)) (OS2.out.rd.mono (Nat.zero_le _) (by omega)) (Nat.le_refl _) (by rw [HLN.out]; omega) (by omega)
              rw [HLN.out] at hcall
              refine hcall.mono ?_
              rintro e W10 ⟨m1, m2, hsm, xM1, gM1, xM2, gM2, rfl, o1, o2, hd, hb⟩
              have HANS : Hid (PutAns bit l1 l2 m1 m2 true) := Lib.hid (by
                rcases hsm with ⟨_, hm, _, _, hms⟩ | ⟨h0, _⟩
                · unfold streamB at hms
                  simp only [Bool.and_eq_true, decide_eq_true_eq] at hms
                  exact .inr ⟨rfl, HBT.out, HST.out, s1, s2, HF.out, h12, hm, by omega, by omega⟩
                · rw [HSA.out, HD.out] at h0; cases h0)
              clear hcall hsm
              have hz10 : W9.heap.size ≤ W10.heap.size := hb.size
              replace BA := Lib.hid (hb.blk BA.out (blk_lt BA.out))
              replace BR := Lib.hid (hb.blk BR.out (blk_lt BR.out))
              replace BT := Lib.hid (hb.blk BT.out (blk_lt BT.out))
              replace BU := Lib.hid (hb.blk BU.out (blk_lt BU.out))
              replace OS1 := Lib.hid (OS1.out.below hb (by omega))
              replace OS2 := Lib.hid (OS2.out.below hb (by omega))
              replace H := Lib.hid (below_then H.out hb)
              obtain ⟨loM, hlo⟩ : ∃ v, v = W9.heap.size := ⟨_, rfl⟩
              obtain ⟨hiM, hhi⟩ : ∃ v, v = W10.heap.size := ⟨_, rfl⟩
              rw [← hlo, ← hhi] at o1 o2
              have OM1 := Lib.hid o1
              have OM2 := Lib.hid o2
              have DM := Lib.hid hd
              have hlhM : loM ≤ hiM := by omega
              have hhwM : hiM ≤ W10.heap.size := by omega
              have hwlM : w.heap.size < loM := by omega
              have hccSM : hiS ≤ loM := by omega
              have hbcAM : w.heap.size < loM := by omega
              have hbcRM : w.heap.size + 1 < loM := by omega
              have hbcTM : W2.heap.size < loM := by omega
              have hbcUM : W4.heap.size < loM := by omega
              clear hlo hhi o1 o2 hd
              clear hb
              have hwR := blk_lt BR.out
              obtain ⟨cR1, cR2, cR3, cR4⟩ := blk2 BR.out
              go_wp2_with fail
              have r0 := blk_set (.slice xM2 m2.length gM2) (i := 1) (blk_set (.slice xM1 m1.length gM1) (i := 0) BR.out)
              have r1 := (blk2 r0).1
              have r2 := (blk2 r0).2.1
              clear r0 cR1 cR2 cR3 cR4
              refine bodyPost_ret (v := .tuple #[.agg #[.slice xM1 m1.length gM1, .slice xM2 m2.length gM2], .bool true]) (by simp [results, Try.results35, go_sem, r1, r2]) rfl ⟨m1, m2, true, HANS.out, xM1, gM1, xM2, gM2, rfl, ?_, ?_, DM.out, (H.out.setCell (by simp) _).setCell (by simp) _⟩
              · exact (OM1.out.agr (((Agr.refl _ _ _).set (by omega) _).set (by omega) _)).mono (by omega) (by simp; omega)
              · exact (OM2.out.agr (((Agr.refl _ _ _).set (by omega) _).set (by omega) _)).mono (by omega) (by simp; omega)
            · have HD : Hid (decide (s1.length + s2.length < 12) = false) := Lib.hid (decide_eq_false h12)
              have HW : Hid (∃ s1 s2, ShortFor (bitOf l1 l2) s1 s2 ∧ 12 ≤ s1.length + s2.length) := Lib.hid ⟨s1, s2, HF.out, by omega⟩
              refine HCALL.out.mono ?_
              rintro e W9 ⟨rfl, hb⟩
              rw [HD.out]
              clear HCALL
              have hz9 : W8.heap.size ≤ W9.heap.size := hb.size
              replace BA := Lib.hid (hb.blk BA.out (blk_lt BA.out))
              replace BR := Lib.hid (hb.blk BR.out (blk_lt BR.out))
              replace BT := Lib.hid (hb.blk BT.out (blk_lt BT.out))
              replace BU := Lib.hid (hb.blk BU.out (blk_lt BU.out))
              replace OS1 := Lib.hid (OS1.out.below hb (by omega))
              replace OS2 := Lib.hid (OS2.out.below hb (by omega))
              replace H := Lib.hid (below_then H.out hb)
              replace ON := Lib.hid (ON.out.below hb (by omega))
              clear hb
              have hwR := blk_lt BR.out
              obtain ⟨cR1, cR2, cR3, cR4⟩ := blk2 BR.out
              go_wp2_with fail
              have r0 := blk_set (.slice none 0 0) (i := 1) (blk_set (.slice none 0 0) (i := 0) BR.out)
              have r1 := (blk2 r0).1
              have r2 := (blk2 r0).2.1
              clear r0 cR1 cR2 cR3 cR4
              refine bodyPost_ret (v := .tuple #[.agg #[.slice none 0 0, .slice none 0 0], .bool false]) (by simp [results, Try.results35, go_sem, r1, r2]) rfl ⟨[], [], false, .inl ⟨rfl, rfl, rfl, .inr (.inr HW.out)⟩, RetSB.zero ((H.out.setCell (by simp) _).setCell (by simp) _)⟩
end Go.Proofs.Ytgfoolneophkcaa
