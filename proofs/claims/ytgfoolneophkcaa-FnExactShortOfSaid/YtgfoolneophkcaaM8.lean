/- spec.ShortOf, walked. -/
import Derived.Deep.RegionLaw
import Derived.Deep.Cut
import Derived.Test.YtgfoolneophkcaaM5
import Derived.Test.YtgfoolneophkcaaM6
namespace Go.Hyp
open Go.RowKit Go.Deep
theorem bitOf_bitB {l1 l2 : List Int} (h : streamB l1 l2 = true) (k : Nat) : bitB (bitOf l1 l2 k) = true := by
  unfold streamB bitsB at h
  simp only [Bool.and_eq_true, decide_eq_true_eq, List.all_eq_true] at h
  obtain ⟨⟨⟨b1, b2⟩, b3⟩, _⟩ := h
  unfold bitOf
  by_cases hk : k < l1.length
  · rw [if_pos hk]
    have : l1.getD k 0 = l1[k] := by simp [List.getD, hk]
    rw [this]; exact b1 _ (List.getElem_mem hk)
  · rw [if_neg hk]
    have hm : (k - l1.length) % l2.length < l2.length := Nat.mod_lt _ (by omega)
    have : l2.getD ((k - l1.length) % l2.length) 0 = l2[(k - l1.length) % l2.length] := by simp [List.getD, hm]
    rw [this]; exact b2 _ (List.getElem_mem hm)
theorem bitsOf_bits {l1 l2 : List Int} (h : streamB l1 l2 = true) (a n : Nat) : bitsB (bitsOf (bitOf l1 l2) a n) = true := by
  unfold bitsB bitsOf
  rw [List.all_eq_true]
  intro x hx
  obtain ⟨i, _, rfl⟩ := List.mem_map.1 hx
  exact bitOf_bitB h _
theorem told_stream {l1 l2 : List Int} (h : streamB l1 l2 = true) {a g : Nat} (ha : a ≤ l1.length) (hg : 0 < g) (hgl : g ≤ l2.length) : streamB (bitsOf (bitOf l1 l2) 0 a) (bitsOf (bitOf l1 l2) a g) = true := by
  have h2 := h
  unfold streamB at h2 ⊢
  simp only [Bool.and_eq_true, decide_eq_true_eq] at h2
  rw [bitsOf_bits h, bitsOf_bits h, bitsOf_len, bitsOf_len, decide_eq_true (by omega), decide_eq_true (by omega)]; rfl
theorem told_iff {l1 l2 : List Int} (h : streamB l1 l2 = true) {a g : Nat} (ha : a ≤ l1.length) (hg : 0 < g) (hgl : g ≤ l2.length) : SameP (bitsOf (bitOf l1 l2) 0 a) (bitsOf (bitOf l1 l2) a g) l1 l2 ↔ Per (bitOf l1 l2) a g :=
  ⟨fun hs => (told_same hg).1 hs.2.2, fun hp => ⟨told_stream h ha hg hgl, h, (told_same hg).2 hp⟩⟩
theorem bitAt_at {l1 l2 : List Int} (h : streamB l1 l2 = true) {k : Nat} (hk : k ≤ 999) : bitAtI l1 l2 k = bitOf l1 l2 k := by
  have : (streamB l1 l2 && (decide (0 ≤ (k : Int)) && decide ((k : Int) ≤ 999))) = true := by rw [h]; simp; omega
  unfold bitAtI; rw [if_pos this]; simp
theorem below_app2 {W w w1 : World} {o : Obj} {r : Option Nat} (h : Below W.heap.size W w) (hg : (w.alloc o).grownBy w1 r) (hr : ∀ k, r = some k → W.heap.size ≤ k) : Below W.heap.size W w1 :=
  (h.alloc h.size o).grown hg (by have := h.size; simp; omega) hr
end Go.Hyp
namespace Go.Proofs.Ytgfoolneophkcaa
open Go.RowKit Go.Hyp Go.Deep

set_option maxRecDepth 8000 in
set_option maxHeartbeats 4000000 in
theorem specShortOf_any (a1 a2 : Option Addr) (c1 c2 : Nat) (l1 l2 : List Int) (w : World) (B C : Nat) (h1 : RdI w B C a1 l1) (h2 : RdI w B C a2 l2) (hC : C ≤ w.heap.size) (hl1 : l1.length ≤ 1048576) (hl2 : l2.length ≤ 1048576) :
    Calls Try.prog 28 #[.agg #[.slice a1 l1.length c1, .slice a2 l2.length c2]] w fun e w' => ∃ m1 m2, ShortAns l1 l2 m1 m2 ∧ RetS 3 m1 m2 w e w' := by
  have hb := (below_alloc w (.cells #[.slice a1 l1.length c1, .slice a2 l2.length c2] 34)).alloc (by simp) (.cells #[.slice none 0 0, .slice none 0 0] 34)
  have b0 := alloc2 w (.cells #[.slice a1 l1.length c1, .slice a2 l2.length c2] 34) (.cells #[.slice none 0 0, .slice none 0 0] 34)
  have F1 := Lib.hid h1
  have F2 := Lib.hid h2
  have HB := Lib.hid hb
  have B0 := Lib.hid b0
  clear h1 h2 hb b0
  cases hy : streamB l1 l2
  · have HY := Lib.hid hy
    clear hy
    go_enter Try.func28, Try.ntmps28
    go_wp2_with fail
    refine (specStreamOk_any a1 a2 c1 c2 l1 l2 _ B C B C (F1.out.below HB.out hC) (F2.out.below HB.out hC) (by simp; omega) (by simp; omega) hl1 hl2).mono ?_
    rintro e w1 ⟨rfl, hb1⟩
    rw [HY.out]
    have x2 := hb1.blk B0.out.2 (by simp)
    obtain ⟨q1, q2, q3, q4⟩ := blk2 x2
    have X2 := Lib.hid x2
    have H1 := Lib.hid (below_trans HB.out (hb1.mono (by first | (simp; done) | (simp; omega))))
    have hlt := lt_of_block x2
    clear hb1 x2
    go_wp2_with fail
    have r0 := blk_set (.slice none 0 0) (i := 1) (blk_set (.slice none 0 0) (i := 0) X2.out)
    have r1 := (blk2 r0).1
    have r2 := (blk2 r0).2.1
    clear r0 q1 q2 q3 q4
    refine bodyPost_ret (v := .agg #[.slice none 0 0, .slice none 0 0]) (by simp [results, Try.results28, go_sem, r1, r2]) rfl ⟨[], [], .inr ⟨HY.out, rfl, rfl⟩, none, 0, none, 0, rfl, .inl ⟨rfl, rfl, rfl⟩, .inl ⟨rfl, rfl, rfl⟩, ?_, (H1.out.setCell (by simp) _).setCell (by simp) _⟩
    intro x y hx; cases hx
  · have HY := Lib.hid hy
    have hlen : l1.length + l2.length ≤ 12 ∧ 1 ≤ l2.length := by
      unfold streamB at hy
      simp only [Bool.and_eq_true, decide_eq_true_eq] at hy
      omega
    obtain ⟨hl12, hl20⟩ := hlen
    obtain ⟨f, hf⟩ : ∃ f, f = bitOf l1 l2 := ⟨_, rfl⟩
    have HF := Lib.hid hf
    have HPER : Hid (Per f l1.length l2.length) := Lib.hid (by rw [hf]; exact bitOf_per l1 l2)
    clear hy hf
    go_enter Try.func28, Try.ntmps28
    go_wp2_with fail
    refine (specStreamOk_any a1 a2 c1 c2 l1 l2 _ B C B C (F1.out.below HB.out hC) (F2.out.below HB.out hC) (by simp; omega) (by simp; omega) hl1 hl2).mono ?_
    rintro e w1 ⟨rfl, hb1⟩
    rw [HY.out]
    have X1 := Lib.hid (hb1.blk B0.out.1 (by simp; omega))
    have X2 := Lib.hid (hb1.blk B0.out.2 (by simp))
    have H1 := Lib.hid (below_trans HB.out (hb1.mono (by first | (simp; done) | (simp; omega))))
    have hz1 : w.heap.size + 2 ≤ w1.heap.size := by have := hb1.size; simpa using this
    obtain ⟨p1, p2, p3, p4⟩ := blk2 X1.out
    clear hb1 B0 HB
    go_wp2_with fail
    go_loopw [3] (fun av wr => ∃ a : Nat, a ≤ l1.length + 1 ∧ av = .int .i64 a ∧ (∀ a' g', a' < a → 0 < g' → g' ≤ l2.length → ¬ Per f a' g') ∧ wr.heap[w.heap.size]? = some (.cells #[.slice a1 l1.length c1, .slice a2 l2.length c2] 34 (0, 0)) ∧ wr.heap[w.heap.size + 1]? = some (.cells #[.slice none 0 0, .slice none 0 0] 34 (0, 0)) ∧ Below w.heap.size w wr) (fun av _ => l1.length + 1 - (intOf av).toNat)
    case atStart => exact ⟨0, Nat.zero_le _, rfl, fun a' g' h => absurd h (Nat.not_lt_zero _), X1.out, X2.out, H1.out⟩
    case round =>
      obtain ⟨a, ha, rfl, hno, x1, x2, hb⟩ := hrel
      obtain ⟨wa, hwa⟩ : ∃ v : World, v = wr := ⟨_, rfl⟩
      subst hwa
      obtain ⟨p1, p2, p3, p4⟩ := blk2 x1
      have HNO := Lib.hid hno
      have XA1 := Lib.hid x1
      have XA2 := Lib.hid x2
      have HBA := Lib.hid hb
      have hlta := lt_of_block x1
      clear hno x1 x2 hb X1 X2 H1
      by_cases hal : a ≤ l1.length
      · have hai : (a : Int) ≤ (l1.length : Int) := by omega
        go_wp2_with fail
        clear p1 p2 p3 p4
        go_loopw [4] (fun gv wr => ∃ g : Nat, 1 ≤ g ∧ g ≤ l2.length + 1 ∧ gv = .int .i64 g ∧ (∀ g', 0 < g' → g' < g → ¬ Per f a g') ∧ wr.heap[w.heap.size]? = some (.cells #[.slice a1 l1.length c1, .slice a2 l2.length c2] 34 (0, 0)) ∧ wr.heap[w.heap.size + 1]? = some (.cells #[.slice none 0 0, .slice none 0 0] 34 (0, 0)) ∧ Below w.heap.size w wr) (fun gv _ => l2.length + 1 - (intOf gv).toNat)
        case atStart => exact ⟨1, Nat.le_refl _, by omega, rfl, fun g' h h2 => by omega, XA1.out, XA2.out, HBA.out⟩
        case round =>
          obtain ⟨g, hg1, hg, rfl, hno, x1, x2, hb⟩ := hrel
          obtain ⟨wg, hwg⟩ : ∃ v : World, v = wr := ⟨_, rfl⟩
          subst hwg
          obtain ⟨p1, p2, p3, p4⟩ := blk2 x1
          have HNG := Lib.hid hno
          have XG1 := Lib.hid x1
          have XG2 := Lib.hid x2
          have HBG := Lib.hid hb
          have hltg := lt_of_block x1
          have hltg2 := lt_of_block x2
          clear hno x1 x2 hb XA1 XA2 HBA
          by_cases hgl : g ≤ l2.length
          · have hgi : (g : Int) ≤ (l2.length : Int) := by omega
            have XN := Lib.hid (blk_new (w := wg) (o := .cells #[.slice none 0 0, .slice none 0 0] 34 (0, 0)) rfl)
            have XN1 := Lib.hid (blk_old (o := .cells #[.slice none 0 0, .slice none 0 0] 34 (0, 0)) XG1.out)
            have XN2 := Lib.hid (blk_old (o := .cells #[.slice none 0 0, .slice none 0 0] 34 (0, 0)) XG2.out)
            have HBN := Lib.hid (HBG.out.alloc HBG.out.size (.cells #[.slice none 0 0, .slice none 0 0] 34 (0, 0)))
            have hXs : wg.heap.size < (wg.alloc (.cells #[.slice none 0 0, .slice none 0 0] 34 (0, 0))).heap.size := by simp
            have hX0 : w.heap.size + 1 < wg.heap.size := by omega
            go_wp2_with fail
            have HXS := Lib.hid hXs
            clear hXs p1 p2 p3 p4
            go_loopw [6] (fun kv wr => ∃ (k : Nat) (x : Option Addr) (c : Nat) (L : List Int), k ≤ a ∧ kv = .int .i64 k ∧ L = bitsOf f 0 k ∧ wr.heap[wg.heap.size]? = some (.cells #[.slice x L.length c, .slice none 0 0] 34 (0, 0)) ∧ OwI wr 3 (wg.heap.size + 1) wr.heap.size x c L ∧ wg.heap.size < wr.heap.size ∧ wr.heap[w.heap.size]? = some (.cells #[.slice a1 l1.length c1, .slice a2 l2.length c2] 34 (0, 0)) ∧ wr.heap[w.heap.size + 1]? = some (.cells #[.slice none 0 0, .slice none 0 0] 34 (0, 0)) ∧ Below w.heap.size w wr) (fun kv _ => a - (intOf kv).toNat)
            case atStart => exact ⟨0, none, 0, [], Nat.zero_le _, rfl, rfl, XN.out, .inl ⟨rfl, rfl, rfl⟩, HXS.out, XN1.out, XN2.out, HBN.out⟩
            case round =>
              obtain ⟨k, x, c, L, hk, rfl, hL, xo, ho, hX1, x1, x2, hb⟩ := hrel
              obtain ⟨wk, hwk⟩ : ∃ v : World, v = wr := ⟨_, rfl⟩
              subst hwk
              clear XN XN1 XN2 HBN HXS XG1 XG2 HBG
              have HLE := Lib.hid hL
              have XK := Lib.hid xo
              have HOK := Lib.hid ho
              have XK1 := Lib.hid x1
              have XK2 := Lib.hid x2
              have HBK := Lib.hid hb
              have hlen : L.length = k := by rw [hL, bitsOf_len]
              obtain ⟨p1, p2, p3, p4⟩ := blk2 x1
              obtain ⟨q1, q2, q3, q4⟩ := blk2 xo
              have hltk := lt_of_block x1
              have hltk2 := lt_of_block x2
              have hltX := lt_of_block xo
              have hlL : L.length ≤ 12 := by omega
              clear hlen hL xo ho x1 x2 hb
              by_cases hlt : k < a
              · have hli : ((k : Nat) : Int) < (a : Int) := by omega
                have HA : Hid (bitAtI l1 l2 (k : Nat) = f k) := Lib.hid (by rw [HF.out]; exact bitAt_at HY.out (by omega))
                obtain ⟨v, hv⟩ : ∃ v, v = f k := ⟨_, rfl⟩
                rw [← hv] at HA
                have HV : Hid (bitsOf f 0 (k + 1) = L ++ [v]) := Lib.hid (by rw [bitsOf_succ, HLE.out, hv]; rw [Nat.zero_add])
                have hCk : C ≤ wk.heap.size := Nat.le_trans hC HBK.out.size
                have G1 := Lib.hid (F1.out.below HBK.out.drew hC)
                have G2 := Lib.hid (F2.out.below HBK.out.drew hC)
                have HRR : Hid (∀ q, blockOf x = some q → w.heap.size ≤ q) := Lib.hid fun q hq => by have := HOK.out.block_in hq; omega
                have HN0 := Lib.hid (HOK.out.not_block (k := w.heap.size) (by omega))
                have HN1 := Lib.hid (HOK.out.not_block (k := w.heap.size + 1) (by omega))
                have HNX := Lib.hid (HOK.out.not_block (k := wg.heap.size) (by omega))
                clear hv
                go_wp2_with fail
                go_region_law (first
                    | (refine step_appI Try.underlying29 Try.infoInt _ (by rfl) _ _ (by rfl) (wg.heap.size + 1) wk.heap.size x c L ?_ HO2A.out hB2A ⟨w2.heap.size, 0, none⟩ v ?_ ?_ hL2A ?_
                       · rfl
                       · rfl
                       · exact new_cell _ _ _
                       go_loud (
                       intro gg cap' w3 hown3 hgrow hat hlt3
                       have hb1 := grown_blk hgrow (blk_old Y1.out) HN0.out
                       have hb2' := grown_blk hgrow (blk_old Y2.out) HN1.out
                       have hbX := grown_blk hgrow (blk_old YX.out) HNX.out
                       obtain ⟨p1, p2, p3, p4⟩ := blk2 hb1
                       obtain ⟨q1, q2, q3, q4⟩ := blk2 hbX
                       have Z1 := Lib.hid hb1
                       have Z2 := Lib.hid hb2'
                       have ZX := Lib.hid hbX
                       have HO3 := Lib.hid hown3
                       have hz3 : w2.heap.size ≤ w3.heap.size := by have := hgrow.size; simp at this; omega
                       have HB3 := Lib.hid (below_app2 HB2.out hgrow HRR.out)
                       skip
                       clear hb1 hb2' hbX hown3 hgrow))
                    | (go_simp
                       go_at_call 69
                       refine (specBitAt_any a1 a2 c1 c2 l1 l2 (k : Nat) _ B C B C (by exact G1.out) (by exact G2.out) (by exact hCk) (by exact hCk) hl1 hl2).mono ?_
                       rintro e2 w2 ⟨rfl, hb2⟩
                       rw [HA.out]
                       replace hb2 := undrew hb2
                       have Y1 := Lib.hid (hb2.blk XK1.out hltk)
                       have Y2 := Lib.hid (hb2.blk XK2.out hltk2)
                       have YX := Lib.hid (hb2.blk XK.out hltX)
                       obtain ⟨p1, p2, p3, p4⟩ := blk2 Y1.out
                       obtain ⟨q1, q2, q3, q4⟩ := blk2 YX.out
                       have hz2 : wk.heap.size ≤ w2.heap.size := hb2.size
                       have hX2 : wg.heap.size < w2.heap.size := Nat.lt_of_lt_of_le hltX hz2
                       have hX3 : w.heap.size < w2.heap.size := Nat.lt_of_lt_of_le hltk hz2
                       have HO2 := Lib.hid (HOK.out.below hb2 (Nat.le_refl _))
                       have HB2 := Lib.hid (HBK.out.trans (hb2.mono HBK.out.size))
                       have HO2A := Lib.hid (HO2.out.agr ((Agr.refl _ _ w2).alloc hz2 (.cells #[.int .i64 v] 3)))
                       have hB2A : (wg.heap.size + 1) ≤ (w2.alloc (.cells #[.int .i64 v] 3)).heap.size := by simp; omega
                       have hL2A : L.length ≤ 1048576 := by omega
                       have HBB := Lib.hid hb2
                       clear hb2))
                all_goals
                  go_wp2_with fail
                  go_roundw
                  case rel =>
                    have hl : (L ++ [v]).length = L.length + 1 := by simp
                    refine ⟨k + 1, some ⟨gg, 0, none⟩, cap', L ++ [v], by omega, by go_num, HV.out.symm, by rw [hl]; exact blk_set _ ZX.out, (HO3.out.agr ((Agr.refl _ _ _).set (by omega) _)).mono (Nat.le_refl _) (by simp), by simp; omega, blk_set_other _ Z1.out (by omega), blk_set_other _ Z2.out (by omega), HB3.out.setCell (by simp; omega) _⟩
                  case measure => simp [intOf]; omega
              · obtain rfl : a = k := by omega
                obtain ⟨Y, hY⟩ : ∃ Y, Y = wk.heap.size := ⟨_, rfl⟩
                have hXY : wg.heap.size < Y := by omega
                have hYs : Y ≤ wk.heap.size := by omega
                rw [← hY] at HOK
                clear hY p1 p2 p3 p4 q1 q2 q3 q4
                have HLA := HLE
                clear HLE
                go_wp2_with fail
                go_loopw [7] (fun kv wr => ∃ (j : Nat) (y : Option Addr) (e : Nat) (M : List Int), j ≤ g ∧ kv = .int .i64 (a + j : Nat) ∧ M = bitsOf f a j ∧ wr.heap[wg.heap.size]? = some (.cells #[.slice x L.length c, .slice y M.length e] 34 (0, 0)) ∧ OwI wr 3 Y wr.heap.size y e M ∧ OwI wr 3 (wg.heap.size + 1) Y x c L ∧ Y ≤ wr.heap.size ∧ wr.heap[w.heap.size]? = some (.cells #[.slice a1 l1.length c1, .slice a2 l2.length c2] 34 (0, 0)) ∧ wr.heap[w.heap.size + 1]? = some (.cells #[.slice none 0 0, .slice none 0 0] 34 (0, 0)) ∧ Below w.heap.size w wr) (fun kv _ => a + g - (intOf kv).toNat)
                case atStart => exact ⟨0, none, 0, [], Nat.zero_le _, int_eq (by omega), rfl, XK.out, .inl ⟨rfl, rfl, rfl⟩, HOK.out, hYs, XK1.out, XK2.out, HBK.out⟩
                case round =>
                  obtain ⟨j, y, e, M, hj, rfl, hM, xo, ho, hoL, hY1, x1, x2, hb⟩ := hrel
                  obtain ⟨wk, hwk⟩ : ∃ v : World, v = wr := ⟨_, rfl⟩
                  subst hwk
                  clear XK XK1 XK2 HBK HOK
                  have HLE := Lib.hid hM
                  have XK := Lib.hid xo
                  have HOK := Lib.hid ho
                  have XK1 := Lib.hid x1
                  have XK2 := Lib.hid x2
                  have HBK := Lib.hid hb
                  have hlen : M.length = j := by rw [hM, bitsOf_len]
                  obtain ⟨p1, p2, p3, p4⟩ := blk2 x1
                  obtain ⟨q1, q2, q3, q4⟩ := blk2 xo
                  have hltk := lt_of_block x1
                  have hltk2 := lt_of_block x2
                  have hltX := lt_of_block xo
                  have hlL : M.length ≤ 12 := by omega
                  clear hlen hM xo ho x1 x2 hb
                  have HOL := Lib.hid hoL
                  clear hoL
                  by_cases hlt : j < g
                  · have hli : (((a + j) : Nat) : Int) < (a : Int) + (g : Int) := by omega
                    have HA : Hid (bitAtI l1 l2 ((a + j) : Nat) = f (a + j)) := Lib.hid (by rw [HF.out]; exact bitAt_at HY.out (by omega))
                    obtain ⟨v, hv⟩ : ∃ v, v = f (a + j) := ⟨_, rfl⟩
                    rw [← hv] at HA
                    have HV : Hid (bitsOf f a (j + 1) = M ++ [v]) := Lib.hid (by rw [bitsOf_succ, HLE.out, hv])
                    have hCk : C ≤ wk.heap.size := Nat.le_trans hC HBK.out.size
                    have G1 := Lib.hid (F1.out.below HBK.out.drew hC)
                    have G2 := Lib.hid (F2.out.below HBK.out.drew hC)
                    have HRR : Hid (∀ q, blockOf y = some q → w.heap.size ≤ q) := Lib.hid fun q hq => by have := HOK.out.block_in hq; omega
                    have HN0 := Lib.hid (HOK.out.not_block (k := w.heap.size) (by omega))
                    have HN1 := Lib.hid (HOK.out.not_block (k := w.heap.size + 1) (by omega))
                    have HNX := Lib.hid (HOK.out.not_block (k := wg.heap.size) (by omega))
                    clear hv
                    go_wp2_with fail
                    go_region_law (first
                        | (refine step_appI Try.underlying29 Try.infoInt _ (by rfl) _ _ (by rfl) Y wk.heap.size y e M ?_ HO2A.out hB2A ⟨w2.heap.size, 0, none⟩ v ?_ ?_ hL2A ?_
                           · rfl
                           · rfl
                           · exact new_cell _ _ _
                           go_loud (
                           intro gg cap' w3 hown3 hgrow hat hlt3
                           have hb1 := grown_blk hgrow (blk_old Y1.out) HN0.out
                           have hb2' := grown_blk hgrow (blk_old Y2.out) HN1.out
                           have hbX := grown_blk hgrow (blk_old YX.out) HNX.out
                           obtain ⟨p1, p2, p3, p4⟩ := blk2 hb1
                           obtain ⟨q1, q2, q3, q4⟩ := blk2 hbX
                           have Z1 := Lib.hid hb1
                           have Z2 := Lib.hid hb2'
                           have ZX := Lib.hid hbX
                           have HO3 := Lib.hid hown3
                           have hz3 : w2.heap.size ≤ w3.heap.size := by have := hgrow.size; simp at this; omega
                           have HB3 := Lib.hid (below_app2 HB2.out hgrow HRR.out)
                           have HL3 := Lib.hid ((HOL.out.below HBB.out hY1).agr (fun b g1 g2 => (hgrow.block b (by simp; omega) (fun e => by have := HOK.out.block_in e.symm; omega)).trans (Below.heap_alloc _ _ _ (by omega))))
                           clear hb1 hb2' hbX hown3 hgrow))
                        | (go_simp
                           go_at_call 69
                           refine (specBitAt_any a1 a2 c1 c2 l1 l2 ((a + j) : Nat) _ B C B C (by exact G1.out) (by exact G2.out) (by exact hCk) (by exact hCk) hl1 hl2).mono ?_
                           rintro e2 w2 ⟨rfl, hb2⟩
                           rw [HA.out]
                           replace hb2 := undrew hb2
                           have Y1 := Lib.hid (hb2.blk XK1.out hltk)
                           have Y2 := Lib.hid (hb2.blk XK2.out hltk2)
                           have YX := Lib.hid (hb2.blk XK.out hltX)
                           obtain ⟨p1, p2, p3, p4⟩ := blk2 Y1.out
                           obtain ⟨q1, q2, q3, q4⟩ := blk2 YX.out
                           have hz2 : wk.heap.size ≤ w2.heap.size := hb2.size
                           have hX2 : wg.heap.size < w2.heap.size := Nat.lt_of_lt_of_le hltX hz2
                           have hX3 : w.heap.size < w2.heap.size := Nat.lt_of_lt_of_le hltk hz2
                           have HO2 := Lib.hid (HOK.out.below hb2 (Nat.le_refl _))
                           have HB2 := Lib.hid (HBK.out.trans (hb2.mono HBK.out.size))
                           have HO2A := Lib.hid (HO2.out.agr ((Agr.refl _ _ w2).alloc hz2 (.cells #[.int .i64 v] 3)))
                           have hB2A : Y ≤ (w2.alloc (.cells #[.int .i64 v] 3)).heap.size := by simp; omega
                           have hL2A : M.length ≤ 1048576 := by omega
                           have HBB := Lib.hid hb2
                           clear hb2))
                    all_goals
                      go_wp2_with fail
                      go_roundw
                      case rel =>
                        have hl : (M ++ [v]).length = M.length + 1 := by simp
                        refine ⟨j + 1, some ⟨gg, 0, none⟩, cap', M ++ [v], by omega, by go_num, HV.out.symm, by rw [hl]; exact blk_set _ ZX.out, (HO3.out.agr ((Agr.refl _ _ _).set (by omega) _)).mono (Nat.le_refl _) (by simp), HL3.out.agr ((Agr.refl _ _ _).set (by omega) _), by simp; omega, blk_set_other _ Z1.out (by omega), blk_set_other _ Z2.out (by omega), HB3.out.setCell (by simp; omega) _⟩
                      case measure => simp [intOf]; omega
                  · obtain rfl : j = g := by omega
                    have hnl : ¬ (((a + j : Nat) : Int) < (a : Int) + (j : Int)) := by omega
                    have HSI := told_iff HY.out hal (show 0 < j by omega) hgl
                    rw [← HF.out, ← HLA.out, ← HLE.out] at HSI
                    have HSI' := Lib.hid HSI
                    have RL := Lib.hid (HOL.out.rd.mono (Nat.zero_le _) hY1)
                    have RM := Lib.hid (HOK.out.rd.mono (Nat.zero_le _) (Nat.le_refl _))
                    have RA := Lib.hid ((F1.out.below HBK.out hC).mono (Nat.zero_le _) (Nat.le_trans hC HBK.out.size))
                    have RB := Lib.hid ((F2.out.below HBK.out hC).mono (Nat.zero_le _) (Nat.le_trans hC HBK.out.size))
                    have hL12 : L.length ≤ 1048576 := by rw [HLA.out, bitsOf_len]; omega
                    have hM12 : M.length ≤ 1048576 := by rw [HLE.out, bitsOf_len]; omega
                    clear HSI
                    go_wp2_with fail
                    refine (specSame_any x y a1 a2 c e c1 c2 L M l1 l2 wk 0 wk.heap.size RL.out RM.out RA.out RB.out (Nat.le_refl _) hL12 hM12 hl1 hl2).mono ?_
                    rintro ev w5 ⟨b, rfl, hbs, hb5⟩
                    have Y1 := Lib.hid (hb5.blk XK1.out hltk)
                    have Y2 := Lib.hid (hb5.blk XK2.out hltk2)
                    have YX := Lib.hid (hb5.blk XK.out hltX)
                    have HO5 := Lib.hid (HOK.out.below hb5 (Nat.le_refl _))
                    have HL5 := Lib.hid (HOL.out.below hb5 hY1)
                    have HB5 := Lib.hid (HBK.out.trans (hb5.mono HBK.out.size))
                    have hz5 := hb5.size
                    have HBS := Lib.hid (hbs.trans HSI'.out)
                    clear hbs hb5 p1 p2 p3 p4 q1 q2 q3 q4 RL RM RA RB
                    cases b
                    · have HNP : Hid (¬ Per f a j) := Lib.hid fun h => by have := HBS.out.2 h; cases this
                      go_wp2_with fail
                      go_roundw
                      case rel => exact ⟨j + 1, by omega, by omega, by go_num, fun g' h1 h2 => by
                        by_cases e : g' = j
                        · subst e; exact HNP.out
                        · exact HNG.out g' h1 (by omega), Y1.out, Y2.out, HB5.out⟩
                      case measure => simp [intOf]; omega
                    · have HP := Lib.hid (HBS.out.1 rfl)
                      have hSF := told_short (l2 := l2) (show 0 < j by omega) hgl HP.out HNO.out HNG.out
                      rw [← HLA.out, ← HLE.out] at hSF
                      have HSF := Lib.hid hSF
                      have HST := Lib.hid (told_stream HY.out hal (show 0 < j by omega) hgl)
                      obtain ⟨q1, q2, q3, q4⟩ := blk2 YX.out
                      obtain ⟨s1, s2, s3, s4⟩ := blk2 Y2.out
                      have hltY := lt_of_block Y2.out
                      have hltYX := lt_of_block YX.out
                      clear hSF HBS
                      go_wp2_with fail
                      have r0 := blk_set (.slice y M.length e) (i := 1) (blk_set (.slice x L.length c) (i := 0) Y2.out)
                      have r1 := (blk2 r0).1
                      have r2 := (blk2 r0).2.1
                      clear r0 q1 q2 q3 q4 s1 s2 s3 s4
                      refine bodyPost_ret (v := .agg #[.slice x L.length c, .slice y M.length e]) (by simp [results, Try.results28, go_sem, r1, r2]) rfl ⟨L, M, .inl ⟨HY.out, by rw [← HF.out]; exact HSF.out, by rw [HLA.out, bitsOf_len]; exact hal, by rw [HLE.out, bitsOf_len]; exact hgl, by rw [HLA.out, HLE.out, HF.out]; exact HST.out⟩, x, c, y, e, rfl, ?_, ?_, ?_, ?_⟩
                      · exact (HL5.out.agr (((Agr.refl _ _ _).set (by omega) _).set (by omega) _)).mono (by omega) (by simp; omega)
                      · exact (HO5.out.agr (((Agr.refl _ _ _).set (by omega) _).set (by omega) _)).mono (by omega) (by simp; omega)
                      · exact HOL.out.dis HOK.out (Nat.le_refl _)
                      · exact (HB5.out.setCell (by simp) _).setCell (by simp) _
          · obtain rfl : g = l2.length + 1 := by omega
            have hnl : ¬ (((l2.length + 1 : Nat) : Int) ≤ (l2.length : Int)) := by omega
            go_wp2_with fail
            go_roundw
            case rel => exact ⟨a + 1, by omega, by go_num, fun a' g' h1 h2 h3 => by
              by_cases e : a' = a
              · subst e; exact HNG.out g' h2 (by omega)
              · exact HNO.out a' g' (by omega) h2 h3, XG1.out, XG2.out, HBG.out⟩
            case measure => simp [intOf]; omega
      · exfalso
        exact HNO.out l1.length l2.length (by omega) (by omega) (Nat.le_refl _) HPER.out
end Go.Proofs.Ytgfoolneophkcaa
