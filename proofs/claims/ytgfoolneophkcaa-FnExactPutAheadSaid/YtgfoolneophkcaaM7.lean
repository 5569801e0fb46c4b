/- impl.SameStreams, walked. -/
import Derived.Deep.RegionLaw
import Derived.Deep.RegionHeld3
import Derived.Deep.Cut
import Derived.Deep.QuietTactic
import Derived.BigQuiet
import Derived.Test.YtgfoolneophkcaaM5
import Derived.Test.YtgfoolneophkcaaM6
namespace Go.Hyp
open Go.RowKit Go.Deep
/-- Short streams are equal exactly if the streams are the same. -/
theorem short_eq {l1 l2 m1 m2 x1 x2 y1 y2 : List Int} (h : streamB l1 l2 = true) (k : streamB m1 m2 = true) (hx : ShortFor (bitOf l1 l2) x1 x2) (hy : ShortFor (bitOf m1 m2) y1 y2) : (x1 = y1 ∧ x2 = y2) ↔ SameP l1 l2 m1 m2 := by
  constructor
  · rintro ⟨rfl, rfl⟩
    exact ⟨h, k, hx.1.symm.trans hy.1⟩
  · rintro ⟨_, _, e⟩
    rw [e] at hx
    exact hx.one hy
theorem below_alloc' {w w' : World} (h : Below w.heap.size w w') (o : Obj) : Below w.heap.size w (w'.alloc o) := h.alloc h.size o
theorem below_then {w w' w'' : World} (h : Below w.heap.size w w') (k : Below w'.heap.size w' w'') : Below w.heap.size w w'' := h.trans (k.mono h.size)
end Go.Hyp
namespace Go.Proofs.Ytgfoolneophkcaa
open Go.RowKit Go.Hyp Go.Deep

set_option maxRecDepth 8000 in
set_option maxHeartbeats 8000000 in
theorem implSame_any (a1 a2 b1 b2 : Option Addr) (c1 c2 d1 d2 : Nat) (l1 l2 m1 m2 : List Int) (w : World) (B C : Nat) (h1 : RdI w B C a1 l1) (h2 : RdI w B C a2 l2) (h3 : RdI w B C b1 m1) (h4 : RdI w B C b2 m2) (hC : C ≤ w.heap.size)
    (hl1 : l1.length ≤ 1048576) (hl2 : l2.length ≤ 1048576) (hm1 : m1.length ≤ 1048576) (hm2 : m2.length ≤ 1048576) :
    Calls Try.prog 23 #[.agg #[.slice a1 l1.length c1, .slice a2 l2.length c2], .agg #[.slice b1 m1.length d1, .slice b2 m2.length d2]] w fun e w' => ∃ b : Bool, e = .returned (.bool b) ∧ (b = true ↔ SameP l1 l2 m1 m2) ∧ Below w.heap.size w w' := by
  have hb := (below_alloc w (.cells #[.slice a1 l1.length c1, .slice a2 l2.length c2] 34)).alloc (by simp) (.cells #[.slice b1 m1.length d1, .slice b2 m2.length d2] 34)
  have b0 := alloc2 w (.cells #[.slice a1 l1.length c1, .slice a2 l2.length c2] 34) (.cells #[.slice b1 m1.length d1, .slice b2 m2.length d2] 34)
  have F1 := Lib.hid h1
  have F2 := Lib.hid h2
  have F3 := Lib.hid h3
  have F4 := Lib.hid h4
  have HB := Lib.hid hb
  have B0 := Lib.hid b0
  clear h1 h2 h3 h4 hb b0
  cases hx : streamB l1 l2
  · have HX := Lib.hid hx
    clear hx
    go_enter Try.func23, Try.ntmps23
    go_wp2_with fail
    refine (isStream_any a1 a2 c1 c2 l1 l2 _ B C B C (F1.out.below HB.out hC) (F2.out.below HB.out hC) (by simp; omega) (by simp; omega) hl1 hl2).mono ?_
    rintro e w1 ⟨rfl, hb1⟩
    rw [HX.out]
    have H1 := Lib.hid (below_trans HB.out (hb1.mono (by first | (simp; done) | (simp; omega))))
    clear hb1
    go_wp2_with fail
    go_ret
    exact ⟨false, rfl, ⟨(fun h => by cases h), (fun h => by have := h.1; rw [HX.out] at this; cases this)⟩, H1.out⟩
  · have HX := Lib.hid hx
    have kx : l1.length ≤ 12 ∧ l2.length ≤ 12 ∧ 1 ≤ l2.length := by
      unfold streamB at hx
      simp only [Bool.and_eq_true, decide_eq_true_eq] at hx
      omega
    clear hx
    cases hy : streamB m1 m2
    · have HY := Lib.hid hy
      clear hy
      go_enter Try.func23, Try.ntmps23
      go_wp2_with fail
      refine (isStream_any a1 a2 c1 c2 l1 l2 _ B C B C (F1.out.below HB.out hC) (F2.out.below HB.out hC) (by simp; omega) (by simp; omega) hl1 hl2).mono ?_
      rintro e w1 ⟨rfl, hb1⟩
      rw [HX.out]
      have x2 := hb1.blk B0.out.2 (by simp)
      obtain ⟨q1, q2, q3, q4⟩ := blk2 x2
      have H1 := Lib.hid (below_trans HB.out (hb1.mono (by first | (simp; done) | (simp; omega))))
      have hz1 : w.heap.size + 2 ≤ w1.heap.size := by have := hb1.size; simpa using this
      clear hb1 x2
      go_wp2_with fail
      refine (isStream_any b1 b2 d1 d2 m1 m2 w1 B C B C (F3.out.below H1.out hC) (F4.out.below H1.out hC) (by omega) (by omega) hm1 hm2).mono ?_
      rintro e w2 ⟨rfl, hb2⟩
      rw [HY.out]
      have H2 := Lib.hid (below_trans H1.out (hb2.mono (by omega)))
      clear hb2
      go_wp2_with fail
      go_ret
      exact ⟨false, rfl, ⟨(fun h => by cases h), (fun h => by have := h.2.1; rw [HY.out] at this; cases this)⟩, H2.out⟩
    · have HY := Lib.hid hy
      have ky : m1.length ≤ 12 ∧ m2.length ≤ 12 ∧ 1 ≤ m2.length := by
        unfold streamB at hy
        simp only [Bool.and_eq_true, decide_eq_true_eq] at hy
        omega
      clear hy
      go_enter Try.func23, Try.ntmps23
      go_wp2_with fail
      refine (isStream_any a1 a2 c1 c2 l1 l2 _ B C B C (F1.out.below HB.out hC) (F2.out.below HB.out hC) (by simp; omega) (by simp; omega) hl1 hl2).mono ?_
      rintro e w1 ⟨rfl, hb1⟩
      rw [HX.out]
      have x1 := hb1.blk B0.out.1 (by simp; omega)
      have x2 := hb1.blk B0.out.2 (by simp)
      obtain ⟨q1, q2, q3, q4⟩ := blk2 x2
      have X1 := Lib.hid x1
      have X2 := Lib.hid x2
      have H1 := Lib.hid (below_trans HB.out (hb1.mono (by first | (simp; done) | (simp; omega))))
      have hz1 : w.heap.size + 2 ≤ w1.heap.size := by have := hb1.size; simpa using this
      clear hb1 x1 x2
      go_wp2_with fail
      refine (isStream_any b1 b2 d1 d2 m1 m2 w1 B C B C (F3.out.below H1.out hC) (F4.out.below H1.out hC) (by omega) (by omega) hm1 hm2).mono ?_
      rintro e w2 ⟨rfl, hb2⟩
      rw [HY.out]
      have Y1 := Lib.hid (hb2.blk X1.out (by omega))
      have Y2 := Lib.hid (hb2.blk X2.out (by omega))
      have H2 := Lib.hid (below_trans H1.out (hb2.mono (by omega)))
      have hz2 : w.heap.size + 2 ≤ w2.heap.size := by have := hb2.size; omega
      clear hb2 q1 q2 q3 q4 X1 X2 H1
      obtain ⟨p1, p2, p3, p4⟩ := blk2 Y1.out
      obtain ⟨q1, q2, q3, q4⟩ := blk2 Y2.out
      obtain ⟨k1, k2, k3⟩ := kx
      obtain ⟨k4, k5, k6⟩ := ky
      have G1 := Lib.hid (F1.out.below H2.out hC)
      have G2 := Lib.hid (F2.out.below H2.out hC)
      have G3 := Lib.hid (F3.out.below H2.out hC)
      have G4 := Lib.hid (F4.out.below H2.out hC)
      have hC2 : C ≤ w2.heap.size := by omega
      have HSA : Hid (∀ wz, Below w2.heap.size w2 wz → Calls Try.prog 71 #[.agg #[.slice a1 l1.length c1, .slice a2 l2.length c2]] wz fun e w' => ∃ n1 n2 x1 d1' x2 d2', e = .returned (.agg #[.slice x1 (n1 : List Int).length d1', .slice x2 (n2 : List Int).length d2']) ∧
          ShortFor (bitOf l1 l2) n1 n2 ∧ n1.length ≤ 12 ∧ n2.length ≤ 12 ∧ RdI w' wz.heap.size w'.heap.size x1 n1 ∧ RdI w' wz.heap.size w'.heap.size x2 n2 ∧ Below wz.heap.size wz w' ∧ Below w2.heap.size w2 w' ∧ w2.heap.size ≤ wz.heap.size) := Lib.hid fun wz hbz => by
        refine (shortOf_any a1 a2 c1 c2 l1 l2 wz B C B C (G1.out.below hbz hC2) (G2.out.below hbz hC2) (by have := hbz.size; omega) (by have := hbz.size; omega) (by omega) (by omega) k3).mono ?_
        rintro e w' ⟨n1, n2, hf, hn1, hn2, _, _, x1, y1, x2, y2, rfl, o1, o2, _, hb⟩
        exact ⟨n1, n2, x1, y1, x2, y2, rfl, hf, by omega, by omega, o1.rd, o2.rd, hb, below_then hbz hb, hbz.size⟩
      have HSB : Hid (∀ wz, Below w2.heap.size w2 wz → Calls Try.prog 71 #[.agg #[.slice b1 m1.length d1, .slice b2 m2.length d2]] wz fun e w' => ∃ n1 n2 x1 d1' x2 d2', e = .returned (.agg #[.slice x1 (n1 : List Int).length d1', .slice x2 (n2 : List Int).length d2']) ∧
          ShortFor (bitOf m1 m2) n1 n2 ∧ n1.length ≤ 12 ∧ n2.length ≤ 12 ∧ RdI w' wz.heap.size w'.heap.size x1 n1 ∧ RdI w' wz.heap.size w'.heap.size x2 n2 ∧ Below wz.heap.size wz w' ∧ Below w2.heap.size w2 w' ∧ w2.heap.size ≤ wz.heap.size) := Lib.hid fun wz hbz => by
        refine (shortOf_any b1 b2 d1 d2 m1 m2 wz B C B C (G3.out.below hbz hC2) (G4.out.below hbz hC2) (by have := hbz.size; omega) (by have := hbz.size; omega) (by omega) (by omega) k6).mono ?_
        rintro e w' ⟨n1, n2, hf, hn1, hn2, _, _, x1, y1, x2, y2, rfl, o1, o2, _, hb⟩
        exact ⟨n1, n2, x1, y1, x2, y2, rfl, hf, by omega, by omega, o1.rd, o2.rd, hb, below_then hbz hb, hbz.size⟩
      clear G1 G2 G3 G4 F1 F2 F3 F4
      have hlw0 : w.heap.size < w2.heap.size := by omega
      have hlw1 : w.heap.size + 1 < w2.heap.size := by omega
      have BD : Below w2.heap.size w2 w2.drew := (Below.refl _ _).drew
      go_upto_region 3 with (fail)
      go_cut [5, 6] from 15 (fun p5 p6 wc => ∃ (n1 n2 n3 n4 : List Int) (x1 x2 x3 x4 : Option Addr) (e1 e2 e3 e4 i j : Nat), p5 = .pointer (some ⟨i, 0, none⟩) ∧ p6 = .pointer (some ⟨j, 0, none⟩) ∧ ShortFor (bitOf l1 l2) n1 n2 ∧ ShortFor (bitOf m1 m2) n3 n4 ∧
        n1.length ≤ 12 ∧ n2.length ≤ 12 ∧ n3.length ≤ 12 ∧ n4.length ≤ 12 ∧ wc.heap[i]? = some (.cells #[.slice x1 n1.length e1, .slice x2 n2.length e2] 34 (0, 0)) ∧ wc.heap[j]? = some (.cells #[.slice x3 n3.length e3, .slice x4 n4.length e4] 34 (0, 0)) ∧
        RdI wc 0 wc.heap.size x1 n1 ∧ RdI wc 0 wc.heap.size x2 n2 ∧ RdI wc 0 wc.heap.size x3 n3 ∧ RdI wc 0 wc.heap.size x4 n4 ∧ Below w.heap.size w wc)
      case first =>
        -- the tree
        have HS : Hid (∀ v, Below w2.heap.size w2 v → (fun w' => w'.cell? ⟨w.heap.size, 0, none⟩ = some (.slice a1 l1.length c1) ∧ w'.cell? ⟨w.heap.size, 1, none⟩ = some (.slice a2 l2.length c2) ∧ w'.cell? ⟨w.heap.size + 1, 0, none⟩ = some (.slice b1 m1.length d1) ∧ w'.cell? ⟨w.heap.size + 1, 1, none⟩ = some (.slice b2 m2.length d2)) v) := Lib.hid fun v hv => ⟨((bcell hv).1 w.heap.size 0 hlw0).trans p1, ((bcell hv).1 w.heap.size 1 hlw0).trans p2, ((bcell hv).1 (w.heap.size + 1) 0 hlw1).trans q1, ((bcell hv).1 (w.heap.size + 1) 1 hlw1).trans q2⟩
        refine wp_region_held_drew (S := (fun w' => w'.cell? ⟨w.heap.size, 0, none⟩ = some (.slice a1 l1.length c1) ∧ w'.cell? ⟨w.heap.size, 1, none⟩ = some (.slice a2 l2.length c2) ∧ w'.cell? ⟨w.heap.size + 1, 0, none⟩ = some (.slice b1 m1.length d1) ∧ w'.cell? ⟨w.heap.size + 1, 1, none⟩ = some (.slice b2 m2.length d2))) (by kernel_rfl) (HS.out _ BD) (fun hHeld => ?_)
        obtain ⟨W0, hW0⟩ : ∃ v, v = w2.drew := ⟨_, rfl⟩
        rw [← hW0] at BD hHeld ⊢
        clear hW0
        have BD0 := Lib.hid BD
        clear BD p1 p2 p3 p4 q1 q2 q3 q4
        refine wpAnyH_take (i := 0) (v := ?_) rfl (by kernel_rfl) (by kernel_rfl) (by kernel_rfl) (fun _ _ _ h => h) (Or.inl ⟨by rfl, ?_⟩) hHeld ?_
        rotate_left
        · intro w hSw; (try dsimp only at hSw); first | (go_simp; done) | (go_simp; with_reducible rfl)
        simp only [Act.put, List.setIfInBounds_toArray, List.set_cons_zero, List.set_cons_succ, List.getElem_toArray, List.getElem_cons_zero, List.getElem_cons_succ]
        refine wpAnyH_take (i := 2) (v := ?_) rfl (by kernel_rfl) (by kernel_rfl) (by kernel_rfl) (fun _ _ _ h => h) (Or.inl ⟨by rfl, ?_⟩) hHeld ?_
        rotate_left
        · intro w hSw; (try dsimp only at hSw); first | (go_simp; done) | (go_simp; with_reducible rfl)
        simp only [Act.put, List.setIfInBounds_toArray, List.set_cons_zero, List.set_cons_succ, List.getElem_toArray, List.getElem_cons_zero, List.getElem_cons_succ]
        refine wpAnyH_ready (rs := [1, 4, 5]) (by kernel_rfl) (by simp) ?_
        refine AllReadyH.cons rfl (fun K hK => ?_) (AllReadyH.cons rfl (fun K hK => ?_) (AllReadyH.cons rfl (fun K hK => ?_) (AllReadyH.nil)))
        · skip
          go_simp
          refine (HSA.out W0 BD0.out).mono ?_
          rintro e W1 ⟨n1, n2, x1, e1, x2, e2, rfl, hfA, hn1, hn2, ra, rb, hb, hb2, _⟩
          have BD1 := Lib.hid hb2
          have hz1 := hb.size
          obtain ⟨loA, hloA⟩ : ∃ v, v = W0.heap.size := ⟨_, rfl⟩
          obtain ⟨hiA, hhiA⟩ : ∃ v, v = W1.heap.size := ⟨_, rfl⟩
          rw [← hloA, ← hhiA] at ra rb
          have R1 := Lib.hid ra
          have R2 := Lib.hid rb
          have HFA := Lib.hid hfA
          clear ra rb hfA
          have hlA : loA ≤ hiA := by omega
          have hhA : hiA ≤ W1.heap.size := by omega
          clear hloA hhiA
          clear hb hb2
          refine hK.out _ _ (HS.out _ BD1.out) (fun hHeld2 => ?_)
          clear hK K hHeld
          have hHeld := hHeld2
          clear hHeld2
          (try simp only [Act.put, List.setIfInBounds_toArray, List.set_cons_zero, List.set_cons_succ])
          refine wpAnyH_ready (rs := [3, 4, 5]) (by kernel_rfl) (by simp) ?_
          refine AllReadyH.cons rfl (fun K hK => ?_) (AllReadyH.cons rfl (fun K hK => ?_) (AllReadyH.cons rfl (fun K hK => ?_) (AllReadyH.nil)))
          · skip
            go_simp
            refine (HSB.out W1 BD1.out).mono ?_
            rintro e W2 ⟨n3, n4, x3, e3, x4, e4, rfl, hfB, hn3, hn4, ra, rb, hb, hb2, _⟩
            have BD2 := Lib.hid hb2
            have hz2 := hb.size
            obtain ⟨loB, hloB⟩ : ∃ v, v = W1.heap.size := ⟨_, rfl⟩
            obtain ⟨hiB, hhiB⟩ : ∃ v, v = W2.heap.size := ⟨_, rfl⟩
            rw [← hloB, ← hhiB] at ra rb
            have R3 := Lib.hid ra
            have R4 := Lib.hid rb
            have HFB := Lib.hid hfB
            clear ra rb hfB
            have hlB : loB ≤ hiB := by omega
            have hhB : hiB ≤ W2.heap.size := by omega
            clear hloB hhiB
            replace R1 := Lib.hid (R1.out.below hb (by omega))
            replace R2 := Lib.hid (R2.out.below hb (by omega))
            clear hb hb2
            refine hK.out _ _ (HS.out _ BD2.out) (fun hHeld2 => ?_)
            clear hK K hHeld
            have hHeld := hHeld2
            clear hHeld2
            (try simp only [Act.put, List.setIfInBounds_toArray, List.set_cons_zero, List.set_cons_succ])
            refine wpAnyH_ready (rs := [4, 5]) (by kernel_rfl) (by simp) ?_
            refine AllReadyH.cons rfl (fun K hK => ?_) (AllReadyH.cons rfl (fun K hK => ?_) (AllReadyH.nil))
            · skip
              go_simp
              obtain ⟨i, hi⟩ : ∃ v, v = W2.heap.size := ⟨_, rfl⟩
              have hnew := blk_new (w := W2) (o := .cells #[.slice none 0 0, .slice none 0 0] 34 (0, 0)) rfl
              have hb := below_alloc W2 (.cells #[.slice none 0 0, .slice none 0 0] 34 (0, 0))
              have BD3 := Lib.hid (below_alloc' BD2.out (.cells #[.slice none 0 0, .slice none 0 0] 34 (0, 0)))
              have hzs : (W2.alloc (.cells #[.slice none 0 0, .slice none 0 0] 34 (0, 0))).heap.size = W2.heap.size + 1 := by simp
              obtain ⟨W3, hW⟩ : ∃ v, v = W2.alloc (.cells #[.slice none 0 0, .slice none 0 0] 34 (0, 0)) := ⟨_, rfl⟩
              rw [← hW] at hnew hb BD3 hzs ⊢
              rw [← hi] at hnew
              replace R1 := Lib.hid (R1.out.below hb (by omega))
              replace R2 := Lib.hid (R2.out.below hb (by omega))
              replace R3 := Lib.hid (R3.out.below hb (by omega))
              replace R4 := Lib.hid (R4.out.below hb (by omega))
              have Hi := Lib.hid hnew
              have hlti : i < W3.heap.size := by omega
              have hwsW3 : W2.heap.size ≤ W3.heap.size := by omega
              have hbiA : hiA ≤ i := by omega
              have hbiB : hiB ≤ i := by omega
              have hw2i : w2.heap.size ≤ i := by have := BD2.out.size; omega
              rw [← hi]
              clear hW hnew hb hzs hi
              refine hK.out _ _ (HS.out _ BD3.out) (fun hHeld2 => ?_)
              clear hK K hHeld
              have hHeld := hHeld2
              clear hHeld2
              (try simp only [Act.put, List.setIfInBounds_toArray, List.set_cons_zero, List.set_cons_succ])
              refine wpAnyH_ready (rs := [5]) (by kernel_rfl) (by simp) ?_
              refine AllReadyH.cons rfl (fun K hK => ?_) (AllReadyH.nil)
              · skip
                go_simp
                obtain ⟨j, hj⟩ : ∃ v, v = W3.heap.size := ⟨_, rfl⟩
                have hnew := blk_new (w := W3) (o := .cells #[.slice none 0 0, .slice none 0 0] 34 (0, 0)) rfl
                have hb := below_alloc W3 (.cells #[.slice none 0 0, .slice none 0 0] 34 (0, 0))
                have BD4 := Lib.hid (below_alloc' BD3.out (.cells #[.slice none 0 0, .slice none 0 0] 34 (0, 0)))
                have hzs : (W3.alloc (.cells #[.slice none 0 0, .slice none 0 0] 34 (0, 0))).heap.size = W3.heap.size + 1 := by simp
                obtain ⟨W4, hW⟩ : ∃ v, v = W3.alloc (.cells #[.slice none 0 0, .slice none 0 0] 34 (0, 0)) := ⟨_, rfl⟩
                rw [← hW] at hnew hb BD4 hzs ⊢
                rw [← hj] at hnew
                replace R1 := Lib.hid (R1.out.below hb (by omega))
                replace R2 := Lib.hid (R2.out.below hb (by omega))
                replace R3 := Lib.hid (R3.out.below hb (by omega))
                replace R4 := Lib.hid (R4.out.below hb (by omega))
                replace Hi := Lib.hid (hb.blk Hi.out (by omega))
                have Hj := Lib.hid hnew
                have hltj : j < W4.heap.size := by omega
                have hwsW4 : W3.heap.size ≤ W4.heap.size := by omega
                have hbjA : hiA ≤ j := by omega
                have hbjB : hiB ≤ j := by omega
                have hne : i < j := by omega
                have hw2j : w2.heap.size ≤ j := by have := BD3.out.size; omega
                rw [← hj]
                clear hW hnew hb hzs hj
                refine hK.out _ _ (HS.out _ BD4.out) (fun hHeld2 => ?_)
                clear hK K hHeld
                have hHeld := hHeld2
                clear hHeld2
                (try simp only [Act.put, List.setIfInBounds_toArray, List.set_cons_zero, List.set_cons_succ])
                have hij : i ≠ j := by omega
                obtain ⟨p1, p2, p3, p4⟩ := blk2 Hi.out
                obtain ⟨q1, q2, q3, q4⟩ := blk2 Hj.out
                refine wpAnyH_ready (rs := [6]) (by kernel_rfl) (by simp) ?_
                refine AllReadyH.cons rfl (fun K hK => ?_) AllReadyH.nil
                go_simp
                obtain ⟨V, hV⟩ : ∃ V, V = (W4.setCell ⟨i, 0, none⟩ (.slice x1 n1.length e1)).setCell ⟨i, 1, none⟩ (.slice x2 n2.length e2) := ⟨_, rfl⟩
                have vi := blk_set (.slice x2 n2.length e2) (i := 1) (blk_set (.slice x1 n1.length e1) (i := 0) Hi.out)
                have vj := blk_set_other (.slice x2 n2.length e2) (i := 1) (blk_set_other (.slice x1 n1.length e1) (i := 0) (k := i) Hj.out (by omega)) (k := i) (by omega)
                have vb := (BD4.out.setCell (p := ⟨i, 0, none⟩) (by omega) (.slice x1 n1.length e1)).setCell (p := ⟨i, 1, none⟩) (by omega) (.slice x2 n2.length e2)
                have vs : ((W4.setCell ⟨i, 0, none⟩ (.slice x1 n1.length e1)).setCell ⟨i, 1, none⟩ (.slice x2 n2.length e2)).heap.size = W4.heap.size := by simp
                have t1 := R1.out.agr (((Agr.refl _ _ _).set (k := i) (i := 0) (by omega) (.slice x1 n1.length e1)).set (k := i) (i := 1) (by omega) (.slice x2 n2.length e2))
                have t2 := R2.out.agr (((Agr.refl _ _ _).set (k := i) (i := 0) (by omega) (.slice x1 n1.length e1)).set (k := i) (i := 1) (by omega) (.slice x2 n2.length e2))
                have t3 := R3.out.agr (((Agr.refl _ _ _).set (k := i) (i := 0) (by omega) (.slice x1 n1.length e1)).set (k := i) (i := 1) (by omega) (.slice x2 n2.length e2))
                have t4 := R4.out.agr (((Agr.refl _ _ _).set (k := i) (i := 0) (by omega) (.slice x1 n1.length e1)).set (k := i) (i := 1) (by omega) (.slice x2 n2.length e2))
                rw [← hV] at vi vj vb vs t1 t2 t3 t4 ⊢
                have VI := Lib.hid vi
                have VJ := Lib.hid vj
                have VB := Lib.hid vb
                have T1 := Lib.hid t1
                have T2 := Lib.hid t2
                have T3 := Lib.hid t3
                have T4 := Lib.hid t4
                have VS : W4.heap.size ≤ V.heap.size := by omega
                clear hV vi vj vb vs t1 t2 t3 t4 Hi Hj R1 R2 R3 R4 p1 p2 p3 p4 q1 q2 q3 q4
                refine hK.out _ _ (HS.out _ VB.out) (fun hHeld2 => ?_)
                clear hK K hHeld
                have hHeld := hHeld2
                clear hHeld2
                (try simp only [Act.put, List.setIfInBounds_toArray, List.set_cons_zero, List.set_cons_succ])
                obtain ⟨q1, q2, q3, q4⟩ := blk2 VJ.out
                refine wpAnyH_ready (rs := [7]) (by kernel_rfl) (by simp) ?_
                refine AllReadyH.cons rfl (fun K hK => ?_) AllReadyH.nil
                go_simp
                clear q1 q2 q3 q4
                refine hK.out _ _ (HS.out _ ((VB.out.setCell (p := ⟨j, 0, none⟩) (by omega) (.slice x3 n3.length e3)).setCell (p := ⟨j, 1, none⟩) (by omega) (.slice x4 n4.length e4))) (fun hHeld2 => ?_)
                clear hK K hHeld hHeld2
                (try simp only [Act.put, List.setIfInBounds_toArray, List.set_cons_zero, List.set_cons_succ])
                refine wpAnyH_done (by kernel_rfl) ?_ _
                go_wp2_with fail
                go_meet
                case rel => exact ⟨n1, n2, n3, n4, x1, x2, x3, x4, e1, e2, e3, e4, i, j, rfl, rfl, HFA.out, HFB.out, hn1, hn2, hn3, hn4, blk_set_other _ (blk_set_other _ VI.out (by omega)) (by omega), blk_set (.slice x4 n4.length e4) (i := 1) (blk_set (.slice x3 n3.length e3) (i := 0) VJ.out),
                  (T1.out.agr (((Agr.refl _ _ _).set (by omega) _).set (by omega) _)).mono (Nat.zero_le _) (by simp; omega), (T2.out.agr (((Agr.refl _ _ _).set (by omega) _).set (by omega) _)).mono (Nat.zero_le _) (by simp; omega),
                  (T3.out.agr (((Agr.refl _ _ _).set (by omega) _).set (by omega) _)).mono (Nat.zero_le _) (by simp; omega), (T4.out.agr (((Agr.refl _ _ _).set (by omega) _).set (by omega) _)).mono (Nat.zero_le _) (by simp; omega),
                  H2.out.trans (((VB.out.setCell (p := ⟨j, 0, none⟩) (by omega) (.slice x3 n3.length e3)).setCell (p := ⟨j, 1, none⟩) (by omega) (.slice x4 n4.length e4)).mono H2.out.size)⟩
            · skip
              go_simp
              obtain ⟨j, hj⟩ : ∃ v, v = W2.heap.size := ⟨_, rfl⟩
              have hnew := blk_new (w := W2) (o := .cells #[.slice none 0 0, .slice none 0 0] 34 (0, 0)) rfl
              have hb := below_alloc W2 (.cells #[.slice none 0 0, .slice none 0 0] 34 (0, 0))
              have BD5 := Lib.hid (below_alloc' BD2.out (.cells #[.slice none 0 0, .slice none 0 0] 34 (0, 0)))
              have hzs : (W2.alloc (.cells #[.slice none 0 0, .slice none 0 0] 34 (0, 0))).heap.size = W2.heap.size + 1 := by simp
              obtain ⟨W5, hW⟩ : ∃ v, v = W2.alloc (.cells #[.slice none 0 0, .slice none 0 0] 34 (0, 0)) := ⟨_, rfl⟩
              rw [← hW] at hnew hb BD5 hzs ⊢
              rw [← hj] at hnew
              replace R1 := Lib.hid (R1.out.below hb (by omega))
              replace R2 := Lib.hid (R2.out.below hb (by omega))
              replace R3 := Lib.hid (R3.out.below hb (by omega))
              replace R4 := Lib.hid (R4.out.below hb (by omega))
              have Hj := Lib.hid hnew
              have hltj : j < W5.heap.size := by omega
              have hwsW5 : W2.heap.size ≤ W5.heap.size := by omega
              have hbjA : hiA ≤ j := by omega
              have hbjB : hiB ≤ j := by omega
              have hw2j : w2.heap.size ≤ j := by have := BD2.out.size; omega
              rw [← hj]
              clear hW hnew hb hzs hj
              refine hK.out _ _ (HS.out _ BD5.out) (fun hHeld2 => ?_)
              clear hK K hHeld
              have hHeld := hHeld2
              clear hHeld2
              (try simp only [Act.put, List.setIfInBounds_toArray, List.set_cons_zero, List.set_cons_succ])
              refine wpAnyH_ready (rs := [4]) (by kernel_rfl) (by simp) ?_
              refine AllReadyH.cons rfl (fun K hK => ?_) (AllReadyH.nil)
              · skip
                go_simp
                obtain ⟨i, hi⟩ : ∃ v, v = W5.heap.size := ⟨_, rfl⟩
                have hnew := blk_new (w := W5) (o := .cells #[.slice none 0 0, .slice none 0 0] 34 (0, 0)) rfl
                have hb := below_alloc W5 (.cells #[.slice none 0 0, .slice none 0 0] 34 (0, 0))
                have BD6 := Lib.hid (below_alloc' BD5.out (.cells #[.slice none 0 0, .slice none 0 0] 34 (0, 0)))
                have hzs : (W5.alloc (.cells #[.slice none 0 0, .slice none 0 0] 34 (0, 0))).heap.size = W5.heap.size + 1 := by simp
                obtain ⟨W6, hW⟩ : ∃ v, v = W5.alloc (.cells #[.slice none 0 0, .slice none 0 0] 34 (0, 0)) := ⟨_, rfl⟩
                rw [← hW] at hnew hb BD6 hzs ⊢
                rw [← hi] at hnew
                replace R1 := Lib.hid (R1.out.below hb (by omega))
                replace R2 := Lib.hid (R2.out.below hb (by omega))
                replace R3 := Lib.hid (R3.out.below hb (by omega))
                replace R4 := Lib.hid (R4.out.below hb (by omega))
                replace Hj := Lib.hid (hb.blk Hj.out (by omega))
                have Hi := Lib.hid hnew
                have hlti : i < W6.heap.size := by omega
                have hwsW6 : W5.heap.size ≤ W6.heap.size := by omega
                have hbiA : hiA ≤ i := by omega
                have hbiB : hiB ≤ i := by omega
                have hne : j < i := by omega
                have hw2i : w2.heap.size ≤ i := by have := BD5.out.size; omega
                rw [← hi]
                clear hW hnew hb hzs hi
                refine hK.out _ _ (HS.out _ BD6.out) (fun hHeld2 => ?_)
                clear hK K hHeld
                have hHeld := hHeld2
                clear hHeld2
                (try simp only [Act.put, List.setIfInBounds_toArray, List.set_cons_zero, List.set_cons_succ])
                have hij : i ≠ j := by omega
                obtain ⟨p1, p2, p3, p4⟩ := blk2 Hi.out
                obtain ⟨q1, q2, q3, q4⟩ := blk2 Hj.out
                refine wpAnyH_ready (rs := [6]) (by kernel_rfl) (by simp) ?_
                refine AllReadyH.cons rfl (fun K hK => ?_) AllReadyH.nil
                go_simp
                obtain ⟨V, hV⟩ : ∃ V, V = (W6.setCell ⟨i, 0, none⟩ (.slice x1 n1.length e1)).setCell ⟨i, 1, none⟩ (.slice x2 n2.length e2) := ⟨_, rfl⟩
                have vi := blk_set (.slice x2 n2.length e2) (i := 1) (blk_set (.slice x1 n1.length e1) (i := 0) Hi.out)
                have vj := blk_set_other (.slice x2 n2.length e2) (i := 1) (blk_set_other (.slice x1 n1.length e1) (i := 0) (k := i) Hj.out (by omega)) (k := i) (by omega)
                have vb := (BD6.out.setCell (p := ⟨i, 0, none⟩) (by omega) (.slice x1 n1.length e1)).setCell (p := ⟨i, 1, none⟩) (by omega) (.slice x2 n2.length e2)
                have vs : ((W6.setCell ⟨i, 0, none⟩ (.slice x1 n1.length e1)).setCell ⟨i, 1, none⟩ (.slice x2 n2.length e2)).heap.size = W6.heap.size := by simp
                have t1 := R1.out.agr (((Agr.refl _ _ _).set (k := i) (i := 0) (by omega) (.slice x1 n1.length e1)).set (k := i) (i := 1) (by omega) (.slice x2 n2.length e2))
                have t2 := R2.out.agr (((Agr.refl _ _ _).set (k := i) (i := 0) (by omega) (.slice x1 n1.length e1)).set (k := i) (i := 1) (by omega) (.slice x2 n2.length e2))
                have t3 := R3.out.agr (((Agr.refl _ _ _).set (k := i) (i := 0) (by omega) (.slice x1 n1.length e1)).set (k := i) (i := 1) (by omega) (.slice x2 n2.length e2))
                have t4 := R4.out.agr (((Agr.refl _ _ _).set (k := i) (i := 0) (by omega) (.slice x1 n1.length e1)).set (k := i) (i := 1) (by omega) (.slice x2 n2.length e2))
                rw [← hV] at vi vj vb vs t1 t2 t3 t4 ⊢
                have VI := Lib.hid vi
                have VJ := Lib.hid vj
                have VB := Lib.hid vb
                have T1 := Lib.hid t1
                have T2 := Lib.hid t2
                have T3 := Lib.hid t3
                have T4 := Lib.hid t4
                have VS : W6.heap.size ≤ V.heap.size := by omega
                clear hV vi vj vb vs t1 t2 t3 t4 Hi Hj R1 R2 R3 R4 p1 p2 p3 p4 q1 q2 q3 q4
                refine hK.out _ _ (HS.out _ VB.out) (fun hHeld2 => ?_)
                clear hK K hHeld
                have hHeld := hHeld2
                clear hHeld2
                (try simp only [Act.put, List.setIfInBounds_toArray, List.set_cons_zero, List.set_cons_succ])
                obtain ⟨q1, q2, q3, q4⟩ := blk2 VJ.out
                refine wpAnyH_ready (rs := [7]) (by kernel_rfl) (by simp) ?_
                refine AllReadyH.cons rfl (fun K hK => ?_) AllReadyH.nil
                go_simp
                clear q1 q2 q3 q4
                refine hK.out _ _ (HS.out _ ((VB.out.setCell (p := ⟨j, 0, none⟩) (by omega) (.slice x3 n3.length e3)).setCell (p := ⟨j, 1, none⟩) (by omega) (.slice x4 n4.length e4))) (fun hHeld2 => ?_)
                clear hK K hHeld hHeld2
                (try simp only [Act.put, List.setIfInBounds_toArray, List.set_cons_zero, List.set_cons_succ])
                refine wpAnyH_done (by kernel_rfl) ?_ _
                go_wp2_with fail
                go_meet
                case rel => exact ⟨n1, n2, n3, n4, x1, x2, x3, x4, e1, e2, e3, e4, i, j, rfl, rfl, HFA.out, HFB.out, hn1, hn2, hn3, hn4, blk_set_other _ (blk_set_other _ VI.out (by omega)) (by omega), blk_set (.slice x4 n4.length e4) (i := 1) (blk_set (.slice x3 n3.length e3) (i := 0) VJ.out),
                  (T1.out.agr (((Agr.refl _ _ _).set (by omega) _).set (by omega) _)).mono (Nat.zero_le _) (by simp; omega), (T2.out.agr (((Agr.refl _ _ _).set (by omega) _).set (by omega) _)).mono (Nat.zero_le _) (by simp; omega),
                  (T3.out.agr (((Agr.refl _ _ _).set (by omega) _).set (by omega) _)).mono (Nat.zero_le _) (by simp; omega), (T4.out.agr (((Agr.refl _ _ _).set (by omega) _).set (by omega) _)).mono (Nat.zero_le _) (by simp; omega),
                  H2.out.trans (((VB.out.setCell (p := ⟨j, 0, none⟩) (by omega) (.slice x3 n3.length e3)).setCell (p := ⟨j, 1, none⟩) (by omega) (.slice x4 n4.length e4)).mono H2.out.size)⟩
          · skip
            go_simp
            obtain ⟨i, hi⟩ : ∃ v, v = W1.heap.size := ⟨_, rfl⟩
            have hnew := blk_new (w := W1) (o := .cells #[.slice none 0 0, .slice none 0 0] 34 (0, 0)) rfl
            have hb := below_alloc W1 (.cells #[.slice none 0 0, .slice none 0 0] 34 (0, 0))
            have BD7 := Lib.hid (below_alloc' BD1.out (.cells #[.slice none 0 0, .slice none 0 0] 34 (0, 0)))
            have hzs : (W1.alloc (.cells #[.slice none 0 0, .slice none 0 0] 34 (0, 0))).heap.size = W1.heap.size + 1 := by simp
            obtain ⟨W7, hW⟩ : ∃ v, v = W1.alloc (.cells #[.slice none 0 0, .slice none 0 0] 34 (0, 0)) := ⟨_, rfl⟩
            rw [← hW] at hnew hb BD7 hzs ⊢
            rw [← hi] at hnew
            replace R1 := Lib.hid (R1.out.below hb (by omega))
            replace R2 := Lib.hid (R2.out.below hb (by omega))
            have Hi := Lib.hid hnew
            have hlti : i < W7.heap.size := by omega
            have hwsW7 : W1.heap.size ≤ W7.heap.size := by omega
            have hbiA : hiA ≤ i := by omega
            have hw2i : w2.heap.size ≤ i := by have := BD1.out.size; omega
            rw [← hi]
            clear hW hnew hb hzs hi
            refine hK.out _ _ (HS.out _ BD7.out) (fun hHeld2 => ?_)
            clear hK K hHeld
            have hHeld := hHeld2
            clear hHeld2
            (try simp only [Act.put, List.setIfInBounds_toArray, List.set_cons_zero, List.set_cons_succ])
            refine wpAnyH_ready (rs := [3, 5]) (by kernel_rfl) (by simp) ?_
            refine AllReadyH.cons rfl (fun K hK => ?_) (AllReadyH.cons rfl (fun K hK => ?_) (AllReadyH.nil))
            · skip
              go_simp
              refine (HSB.out W7 BD7.out).mono ?_
              rintro e W8 ⟨n3, n4, x3, e3, x4, e4, rfl, hfB, hn3, hn4, ra, rb, hb, hb2, _⟩
              have BD8 := Lib.hid hb2
              have hz8 := hb.size
              obtain ⟨loB, hloB⟩ : ∃ v, v = W7.heap.size := ⟨_, rfl⟩
              obtain ⟨hiB, hhiB⟩ : ∃ v, v = W8.heap.size := ⟨_, rfl⟩
              rw [← hloB, ← hhiB] at ra rb
              have R3 := Lib.hid ra
              have R4 := Lib.hid rb
              have HFB := Lib.hid hfB
              clear ra rb hfB
              have hlB : loB ≤ hiB := by omega
              have hhB : hiB ≤ W8.heap.size := by omega
              have hbiB : i < loB := by omega
              clear hloB hhiB
              replace R1 := Lib.hid (R1.out.below hb (by omega))
              replace R2 := Lib.hid (R2.out.below hb (by omega))
              replace Hi := Lib.hid (hb.blk Hi.out (by omega))
              clear hb hb2
              refine hK.out _ _ (HS.out _ BD8.out) (fun hHeld2 => ?_)
              clear hK K hHeld
              have hHeld := hHeld2
              clear hHeld2
              (try simp only [Act.put, List.setIfInBounds_toArray, List.set_cons_zero, List.set_cons_succ])
              refine wpAnyH_ready (rs := [5]) (by kernel_rfl) (by simp) ?_
              refine AllReadyH.cons rfl (fun K hK => ?_) (AllReadyH.nil)
              · skip
                go_simp
                obtain ⟨j, hj⟩ : ∃ v, v = W8.heap.size := ⟨_, rfl⟩
                have hnew := blk_new (w := W8) (o := .cells #[.slice none 0 0, .slice none 0 0] 34 (0, 0)) rfl
                have hb := below_alloc W8 (.cells #[.slice none 0 0, .slice none 0 0] 34 (0, 0))
                have BD9 := Lib.hid (below_alloc' BD8.out (.cells #[.slice none 0 0, .slice none 0 0] 34 (0, 0)))
                have hzs : (W8.alloc (.cells #[.slice none 0 0, .slice none 0 0] 34 (0, 0))).heap.size = W8.heap.size + 1 := by simp
                obtain ⟨W9, hW⟩ : ∃ v, v = W8.alloc (.cells #[.slice none 0 0, .slice none 0 0] 34 (0, 0)) := ⟨_, rfl⟩
                rw [← hW] at hnew hb BD9 hzs ⊢
                rw [← hj] at hnew
                replace R1 := Lib.hid (R1.out.below hb (by omega))
                replace R2 := Lib.hid (R2.out.below hb (by omega))
                replace R3 := Lib.hid (R3.out.below hb (by omega))
                replace R4 := Lib.hid (R4.out.below hb (by omega))
                replace Hi := Lib.hid (hb.blk Hi.out (by omega))
                have Hj := Lib.hid hnew
                have hltj : j < W9.heap.size := by omega
                have hwsW9 : W8.heap.size ≤ W9.heap.size := by omega
                have hbjA : hiA ≤ j := by omega
                have hbjB : hiB ≤ j := by omega
                have hne : i < j := by omega
                have hw2j : w2.heap.size ≤ j := by have := BD8.out.size; omega
                rw [← hj]
                clear hW hnew hb hzs hj
                refine hK.out _ _ (HS.out _ BD9.out) (fun hHeld2 => ?_)
                clear hK K hHeld
                have hHeld := hHeld2
                clear hHeld2
                (try simp only [Act.put, List.setIfInBounds_toArray, List.set_cons_zero, List.set_cons_succ])
                have hij : i ≠ j := by omega
                obtain ⟨p1, p2, p3, p4⟩ := blk2 Hi.out
                obtain ⟨q1, q2, q3, q4⟩ := blk2 Hj.out
                refine wpAnyH_ready (rs := [6]) (by kernel_rfl) (by simp) ?_
                refine AllReadyH.cons rfl (fun K hK => ?_) AllReadyH.nil
                go_simp
                obtain ⟨V, hV⟩ : ∃ V, V = (W9.setCell ⟨i, 0, none⟩ (.slice x1 n1.length e1)).setCell ⟨i, 1, none⟩ (.slice x2 n2.length e2) := ⟨_, rfl⟩
                have vi := blk_set (.slice x2 n2.length e2) (i := 1) (blk_set (.slice x1 n1.length e1) (i := 0) Hi.out)
                have vj := blk_set_other (.slice x2 n2.length e2) (i := 1) (blk_set_other (.slice x1 n1.length e1) (i := 0) (k := i) Hj.out (by omega)) (k := i) (by omega)
                have vb := (BD9.out.setCell (p := ⟨i, 0, none⟩) (by omega) (.slice x1 n1.length e1)).setCell (p := ⟨i, 1, none⟩) (by omega) (.slice x2 n2.length e2)
                have vs : ((W9.setCell ⟨i, 0, none⟩ (.slice x1 n1.length e1)).setCell ⟨i, 1, none⟩ (.slice x2 n2.length e2)).heap.size = W9.heap.size := by simp
                have t1 := R1.out.agr (((Agr.refl _ _ _).set (k := i) (i := 0) (by omega) (.slice x1 n1.length e1)).set (k := i) (i := 1) (by omega) (.slice x2 n2.length e2))
                have t2 := R2.out.agr (((Agr.refl _ _ _).set (k := i) (i := 0) (by omega) (.slice x1 n1.length e1)).set (k := i) (i := 1) (by omega) (.slice x2 n2.length e2))
                have t3 := R3.out.agr (((Agr.refl _ _ _).set (k := i) (i := 0) (by omega) (.slice x1 n1.length e1)).set (k := i) (i := 1) (by omega) (.slice x2 n2.length e2))
                have t4 := R4.out.agr (((Agr.refl _ _ _).set (k := i) (i := 0) (by omega) (.slice x1 n1.length e1)).set (k := i) (i := 1) (by omega) (.slice x2 n2.length e2))
                rw [← hV] at vi vj vb vs t1 t2 t3 t4 ⊢
                have VI := Lib.hid vi
                have VJ := Lib.hid vj
                have VB := Lib.hid vb
                have T1 := Lib.hid t1
                have T2 := Lib.hid t2
                have T3 := Lib.hid t3
                have T4 := Lib.hid t4
                have VS : W9.heap.size ≤ V.heap.size := by omega
                clear hV vi vj vb vs t1 t2 t3 t4 Hi Hj R1 R2 R3 R4 p1 p2 p3 p4 q1 q2 q3 q4
                refine hK.out _ _ (HS.out _ VB.out) (fun hHeld2 => ?_)
                clear hK K hHeld
                have hHeld := hHeld2
                clear hHeld2
                (try simp only [Act.put, List.setIfInBounds_toArray, List.set_cons_zero, List.set_cons_succ])
                obtain ⟨q1, q2, q3, q4⟩ := blk2 VJ.out
                refine wpAnyH_ready (rs := [7]) (by kernel_rfl) (by simp) ?_
                refine AllReadyH.cons rfl (fun K hK => ?_) AllReadyH.nil
                go_simp
                clear q1 q2 q3 q4
                refine hK.out _ _ (HS.out _ ((VB.out.setCell (p := ⟨j, 0, none⟩) (by omega) (.slice x3 n3.length e3)).setCell (p := ⟨j, 1, none⟩) (by omega) (.slice x4 n4.length e4))) (fun hHeld2 => ?_)
                clear hK K hHeld hHeld2
                (try simp only [Act.put, List.setIfInBounds_toArray, List.set_cons_zero, List.set_cons_succ])
                refine wpAnyH_done (by kernel_rfl) ?_ _
                go_wp2_with fail
                go_meet
                case rel => exact ⟨n1, n2, n3, n4, x1, x2, x3, x4, e1, e2, e3, e4, i, j, rfl, rfl, HFA.out, HFB.out, hn1, hn2, hn3, hn4, blk_set_other _ (blk_set_other _ VI.out (by omega)) (by omega), blk_set (.slice x4 n4.length e4) (i := 1) (blk_set (.slice x3 n3.length e3) (i := 0) VJ.out),
                  (T1.out.agr (((Agr.refl _ _ _).set (by omega) _).set (by omega) _)).mono (Nat.zero_le _) (by simp; omega), (T2.out.agr (((Agr.refl _ _ _).set (by omega) _).set (by omega) _)).mono (Nat.zero_le _) (by simp; omega),
                  (T3.out.agr (((Agr.refl _ _ _).set (by omega) _).set (by omega) _)).mono (Nat.zero_le _) (by simp; omega), (T4.out.agr (((Agr.refl _ _ _).set (by omega) _).set (by omega) _)).mono (Nat.zero_le _) (by simp; omega),
                  H2.out.trans (((VB.out.setCell (p := ⟨j, 0, none⟩) (by omega) (.slice x3 n3.length e3)).setCell (p := ⟨j, 1, none⟩) (by omega) (.slice x4 n4.length e4)).mono H2.out.size)⟩
            · skip
              go_simp
              obtain ⟨j, hj⟩ : ∃ v, v = W7.heap.size := ⟨_, rfl⟩
              have hnew := blk_new (w := W7) (o := .cells #[.slice none 0 0, .slice none 0 0] 34 (0, 0)) rfl
              have hb := below_alloc W7 (.cells #[.slice none 0 0, .slice none 0 0] 34 (0, 0))
              have BD10 := Lib.hid (below_alloc' BD7.out (.cells #[.slice none 0 0, .slice none 0 0] 34 (0, 0)))
              have hzs : (W7.alloc (.cells #[.slice none 0 0, .slice none 0 0] 34 (0, 0))).heap.size = W7.heap.size + 1 := by simp
              obtain ⟨W10, hW⟩ : ∃ v, v = W7.alloc (.cells #[.slice none 0 0, .slice none 0 0] 34 (0, 0)) := ⟨_, rfl⟩
              rw [← hW] at hnew hb BD10 hzs ⊢
              rw [← hj] at hnew
              replace R1 := Lib.hid (R1.out.below hb (by omega))
              replace R2 := Lib.hid (R2.out.below hb (by omega))
              replace Hi := Lib.hid (hb.blk Hi.out (by omega))
              have Hj := Lib.hid hnew
              have hltj : j < W10.heap.size := by omega
              have hwsW10 : W7.heap.size ≤ W10.heap.size := by omega
              have hbjA : hiA ≤ j := by omega
              have hne : i < j := by omega
              have hw2j : w2.heap.size ≤ j := by have := BD7.out.size; omega
              rw [← hj]
              clear hW hnew hb hzs hj
              refine hK.out _ _ (HS.out _ BD10.out) (fun hHeld2 => ?_)
              clear hK K hHeld
              have hHeld := hHeld2
              clear hHeld2
              (try simp only [Act.put, List.setIfInBounds_toArray, List.set_cons_zero, List.set_cons_succ])
              refine wpAnyH_ready (rs := [3]) (by kernel_rfl) (by simp) ?_
              refine AllReadyH.cons rfl (fun K hK => ?_) (AllReadyH.nil)
              · skip
                go_simp
                refine (HSB.out W10 BD10.out).mono ?_
                rintro e W11 ⟨n3, n4, x3, e3, x4, e4, rfl, hfB, hn3, hn4, ra, rb, hb, hb2, _⟩
                have BD11 := Lib.hid hb2
                have hz11 := hb.size
                obtain ⟨loB, hloB⟩ : ∃ v, v = W10.heap.size := ⟨_, rfl⟩
                obtain ⟨hiB, hhiB⟩ : ∃ v, v = W11.heap.size := ⟨_, rfl⟩
                rw [← hloB, ← hhiB] at ra rb
                have R3 := Lib.hid ra
                have R4 := Lib.hid rb
                have HFB := Lib.hid hfB
                clear ra rb hfB
                have hlB : loB ≤ hiB := by omega
                have hhB : hiB ≤ W11.heap.size := by omega
                have hbiB : i < loB := by omega
                have hbjB : j < loB := by omega
                clear hloB hhiB
                replace R1 := Lib.hid (R1.out.below hb (by omega))
                replace R2 := Lib.hid (R2.out.below hb (by omega))
                replace Hi := Lib.hid (hb.blk Hi.out (by omega))
                replace Hj := Lib.hid (hb.blk Hj.out (by omega))
                clear hb hb2
                refine hK.out _ _ (HS.out _ BD11.out) (fun hHeld2 => ?_)
                clear hK K hHeld
                have hHeld := hHeld2
                clear hHeld2
                (try simp only [Act.put, List.setIfInBounds_toArray, List.set_cons_zero, List.set_cons_succ])
                have hij : i ≠ j := by omega
                obtain ⟨p1, p2, p3, p4⟩ := blk2 Hi.out
                obtain ⟨q1, q2, q3, q4⟩ := blk2 Hj.out
                refine wpAnyH_ready (rs := [6]) (by kernel_rfl) (by simp) ?_
                refine AllReadyH.cons rfl (fun K hK => ?_) AllReadyH.nil
                go_simp
                obtain ⟨V, hV⟩ : ∃ V, V = (W11.setCell ⟨i, 0, none⟩ (.slice x1 n1.length e1)).setCell ⟨i, 1, none⟩ (.slice x2 n2.length e2) := ⟨_, rfl⟩
                have vi := blk_set (.slice x2 n2.length e2) (i := 1) (blk_set (.slice x1 n1.length e1) (i := 0) Hi.out)
                have vj := blk_set_other (.slice x2 n2.length e2) (i := 1) (blk_set_other (.slice x1 n1.length e1) (i := 0) (k := i) Hj.out (by omega)) (k := i) (by omega)
                have vb := (BD11.out.setCell (p := ⟨i, 0, none⟩) (by omega) (.slice x1 n1.length e1)).setCell (p := ⟨i, 1, none⟩) (by omega) (.slice x2 n2.length e2)
                have vs : ((W11.setCell ⟨i, 0, none⟩ (.slice x1 n1.length e1)).setCell ⟨i, 1, none⟩ (.slice x2 n2.length e2)).heap.size = W11.heap.size := by simp
                have t1 := R1.out.agr (((Agr.refl _ _ _).set (k := i) (i := 0) (by omega) (.slice x1 n1.length e1)).set (k := i) (i := 1) (by omega) (.slice x2 n2.length e2))
                have t2 := R2.out.agr (((Agr.refl _ _ _).set (k := i) (i := 0) (by omega) (.slice x1 n1.length e1)).set (k := i) (i := 1) (by omega) (.slice x2 n2.length e2))
                have t3 := R3.out.agr (((Agr.refl _ _ _).set (k := i) (i := 0) (by omega) (.slice x1 n1.length e1)).set (k := i) (i := 1) (by omega) (.slice x2 n2.length e2))
                have t4 := R4.out.agr (((Agr.refl _ _ _).set (k := i) (i := 0) (by omega) (.slice x1 n1.length e1)).set (k := i) (i := 1) (by omega) (.slice x2 n2.length e2))
                rw [← hV] at vi vj vb vs t1 t2 t3 t4 ⊢
                have VI := Lib.hid vi
                have VJ := Lib.hid vj
                have VB := Lib.hid vb
                have T1 := Lib.hid t1
                have T2 := Lib.hid t2
                have T3 := Lib.hid t3
                have T4 := Lib.hid t4
                have VS : W11.heap.size ≤ V.heap.size := by omega
                clear hV vi vj vb vs t1 t2 t3 t4 Hi Hj R1 R2 R3 R4 p1 p2 p3 p4 q1 q2 q3 q4
                refine hK.out _ _ (HS.out _ VB.out) (fun hHeld2 => ?_)
                clear hK K hHeld
                have hHeld := hHeld2
                clear hHeld2
                (try simp only [Act.put, List.setIfInBounds_toArray, List.set_cons_zero, List.set_cons_succ])
                obtain ⟨q1, q2, q3, q4⟩ := blk2 VJ.out
                refine wpAnyH_ready (rs := [7]) (by kernel_rfl) (by simp) ?_
                refine AllReadyH.cons rfl (fun K hK => ?_) AllReadyH.nil
                go_simp
                clear q1 q2 q3 q4
                refine hK.out _ _ (HS.out _ ((VB.out.setCell (p := ⟨j, 0, none⟩) (by omega) (.slice x3 n3.length e3)).setCell (p := ⟨j, 1, none⟩) (by omega) (.slice x4 n4.length e4))) (fun hHeld2 => ?_)
                clear hK K hHeld hHeld2
                (try simp only [Act.put, List.setIfInBounds_toArray, List.set_cons_zero, List.set_cons_succ])
                refine wpAnyH_done (by kernel_rfl) ?_ _
                go_wp2_with fail
                go_meet
                case rel => exact ⟨n1, n2, n3, n4, x1, x2, x3, x4, e1, e2, e3, e4, i, j, rfl, rfl, HFA.out, HFB.out, hn1, hn2, hn3, hn4, blk_set_other _ (blk_set_other _ VI.out (by omega)) (by omega), blk_set (.slice x4 n4.length e4) (i := 1) (blk_set (.slice x3 n3.length e3) (i := 0) VJ.out),
                  (T1.out.agr (((Agr.refl _ _ _).set (by omega) _).set (by omega) _)).mono (Nat.zero_le _) (by simp; omega), (T2.out.agr (((Agr.refl _ _ _).set (by omega) _).set (by omega) _)).mono (Nat.zero_le _) (by simp; omega),
                  (T3.out.agr (((Agr.refl _ _ _).set (by omega) _).set (by omega) _)).mono (Nat.zero_le _) (by simp; omega), (T4.out.agr (((Agr.refl _ _ _).set (by omega) _).set (by omega) _)).mono (Nat.zero_le _) (by simp; omega),
                  H2.out.trans (((VB.out.setCell (p := ⟨j, 0, none⟩) (by omega) (.slice x3 n3.length e3)).setCell (p := ⟨j, 1, none⟩) (by omega) (.slice x4 n4.length e4)).mono H2.out.size)⟩
          · skip
            go_simp
            obtain ⟨j, hj⟩ : ∃ v, v = W1.heap.size := ⟨_, rfl⟩
            have hnew := blk_new (w := W1) (o := .cells #[.slice none 0 0, .slice none 0 0] 34 (0, 0)) rfl
            have hb := below_alloc W1 (.cells #[.slice none 0 0, .slice none 0 0] 34 (0, 0))
            have BD12 := Lib.hid (below_alloc' BD1.out (.cells #[.slice none 0 0, .slice none 0 0] 34 (0, 0)))
            have hzs : (W1.alloc (.cells #[.slice none 0 0, .slice none 0 0] 34 (0, 0))).heap.size = W1.heap.size + 1 := by simp
            obtain ⟨W12, hW⟩ : ∃ v, v = W1.alloc (.cells #[.slice none 0 0, .slice none 0 0] 34 (0, 0)) := ⟨_, rfl⟩
            rw [← hW] at hnew hb BD12 hzs ⊢
            rw [← hj] at hnew
            replace R1 := Lib.hid (R1.out.below hb (by omega))
            replace R2 := Lib.hid (R2.out.below hb (by omega))
            have Hj := Lib.hid hnew
            have hltj : j < W12.heap.size := by omega
            have hwsW12 : W1.heap.size ≤ W12.heap.size := by omega
            have hbjA : hiA ≤ j := by omega
            have hw2j : w2.heap.size ≤ j := by have := BD1.out.size; omega
            rw [← hj]
            clear hW hnew hb hzs hj
            refine hK.out _ _ (HS.out _ BD12.out) (fun hHeld2 => ?_)
            clear hK K hHeld
            have hHeld := hHeld2
            clear hHeld2
            (try simp only [Act.put, List.setIfInBounds_toArray, List.set_cons_zero, List.set_cons_succ])
            refine wpAnyH_ready (rs := [3, 4]) (by kernel_rfl) (by simp) ?_
            refine AllReadyH.cons rfl (fun K hK => ?_) (AllReadyH.cons rfl (fun K hK => ?_) (AllReadyH.nil))
            · skip
              go_simp
              refine (HSB.out W12 BD12.out).mono ?_
              rintro e W13 ⟨n3, n4, x3, e3, x4, e4, rfl, hfB, hn3, hn4, ra, rb, hb, hb2, _⟩
              have BD13 := Lib.hid hb2
              have hz13 := hb.size
              obtain ⟨loB, hloB⟩ : ∃ v, v = W12.heap.size := ⟨_, rfl⟩
              obtain ⟨hiB, hhiB⟩ : ∃ v, v = W13.heap.size := ⟨_, rfl⟩
              rw [← hloB, ← hhiB] at ra rb
              have R3 := Lib.hid ra
              have R4 := Lib.hid rb
              have HFB := Lib.hid hfB
              clear ra rb hfB
              have hlB : loB ≤ hiB := by omega
              have hhB : hiB ≤ W13.heap.size := by omega
              have hbjB : j < loB := by omega
              clear hloB hhiB
              replace R1 := Lib.hid (R1.out.below hb (by omega))
              replace R2 := Lib.hid (R2.out.below hb (by omega))
              replace Hj := Lib.hid (hb.blk Hj.out (by omega))
              clear hb hb2
              refine hK.out _ _ (HS.out _ BD13.out) (fun hHeld2 => ?_)
              clear hK K hHeld
              have hHeld := hHeld2
              clear hHeld2
              (try simp only [Act.put, List.setIfInBounds_toArray, List.set_cons_zero, List.set_cons_succ])
              refine wpAnyH_ready (rs := [4]) (by kernel_rfl) (by simp) ?_
              refine AllReadyH.cons rfl (fun K hK => ?_) (AllReadyH.nil)
              · skip
                go_simp
                obtain ⟨i, hi⟩ : ∃ v, v = W13.heap.size := ⟨_, rfl⟩
                have hnew := blk_new (w := W13) (o := .cells #[.slice none 0 0, .slice none 0 0] 34 (0, 0)) rfl
                have hb := below_alloc W13 (.cells #[.slice none 0 0, .slice none 0 0] 34 (0, 0))
                have BD14 := Lib.hid (below_alloc' BD13.out (.cells #[.slice none 0 0, .slice none 0 0] 34 (0, 0)))
                have hzs : (W13.alloc (.cells #[.slice none 0 0, .slice none 0 0] 34 (0, 0))).heap.size = W13.heap.size + 1 := by simp
                obtain ⟨W14, hW⟩ : ∃ v, v = W13.alloc (.cells #[.slice none 0 0, .slice none 0 0] 34 (0, 0)) := ⟨_, rfl⟩
                rw [← hW] at hnew hb BD14 hzs ⊢
                rw [← hi] at hnew
                replace R1 := Lib.hid (R1.out.below hb (by omega))
                replace R2 := Lib.hid (R2.out.below hb (by omega))
                replace R3 := Lib.hid (R3.out.below hb (by omega))
                replace R4 := Lib.hid (R4.out.below hb (by omega))
                replace Hj := Lib.hid (hb.blk Hj.out (by omega))
                have Hi := Lib.hid hnew
                have hlti : i < W14.heap.size := by omega
                have hwsW14 : W13.heap.size ≤ W14.heap.size := by omega
                have hbiA : hiA ≤ i := by omega
                have hbiB : hiB ≤ i := by omega
                have hne : j < i := by omega
                have hw2i : w2.heap.size ≤ i := by have := BD13.out.size; omega
                rw [← hi]
                clear hW hnew hb hzs hi
                refine hK.out _ _ (HS.out _ BD14.out) (fun hHeld2 => ?_)
                clear hK K hHeld
                have hHeld := hHeld2
                clear hHeld2
                (try simp only [Act.put, List.setIfInBounds_toArray, List.set_cons_zero, List.set_cons_succ])
                have hij : i ≠ j := by omega
                obtain ⟨p1, p2, p3, p4⟩ := blk2 Hi.out
                obtain ⟨q1, q2, q3, q4⟩ := blk2 Hj.out
                refine wpAnyH_ready (rs := [6]) (by kernel_rfl) (by simp) ?_
                refine AllReadyH.cons rfl (fun K hK => ?_) AllReadyH.nil
                go_simp
                obtain ⟨V, hV⟩ : ∃ V, V = (W14.setCell ⟨i, 0, none⟩ (.slice x1 n1.length e1)).setCell ⟨i, 1, none⟩ (.slice x2 n2.length e2) := ⟨_, rfl⟩
                have vi := blk_set (.slice x2 n2.length e2) (i := 1) (blk_set (.slice x1 n1.length e1) (i := 0) Hi.out)
                have vj := blk_set_other (.slice x2 n2.length e2) (i := 1) (blk_set_other (.slice x1 n1.length e1) (i := 0) (k := i) Hj.out (by omega)) (k := i) (by omega)
                have vb := (BD14.out.setCell (p := ⟨i, 0, none⟩) (by omega) (.slice x1 n1.length e1)).setCell (p := ⟨i, 1, none⟩) (by omega) (.slice x2 n2.length e2)
                have vs : ((W14.setCell ⟨i, 0, none⟩ (.slice x1 n1.length e1)).setCell ⟨i, 1, none⟩ (.slice x2 n2.length e2)).heap.size = W14.heap.size := by simp
                have t1 := R1.out.agr (((Agr.refl _ _ _).set (k := i) (i := 0) (by omega) (.slice x1 n1.length e1)).set (k := i) (i := 1) (by omega) (.slice x2 n2.length e2))
                have t2 := R2.out.agr (((Agr.refl _ _ _).set (k := i) (i := 0) (by omega) (.slice x1 n1.length e1)).set (k := i) (i := 1) (by omega) (.slice x2 n2.length e2))
                have t3 := R3.out.agr (((Agr.refl _ _ _).set (k := i) (i := 0) (by omega) (.slice x1 n1.length e1)).set (k := i) (i := 1) (by omega) (.slice x2 n2.length e2))
                have t4 := R4.out.agr (((Agr.refl _ _ _).set (k := i) (i := 0) (by omega) (.slice x1 n1.length e1)).set (k := i) (i := 1) (by omega) (.slice x2 n2.length e2))
                rw [← hV] at vi vj vb vs t1 t2 t3 t4 ⊢
                have VI := Lib.hid vi
                have VJ := Lib.hid vj
                have VB := Lib.hid vb
                have T1 := Lib.hid t1
                have T2 := Lib.hid t2
                have T3 := Lib.hid t3
                have T4 := Lib.hid t4
                have VS : W14.heap.size ≤ V.heap.size := by omega
                clear hV vi vj vb vs t1 t2 t3 t4 Hi Hj R1 R2 R3 R4 p1 p2 p3 p4 q1 q2 q3 q4
                refine hK.out _ _ (HS.out _ VB.out) (fun hHeld2 => ?_)
                clear hK K hHeld
                have hHeld := hHeld2
                clear hHeld2
                (try simp only [Act.put, List.setIfInBounds_toArray, List.set_cons_zero, List.set_cons_succ])
                obtain ⟨q1, q2, q3, q4⟩ := blk2 VJ.out
                refine wpAnyH_ready (rs := [7]) (by kernel_rfl) (by simp) ?_
                refine AllReadyH.cons rfl (fun K hK => ?_) AllReadyH.nil
                go_simp
                clear q1 q2 q3 q4
                refine hK.out _ _ (HS.out _ ((VB.out.setCell (p := ⟨j, 0, none⟩) (by omega) (.slice x3 n3.length e3)).setCell (p := ⟨j, 1, none⟩) (by omega) (.slice x4 n4.length e4))) (fun hHeld2 => ?_)
                clear hK K hHeld hHeld2
                (try simp only [Act.put, List.setIfInBounds_toArray, List.set_cons_zero, List.set_cons_succ])
                refine wpAnyH_done (by kernel_rfl) ?_ _
                go_wp2_with fail
                go_meet
                case rel => exact ⟨n1, n2, n3, n4, x1, x2, x3, x4, e1, e2, e3, e4, i, j, rfl, rfl, HFA.out, HFB.out, hn1, hn2, hn3, hn4, blk_set_other _ (blk_set_other _ VI.out (by omega)) (by omega), blk_set (.slice x4 n4.length e4) (i := 1) (blk_set (.slice x3 n3.length e3) (i := 0) VJ.out),
                  (T1.out.agr (((Agr.refl _ _ _).set (by omega) _).set (by omega) _)).mono (Nat.zero_le _) (by simp; omega), (T2.out.agr (((Agr.refl _ _ _).set (by omega) _).set (by omega) _)).mono (Nat.zero_le _) (by simp; omega),
                  (T3.out.agr (((Agr.refl _ _ _).set (by omega) _).set (by omega) _)).mono (Nat.zero_le _) (by simp; omega), (T4.out.agr (((Agr.refl _ _ _).set (by omega) _).set (by omega) _)).mono (Nat.zero_le _) (by simp; omega),
                  H2.out.trans (((VB.out.setCell (p := ⟨j, 0, none⟩) (by omega) (.slice x3 n3.length e3)).setCell (p := ⟨j, 1, none⟩) (by omega) (.slice x4 n4.length e4)).mono H2.out.size)⟩
            · skip
              go_simp
              obtain ⟨i, hi⟩ : ∃ v, v = W12.heap.size := ⟨_, rfl⟩
              have hnew := blk_new (w := W12) (o := .cells #[.slice none 0 0, .slice none 0 0] 34 (0, 0)) rfl
              have hb := below_alloc W12 (.cells #[.slice none 0 0, .slice none 0 0] 34 (0, 0))
              have BD15 := Lib.hid (below_alloc' BD12.out (.cells #[.slice none 0 0, .slice none 0 0] 34 (0, 0)))
              have hzs : (W12.alloc (.cells #[.slice none 0 0, .slice none 0 0] 34 (0, 0))).heap.size = W12.heap.size + 1 := by simp
              obtain ⟨W15, hW⟩ : ∃ v, v = W12.alloc (.cells #[.slice none 0 0, .slice none 0 0] 34 (0, 0)) := ⟨_, rfl⟩
              rw [← hW] at hnew hb BD15 hzs ⊢
              rw [← hi] at hnew
              replace R1 := Lib.hid (R1.out.below hb (by omega))
              replace R2 := Lib.hid (R2.out.below hb (by omega))
              replace Hj := Lib.hid (hb.blk Hj.out (by omega))
              have Hi := Lib.hid hnew
              have hlti : i < W15.heap.size := by omega
              have hwsW15 : W12.heap.size ≤ W15.heap.size := by omega
              have hbiA : hiA ≤ i := by omega
              have hne : j < i := by omega
              have hw2i : w2.heap.size ≤ i := by have := BD12.out.size; omega
              rw [← hi]
              clear hW hnew hb hzs hi
              refine hK.out _ _ (HS.out _ BD15.out) (fun hHeld2 => ?_)
              clear hK K hHeld
              have hHeld := hHeld2
              clear hHeld2
              (try simp only [Act.put, List.setIfInBounds_toArray, List.set_cons_zero, List.set_cons_succ])
              refine wpAnyH_ready (rs := [3]) (by kernel_rfl) (by simp) ?_
              refine AllReadyH.cons rfl (fun K hK => ?_) (AllReadyH.nil)
              · skip
                go_simp
                refine (HSB.out W15 BD15.out).mono ?_
                rintro e W16 ⟨n3, n4, x3, e3, x4, e4, rfl, hfB, hn3, hn4, ra, rb, hb, hb2, _⟩
                have BD16 := Lib.hid hb2
                have hz16 := hb.size
                obtain ⟨loB, hloB⟩ : ∃ v, v = W15.heap.size := ⟨_, rfl⟩
                obtain ⟨hiB, hhiB⟩ : ∃ v, v = W16.heap.size := ⟨_, rfl⟩
                rw [← hloB, ← hhiB] at ra rb
                have R3 := Lib.hid ra
                have R4 := Lib.hid rb
                have HFB := Lib.hid hfB
                clear ra rb hfB
                have hlB : loB ≤ hiB := by omega
                have hhB : hiB ≤ W16.heap.size := by omega
                have hbiB : i < loB := by omega
                have hbjB : j < loB := by omega
                clear hloB hhiB
                replace R1 := Lib.hid (R1.out.below hb (by omega))
                replace R2 := Lib.hid (R2.out.below hb (by omega))
                replace Hi := Lib.hid (hb.blk Hi.out (by omega))
                replace Hj := Lib.hid (hb.blk Hj.out (by omega))
                clear hb hb2
                refine hK.out _ _ (HS.out _ BD16.out) (fun hHeld2 => ?_)
                clear hK K hHeld
                have hHeld := hHeld2
                clear hHeld2
                (try simp only [Act.put, List.setIfInBounds_toArray, List.set_cons_zero, List.set_cons_succ])
                have hij : i ≠ j := by omega
                obtain ⟨p1, p2, p3, p4⟩ := blk2 Hi.out
                obtain ⟨q1, q2, q3, q4⟩ := blk2 Hj.out
                refine wpAnyH_ready (rs := [6]) (by kernel_rfl) (by simp) ?_
                refine AllReadyH.cons rfl (fun K hK => ?_) AllReadyH.nil
                go_simp
                obtain ⟨V, hV⟩ : ∃ V, V = (W16.setCell ⟨i, 0, none⟩ (.slice x1 n1.length e1)).setCell ⟨i, 1, none⟩ (.slice x2 n2.length e2) := ⟨_, rfl⟩
                have vi := blk_set (.slice x2 n2.length e2) (i := 1) (blk_set (.slice x1 n1.length e1) (i := 0) Hi.out)
                have vj := blk_set_other (.slice x2 n2.length e2) (i := 1) (blk_set_other (.slice x1 n1.length e1) (i := 0) (k := i) Hj.out (by omega)) (k := i) (by omega)
                have vb := (BD16.out.setCell (p := ⟨i, 0, none⟩) (by omega) (.slice x1 n1.length e1)).setCell (p := ⟨i, 1, none⟩) (by omega) (.slice x2 n2.length e2)
                have vs : ((W16.setCell ⟨i, 0, none⟩ (.slice x1 n1.length e1)).setCell ⟨i, 1, none⟩ (.slice x2 n2.length e2)).heap.size = W16.heap.size := by simp
                have t1 := R1.out.agr (((Agr.refl _ _ _).set (k := i) (i := 0) (by omega) (.slice x1 n1.length e1)).set (k := i) (i := 1) (by omega) (.slice x2 n2.length e2))
                have t2 := R2.out.agr (((Agr.refl _ _ _).set (k := i) (i := 0) (by omega) (.slice x1 n1.length e1)).set (k := i) (i := 1) (by omega) (.slice x2 n2.length e2))
                have t3 := R3.out.agr (((Agr.refl _ _ _).set (k := i) (i := 0) (by omega) (.slice x1 n1.length e1)).set (k := i) (i := 1) (by omega) (.slice x2 n2.length e2))
                have t4 := R4.out.agr (((Agr.refl _ _ _).set (k := i) (i := 0) (by omega) (.slice x1 n1.length e1)).set (k := i) (i := 1) (by omega) (.slice x2 n2.length e2))
                rw [← hV] at vi vj vb vs t1 t2 t3 t4 ⊢
                have VI := Lib.hid vi
                have VJ := Lib.hid vj
                have VB := Lib.hid vb
                have T1 := Lib.hid t1
                have T2 := Lib.hid t2
                have T3 := Lib.hid t3
                have T4 := Lib.hid t4
                have VS : W16.heap.size ≤ V.heap.size := by omega
                clear hV vi vj vb vs t1 t2 t3 t4 Hi Hj R1 R2 R3 R4 p1 p2 p3 p4 q1 q2 q3 q4
                refine hK.out _ _ (HS.out _ VB.out) (fun hHeld2 => ?_)
                clear hK K hHeld
                have hHeld := hHeld2
                clear hHeld2
                (try simp only [Act.put, List.setIfInBounds_toArray, List.set_cons_zero, List.set_cons_succ])
                obtain ⟨q1, q2, q3, q4⟩ := blk2 VJ.out
                refine wpAnyH_ready (rs := [7]) (by kernel_rfl) (by simp) ?_
                refine AllReadyH.cons rfl (fun K hK => ?_) AllReadyH.nil
                go_simp
                clear q1 q2 q3 q4
                refine hK.out _ _ (HS.out _ ((VB.out.setCell (p := ⟨j, 0, none⟩) (by omega) (.slice x3 n3.length e3)).setCell (p := ⟨j, 1, none⟩) (by omega) (.slice x4 n4.length e4))) (fun hHeld2 => ?_)
                clear hK K hHeld hHeld2
                (try simp only [Act.put, List.setIfInBounds_toArray, List.set_cons_zero, List.set_cons_succ])
                refine wpAnyH_done (by kernel_rfl) ?_ _
                go_wp2_with fail
                go_meet
                case rel => exact ⟨n1, n2, n3, n4, x1, x2, x3, x4, e1, e2, e3, e4, i, j, rfl, rfl, HFA.out, HFB.out, hn1, hn2, hn3, hn4, blk_set_other _ (blk_set_other _ VI.out (by omega)) (by omega), blk_set (.slice x4 n4.length e4) (i := 1) (blk_set (.slice x3 n3.length e3) (i := 0) VJ.out),
                  (T1.out.agr (((Agr.refl _ _ _).set (by omega) _).set (by omega) _)).mono (Nat.zero_le _) (by simp; omega), (T2.out.agr (((Agr.refl _ _ _).set (by omega) _).set (by omega) _)).mono (Nat.zero_le _) (by simp; omega),
                  (T3.out.agr (((Agr.refl _ _ _).set (by omega) _).set (by omega) _)).mono (Nat.zero_le _) (by simp; omega), (T4.out.agr (((Agr.refl _ _ _).set (by omega) _).set (by omega) _)).mono (Nat.zero_le _) (by simp; omega),
                  H2.out.trans (((VB.out.setCell (p := ⟨j, 0, none⟩) (by omega) (.slice x3 n3.length e3)).setCell (p := ⟨j, 1, none⟩) (by omega) (.slice x4 n4.length e4)).mono H2.out.size)⟩
        · skip
          go_simp
          obtain ⟨i, hi⟩ : ∃ v, v = W0.heap.size := ⟨_, rfl⟩
          have hnew := blk_new (w := W0) (o := .cells #[.slice none 0 0, .slice none 0 0] 34 (0, 0)) rfl
          have hb := below_alloc W0 (.cells #[.slice none 0 0, .slice none 0 0] 34 (0, 0))
          have BD17 := Lib.hid (below_alloc' BD0.out (.cells #[.slice none 0 0, .slice none 0 0] 34 (0, 0)))
          have hzs : (W0.alloc (.cells #[.slice none 0 0, .slice none 0 0] 34 (0, 0))).heap.size = W0.heap.size + 1 := by simp
          obtain ⟨W17, hW⟩ : ∃ v, v = W0.alloc (.cells #[.slice none 0 0, .slice none 0 0] 34 (0, 0)) := ⟨_, rfl⟩
          rw [← hW] at hnew hb BD17 hzs ⊢
          rw [← hi] at hnew
          have Hi := Lib.hid hnew
          have hlti : i < W17.heap.size := by omega
          have hwsW17 : W0.heap.size ≤ W17.heap.size := by omega
          have hw2i : w2.heap.size ≤ i := by have := BD0.out.size; omega
          rw [← hi]
          clear hW hnew hb hzs hi
          refine hK.out _ _ (HS.out _ BD17.out) (fun hHeld2 => ?_)
          clear hK K hHeld
          have hHeld := hHeld2
          clear hHeld2
          (try simp only [Act.put, List.setIfInBounds_toArray, List.set_cons_zero, List.set_cons_succ])
          refine wpAnyH_ready (rs := [1, 5]) (by kernel_rfl) (by simp) ?_
          refine AllReadyH.cons rfl (fun K hK => ?_) (AllReadyH.cons rfl (fun K hK => ?_) (AllReadyH.nil))
          · skip
            go_simp
            refine (HSA.out W17 BD17.out).mono ?_
            rintro e W18 ⟨n1, n2, x1, e1, x2, e2, rfl, hfA, hn1, hn2, ra, rb, hb, hb2, _⟩
            have BD18 := Lib.hid hb2
            have hz18 := hb.size
            obtain ⟨loA, hloA⟩ : ∃ v, v = W17.heap.size := ⟨_, rfl⟩
            obtain ⟨hiA, hhiA⟩ : ∃ v, v = W18.heap.size := ⟨_, rfl⟩
            rw [← hloA, ← hhiA] at ra rb
            have R1 := Lib.hid ra
            have R2 := Lib.hid rb
            have HFA := Lib.hid hfA
            clear ra rb hfA
            have hlA : loA ≤ hiA := by omega
            have hhA : hiA ≤ W18.heap.size := by omega
            have hbiA : i < loA := by omega
            clear hloA hhiA
            replace Hi := Lib.hid (hb.blk Hi.out (by omega))
            clear hb hb2
            refine hK.out _ _ (HS.out _ BD18.out) (fun hHeld2 => ?_)
            clear hK K hHeld
            have hHeld := hHeld2
            clear hHeld2
            (try simp only [Act.put, List.setIfInBounds_toArray, List.set_cons_zero, List.set_cons_succ])
            refine wpAnyH_ready (rs := [3, 5]) (by kernel_rfl) (by simp) ?_
            refine AllReadyH.cons rfl (fun K hK => ?_) (AllReadyH.cons rfl (fun K hK => ?_) (AllReadyH.nil))
            · skip
              go_simp
              refine (HSB.out W18 BD18.out).mono ?_
              rintro e W19 ⟨n3, n4, x3, e3, x4, e4, rfl, hfB, hn3, hn4, ra, rb, hb, hb2, _⟩
              have BD19 := Lib.hid hb2
              have hz19 := hb.size
              obtain ⟨loB, hloB⟩ : ∃ v, v = W18.heap.size := ⟨_, rfl⟩
              obtain ⟨hiB, hhiB⟩ : ∃ v, v = W19.heap.size := ⟨_, rfl⟩
              rw [← hloB, ← hhiB] at ra rb
              have R3 := Lib.hid ra
              have R4 := Lib.hid rb
              have HFB := Lib.hid hfB
              clear ra rb hfB
              have hlB : loB ≤ hiB := by omega
              have hhB : hiB ≤ W19.heap.size := by omega
              have hbiB : i < loB := by omega
              clear hloB hhiB
              replace R1 := Lib.hid (R1.out.below hb (by omega))
              replace R2 := Lib.hid (R2.out.below hb (by omega))
              replace Hi := Lib.hid (hb.blk Hi.out (by omega))
              clear hb hb2
              refine hK.out _ _ (HS.out _ BD19.out) (fun hHeld2 => ?_)
              clear hK K hHeld
              have hHeld := hHeld2
              clear hHeld2
              (try simp only [Act.put, List.setIfInBounds_toArray, List.set_cons_zero, List.set_cons_succ])
              refine wpAnyH_ready (rs := [5]) (by kernel_rfl) (by simp) ?_
              refine AllReadyH.cons rfl (fun K hK => ?_) (AllReadyH.nil)
              · skip
                go_simp
                obtain ⟨j, hj⟩ : ∃ v, v = W19.heap.size := ⟨_, rfl⟩
                have hnew := blk_new (w := W19) (o := .cells #[.slice none 0 0, .slice none 0 0] 34 (0, 0)) rfl
                have hb := below_alloc W19 (.cells #[.slice none 0 0, .slice none 0 0] 34 (0, 0))
                have BD20 := Lib.hid (below_alloc' BD19.out (.cells #[.slice none 0 0, .slice none 0 0] 34 (0, 0)))
                have hzs : (W19.alloc (.cells #[.slice none 0 0, .slice none 0 0] 34 (0, 0))).heap.size = W19.heap.size + 1 := by simp
                obtain ⟨W20, hW⟩ : ∃ v, v = W19.alloc (.cells #[.slice none 0 0, .slice none 0 0] 34 (0, 0)) := ⟨_, rfl⟩
                rw [← hW] at hnew hb BD20 hzs ⊢
                rw [← hj] at hnew
                replace R1 := Lib.hid (R1.out.below hb (by omega))
                replace R2 := Lib.hid (R2.out.below hb (by omega))
                replace R3 := Lib.hid (R3.out.below hb (by omega))
                replace R4 := Lib.hid (R4.out.below hb (by omega))
                replace Hi := Lib.hid (hb.blk Hi.out (by omega))
                have Hj := Lib.hid hnew
                have hltj : j < W20.heap.size := by omega
                have hwsW20 : W19.heap.size ≤ W20.heap.size := by omega
                have hbjA : hiA ≤ j := by omega
                have hbjB : hiB ≤ j := by omega
                have hne : i < j := by omega
                have hw2j : w2.heap.size ≤ j := by have := BD19.out.size; omega
                rw [← hj]
                clear hW hnew hb hzs hj
                refine hK.out _ _ (HS.out _ BD20.out) (fun hHeld2 => ?_)
                clear hK K hHeld
                have hHeld := hHeld2
                clear hHeld2
                (try simp only [Act.put, List.setIfInBounds_toArray, List.set_cons_zero, List.set_cons_succ])
                have hij : i ≠ j := by omega
                obtain ⟨p1, p2, p3, p4⟩ := blk2 Hi.out
                obtain ⟨q1, q2, q3, q4⟩ := blk2 Hj.out
                refine wpAnyH_ready (rs := [6]) (by kernel_rfl) (by simp) ?_
                refine AllReadyH.cons rfl (fun K hK => ?_) AllReadyH.nil
                go_simp
                obtain ⟨V, hV⟩ : ∃ V, V = (W20.setCell ⟨i, 0, none⟩ (.slice x1 n1.length e1)).setCell ⟨i, 1, none⟩ (.slice x2 n2.length e2) := ⟨_, rfl⟩
                have vi := blk_set (.slice x2 n2.length e2) (i := 1) (blk_set (.slice x1 n1.length e1) (i := 0) Hi.out)
                have vj := blk_set_other (.slice x2 n2.length e2) (i := 1) (blk_set_other (.slice x1 n1.length e1) (i := 0) (k := i) Hj.out (by omega)) (k := i) (by omega)
                have vb := (BD20.out.setCell (p := ⟨i, 0, none⟩) (by omega) (.slice x1 n1.length e1)).setCell (p := ⟨i, 1, none⟩) (by omega) (.slice x2 n2.length e2)
                have vs : ((W20.setCell ⟨i, 0, none⟩ (.slice x1 n1.length e1)).setCell ⟨i, 1, none⟩ (.slice x2 n2.length e2)).heap.size = W20.heap.size := by simp
                have t1 := R1.out.agr (((Agr.refl _ _ _).set (k := i) (i := 0) (by omega) (.slice x1 n1.length e1)).set (k := i) (i := 1) (by omega) (.slice x2 n2.length e2))
                have t2 := R2.out.agr (((Agr.refl _ _ _).set (k := i) (i := 0) (by omega) (.slice x1 n1.length e1)).set (k := i) (i := 1) (by omega) (.slice x2 n2.length e2))
                have t3 := R3.out.agr (((Agr.refl _ _ _).set (k := i) (i := 0) (by omega) (.slice x1 n1.length e1)).set (k := i) (i := 1) (by omega) (.slice x2 n2.length e2))
                have t4 := R4.out.agr (((Agr.refl _ _ _).set (k := i) (i := 0) (by omega) (.slice x1 n1.length e1)).set (k := i) (i := 1) (by omega) (.slice x2 n2.length e2))
                rw [← hV] at vi vj vb vs t1 t2 t3 t4 ⊢
                have VI := Lib.hid vi
                have VJ := Lib.hid vj
                have VB := Lib.hid vb
                have T1 := Lib.hid t1
                have T2 := Lib.hid t2
                have T3 := Lib.hid t3
                have T4 := Lib.hid t4
                have VS : W20.heap.size ≤ V.heap.size := by omega
                clear hV vi vj vb vs t1 t2 t3 t4 Hi Hj R1 R2 R3 R4 p1 p2 p3 p4 q1 q2 q3 q4
                refine hK.out _ _ (HS.out _ VB.out) (fun hHeld2 => ?_)
                clear hK K hHeld
                have hHeld := hHeld2
                clear hHeld2
                (try simp only [Act.put, List.setIfInBounds_toArray, List.set_cons_zero, List.set_cons_succ])
                obtain ⟨q1, q2, q3, q4⟩ := blk2 VJ.out
                refine wpAnyH_ready (rs := [7]) (by kernel_rfl) (by simp) ?_
                refine AllReadyH.cons rfl (fun K hK => ?_) AllReadyH.nil
                go_simp
                clear q1 q2 q3 q4
                refine hK.out _ _ (HS.out _ ((VB.out.setCell (p := ⟨j, 0, none⟩) (by omega) (.slice x3 n3.length e3)).setCell (p := ⟨j, 1, none⟩) (by omega) (.slice x4 n4.length e4))) (fun hHeld2 => ?_)
                clear hK K hHeld hHeld2
                (try simp only [Act.put, List.setIfInBounds_toArray, List.set_cons_zero, List.set_cons_succ])
                refine wpAnyH_done (by kernel_rfl) ?_ _
                go_wp2_with fail
                go_meet
                case rel => exact ⟨n1, n2, n3, n4, x1, x2, x3, x4, e1, e2, e3, e4, i, j, rfl, rfl, HFA.out, HFB.out, hn1, hn2, hn3, hn4, blk_set_other _ (blk_set_other _ VI.out (by omega)) (by omega), blk_set (.slice x4 n4.length e4) (i := 1) (blk_set (.slice x3 n3.length e3) (i := 0) VJ.out),
                  (T1.out.agr (((Agr.refl _ _ _).set (by omega) _).set (by omega) _)).mono (Nat.zero_le _) (by simp; omega), (T2.out.agr (((Agr.refl _ _ _).set (by omega) _).set (by omega) _)).mono (Nat.zero_le _) (by simp; omega),
                  (T3.out.agr (((Agr.refl _ _ _).set (by omega) _).set (by omega) _)).mono (Nat.zero_le _) (by simp; omega), (T4.out.agr (((Agr.refl _ _ _).set (by omega) _).set (by omega) _)).mono (Nat.zero_le _) (by simp; omega),
                  H2.out.trans (((VB.out.setCell (p := ⟨j, 0, none⟩) (by omega) (.slice x3 n3.length e3)).setCell (p := ⟨j, 1, none⟩) (by omega) (.slice x4 n4.length e4)).mono H2.out.size)⟩
            · skip
              go_simp
              obtain ⟨j, hj⟩ : ∃ v, v = W18.heap.size := ⟨_, rfl⟩
              have hnew := blk_new (w := W18) (o := .cells #[.slice none 0 0, .slice none 0 0] 34 (0, 0)) rfl
              have hb := below_alloc W18 (.cells #[.slice none 0 0, .slice none 0 0] 34 (0, 0))
              have BD21 := Lib.hid (below_alloc' BD18.out (.cells #[.slice none 0 0, .slice none 0 0] 34 (0, 0)))
              have hzs : (W18.alloc (.cells #[.slice none 0 0, .slice none 0 0] 34 (0, 0))).heap.size = W18.heap.size + 1 := by simp
              obtain ⟨W21, hW⟩ : ∃ v, v = W18.alloc (.cells #[.slice none 0 0, .slice none 0 0] 34 (0, 0)) := ⟨_, rfl⟩
              rw [← hW] at hnew hb BD21 hzs ⊢
              rw [← hj] at hnew
              replace R1 := Lib.hid (R1.out.below hb (by omega))
              replace R2 := Lib.hid (R2.out.below hb (by omega))
              replace Hi := Lib.hid (hb.blk Hi.out (by omega))
              have Hj := Lib.hid hnew
              have hltj : j < W21.heap.size := by omega
              have hwsW21 : W18.heap.size ≤ W21.heap.size := by omega
              have hbjA : hiA ≤ j := by omega
              have hne : i < j := by omega
              have hw2j : w2.heap.size ≤ j := by have := BD18.out.size; omega
              rw [← hj]
              clear hW hnew hb hzs hj
              refine hK.out _ _ (HS.out _ BD21.out) (fun hHeld2 => ?_)
              clear hK K hHeld
              have hHeld := hHeld2
              clear hHeld2
              (try simp only [Act.put, List.setIfInBounds_toArray, List.set_cons_zero, List.set_cons_succ])
              refine wpAnyH_ready (rs := [3]) (by kernel_rfl) (by simp) ?_
              refine AllReadyH.cons rfl (fun K hK => ?_) (AllReadyH.nil)
              · skip
                go_simp
                refine (HSB.out W21 BD21.out).mono ?_
                rintro e W22 ⟨n3, n4, x3, e3, x4, e4, rfl, hfB, hn3, hn4, ra, rb, hb, hb2, _⟩
                have BD22 := Lib.hid hb2
                have hz22 := hb.size
                obtain ⟨loB, hloB⟩ : ∃ v, v = W21.heap.size := ⟨_, rfl⟩
                obtain ⟨hiB, hhiB⟩ : ∃ v, v = W22.heap.size := ⟨_, rfl⟩
                rw [← hloB, ← hhiB] at ra rb
                have R3 := Lib.hid ra
                have R4 := Lib.hid rb
                have HFB := Lib.hid hfB
                clear ra rb hfB
                have hlB : loB ≤ hiB := by omega
                have hhB : hiB ≤ W22.heap.size := by omega
                have hbiB : i < loB := by omega
                have hbjB : j < loB := by omega
                clear hloB hhiB
                replace R1 := Lib.hid (R1.out.below hb (by omega))
                replace R2 := Lib.hid (R2.out.below hb (by omega))
                replace Hi := Lib.hid (hb.blk Hi.out (by omega))
                replace Hj := Lib.hid (hb.blk Hj.out (by omega))
                clear hb hb2
                refine hK.out _ _ (HS.out _ BD22.out) (fun hHeld2 => ?_)
                clear hK K hHeld
                have hHeld := hHeld2
                clear hHeld2
                (try simp only [Act.put, List.setIfInBounds_toArray, List.set_cons_zero, List.set_cons_succ])
                have hij : i ≠ j := by omega
                obtain ⟨p1, p2, p3, p4⟩ := blk2 Hi.out
                obtain ⟨q1, q2, q3, q4⟩ := blk2 Hj.out
                refine wpAnyH_ready (rs := [6]) (by kernel_rfl) (by simp) ?_
                refine AllReadyH.cons rfl (fun K hK => ?_) AllReadyH.nil
                go_simp
                obtain ⟨V, hV⟩ : ∃ V, V = (W22.setCell ⟨i, 0, none⟩ (.slice x1 n1.length e1)).setCell ⟨i, 1, none⟩ (.slice x2 n2.length e2) := ⟨_, rfl⟩
                have vi := blk_set (.slice x2 n2.length e2) (i := 1) (blk_set (.slice x1 n1.length e1) (i := 0) Hi.out)
                have vj := blk_set_other (.slice x2 n2.length e2) (i := 1) (blk_set_other (.slice x1 n1.length e1) (i := 0) (k := i) Hj.out (by omega)) (k := i) (by omega)
                have vb := (BD22.out.setCell (p := ⟨i, 0, none⟩) (by omega) (.slice x1 n1.length e1)).setCell (p := ⟨i, 1, none⟩) (by omega) (.slice x2 n2.length e2)
                have vs : ((W22.setCell ⟨i, 0, none⟩ (.slice x1 n1.length e1)).setCell ⟨i, 1, none⟩ (.slice x2 n2.length e2)).heap.size = W22.heap.size := by simp
                have t1 := R1.out.agr (((Agr.refl _ _ _).set (k := i) (i := 0) (by omega) (.slice x1 n1.length e1)).set (k := i) (i := 1) (by omega) (.slice x2 n2.length e2))
                have t2 := R2.out.agr (((Agr.refl _ _ _).set (k := i) (i := 0) (by omega) (.slice x1 n1.length e1)).set (k := i) (i := 1) (by omega) (.slice x2 n2.length e2))
                have t3 := R3.out.agr (((Agr.refl _ _ _).set (k := i) (i := 0) (by omega) (.slice x1 n1.length e1)).set (k := i) (i := 1) (by omega) (.slice x2 n2.length e2))
                have t4 := R4.out.agr (((Agr.refl _ _ _).set (k := i) (i := 0) (by omega) (.slice x1 n1.length e1)).set (k := i) (i := 1) (by omega) (.slice x2 n2.length e2))
                rw [← hV] at vi vj vb vs t1 t2 t3 t4 ⊢
                have VI := Lib.hid vi
                have VJ := Lib.hid vj
                have VB := Lib.hid vb
                have T1 := Lib.hid t1
                have T2 := Lib.hid t2
                have T3 := Lib.hid t3
                have T4 := Lib.hid t4
                have VS : W22.heap.size ≤ V.heap.size := by omega
                clear hV vi vj vb vs t1 t2 t3 t4 Hi Hj R1 R2 R3 R4 p1 p2 p3 p4 q1 q2 q3 q4
                refine hK.out _ _ (HS.out _ VB.out) (fun hHeld2 => ?_)
                clear hK K hHeld
                have hHeld := hHeld2
                clear hHeld2
                (try simp only [Act.put, List.setIfInBounds_toArray, List.set_cons_zero, List.set_cons_succ])
                obtain ⟨q1, q2, q3, q4⟩ := blk2 VJ.out
                refine wpAnyH_ready (rs := [7]) (by kernel_rfl) (by simp) ?_
                refine AllReadyH.cons rfl (fun K hK => ?_) AllReadyH.nil
                go_simp
                clear q1 q2 q3 q4
                refine hK.out _ _ (HS.out _ ((VB.out.setCell (p := ⟨j, 0, none⟩) (by omega) (.slice x3 n3.length e3)).setCell (p := ⟨j, 1, none⟩) (by omega) (.slice x4 n4.length e4))) (fun hHeld2 => ?_)
                clear hK K hHeld hHeld2
                (try simp only [Act.put, List.setIfInBounds_toArray, List.set_cons_zero, List.set_cons_succ])
                refine wpAnyH_done (by kernel_rfl) ?_ _
                go_wp2_with fail
                go_meet
                case rel => exact ⟨n1, n2, n3, n4, x1, x2, x3, x4, e1, e2, e3, e4, i, j, rfl, rfl, HFA.out, HFB.out, hn1, hn2, hn3, hn4, blk_set_other _ (blk_set_other _ VI.out (by omega)) (by omega), blk_set (.slice x4 n4.length e4) (i := 1) (blk_set (.slice x3 n3.length e3) (i := 0) VJ.out),
                  (T1.out.agr (((Agr.refl _ _ _).set (by omega) _).set (by omega) _)).mono (Nat.zero_le _) (by simp; omega), (T2.out.agr (((Agr.refl _ _ _).set (by omega) _).set (by omega) _)).mono (Nat.zero_le _) (by simp; omega),
                  (T3.out.agr (((Agr.refl _ _ _).set (by omega) _).set (by omega) _)).mono (Nat.zero_le _) (by simp; omega), (T4.out.agr (((Agr.refl _ _ _).set (by omega) _).set (by omega) _)).mono (Nat.zero_le _) (by simp; omega),
                  H2.out.trans (((VB.out.setCell (p := ⟨j, 0, none⟩) (by omega) (.slice x3 n3.length e3)).setCell (p := ⟨j, 1, none⟩) (by omega) (.slice x4 n4.length e4)).mono H2.out.size)⟩
          · skip
            go_simp
            obtain ⟨j, hj⟩ : ∃ v, v = W17.heap.size := ⟨_, rfl⟩
            have hnew := blk_new (w := W17) (o := .cells #[.slice none 0 0, .slice none 0 0] 34 (0, 0)) rfl
            have hb := below_alloc W17 (.cells #[.slice none 0 0, .slice none 0 0] 34 (0, 0))
            have BD23 := Lib.hid (below_alloc' BD17.out (.cells #[.slice none 0 0, .slice none 0 0] 34 (0, 0)))
            have hzs : (W17.alloc (.cells #[.slice none 0 0, .slice none 0 0] 34 (0, 0))).heap.size = W17.heap.size + 1 := by simp
            obtain ⟨W23, hW⟩ : ∃ v, v = W17.alloc (.cells #[.slice none 0 0, .slice none 0 0] 34 (0, 0)) := ⟨_, rfl⟩
            rw [← hW] at hnew hb BD23 hzs ⊢
            rw [← hj] at hnew
            replace Hi := Lib.hid (hb.blk Hi.out (by omega))
            have Hj := Lib.hid hnew
            have hltj : j < W23.heap.size := by omega
            have hwsW23 : W17.heap.size ≤ W23.heap.size := by omega
            have hne : i < j := by omega
            have hw2j : w2.heap.size ≤ j := by have := BD17.out.size; omega
            rw [← hj]
            clear hW hnew hb hzs hj
            refine hK.out _ _ (HS.out _ BD23.out) (fun hHeld2 => ?_)
            clear hK K hHeld
            have hHeld := hHeld2
            clear hHeld2
            (try simp only [Act.put, List.setIfInBounds_toArray, List.set_cons_zero, List.set_cons_succ])
            refine wpAnyH_ready (rs := [1]) (by kernel_rfl) (by simp) ?_
            refine AllReadyH.cons rfl (fun K hK => ?_) (AllReadyH.nil)
            · skip
              go_simp
              refine (HSA.out W23 BD23.out).mono ?_
              rintro e W24 ⟨n1, n2, x1, e1, x2, e2, rfl, hfA, hn1, hn2, ra, rb, hb, hb2, _⟩
              have BD24 := Lib.hid hb2
              have hz24 := hb.size
              obtain ⟨loA, hloA⟩ : ∃ v, v = W23.heap.size := ⟨_, rfl⟩
              obtain ⟨hiA, hhiA⟩ : ∃ v, v = W24.heap.size := ⟨_, rfl⟩
              rw [← hloA, ← hhiA] at ra rb
              have R1 := Lib.hid ra
              have R2 := Lib.hid rb
              have HFA := Lib.hid hfA
              clear ra rb hfA
              have hlA : loA ≤ hiA := by omega
              have hhA : hiA ≤ W24.heap.size := by omega
              have hbiA : i < loA := by omega
              have hbjA : j < loA := by omega
              clear hloA hhiA
              replace Hi := Lib.hid (hb.blk Hi.out (by omega))
              replace Hj := Lib.hid (hb.blk Hj.out (by omega))
              clear hb hb2
              refine hK.out _ _ (HS.out _ BD24.out) (fun hHeld2 => ?_)
              clear hK K hHeld
              have hHeld := hHeld2
              clear hHeld2
              (try simp only [Act.put, List.setIfInBounds_toArray, List.set_cons_zero, List.set_cons_succ])
              refine wpAnyH_ready (rs := [3]) (by kernel_rfl) (by simp) ?_
              refine AllReadyH.cons rfl (fun K hK => ?_) (AllReadyH.nil)
              · skip
                go_simp
                refine (HSB.out W24 BD24.out).mono ?_
                rintro e W25 ⟨n3, n4, x3, e3, x4, e4, rfl, hfB, hn3, hn4, ra, rb, hb, hb2, _⟩
                have BD25 := Lib.hid hb2
                have hz25 := hb.size
                obtain ⟨loB, hloB⟩ : ∃ v, v = W24.heap.size := ⟨_, rfl⟩
                obtain ⟨hiB, hhiB⟩ : ∃ v, v = W25.heap.size := ⟨_, rfl⟩
                rw [← hloB, ← hhiB] at ra rb
                have R3 := Lib.hid ra
                have R4 := Lib.hid rb
                have HFB := Lib.hid hfB
                clear ra rb hfB
                have hlB : loB ≤ hiB := by omega
                have hhB : hiB ≤ W25.heap.size := by omega
                have hbiB : i < loB := by omega
                have hbjB : j < loB := by omega
                clear hloB hhiB
                replace R1 := Lib.hid (R1.out.below hb (by omega))
                replace R2 := Lib.hid (R2.out.below hb (by omega))
                replace Hi := Lib.hid (hb.blk Hi.out (by omega))
                replace Hj := Lib.hid (hb.blk Hj.out (by omega))
                clear hb hb2
                refine hK.out _ _ (HS.out _ BD25.out) (fun hHeld2 => ?_)
                clear hK K hHeld
                have hHeld := hHeld2
                clear hHeld2
                (try simp only [Act.put, List.setIfInBounds_toArray, List.set_cons_zero, List.set_cons_succ])
                have hij : i ≠ j := by omega
                obtain ⟨p1, p2, p3, p4⟩ := blk2 Hi.out
                obtain ⟨q1, q2, q3, q4⟩ := blk2 Hj.out
                refine wpAnyH_ready (rs := [6]) (by kernel_rfl) (by simp) ?_
                refine AllReadyH.cons rfl (fun K hK => ?_) AllReadyH.nil
                go_simp
                obtain ⟨V, hV⟩ : ∃ V, V = (W25.setCell ⟨i, 0, none⟩ (.slice x1 n1.length e1)).setCell ⟨i, 1, none⟩ (.slice x2 n2.length e2) := ⟨_, rfl⟩
                have vi := blk_set (.slice x2 n2.length e2) (i := 1) (blk_set (.slice x1 n1.length e1) (i := 0) Hi.out)
                have vj := blk_set_other (.slice x2 n2.length e2) (i := 1) (blk_set_other (.slice x1 n1.length e1) (i := 0) (k := i) Hj.out (by omega)) (k := i) (by omega)
                have vb := (BD25.out.setCell (p := ⟨i, 0, none⟩) (by omega) (.slice x1 n1.length e1)).setCell (p := ⟨i, 1, none⟩) (by omega) (.slice x2 n2.length e2)
                have vs : ((W25.setCell ⟨i, 0, none⟩ (.slice x1 n1.length e1)).setCell ⟨i, 1, none⟩ (.slice x2 n2.length e2)).heap.size = W25.heap.size := by simp
                have t1 := R1.out.agr (((Agr.refl _ _ _).set (k := i) (i := 0) (by omega) (.slice x1 n1.length e1)).set (k := i) (i := 1) (by omega) (.slice x2 n2.length e2))
                have t2 := R2.out.agr (((Agr.refl _ _ _).set (k := i) (i := 0) (by omega) (.slice x1 n1.length e1)).set (k := i) (i := 1) (by omega) (.slice x2 n2.length e2))
                have t3 := R3.out.agr (((Agr.refl _ _ _).set (k := i) (i := 0) (by omega) (.slice x1 n1.length e1)).set (k := i) (i := 1) (by omega) (.slice x2 n2.length e2))
                have t4 := R4.out.agr (((Agr.refl _ _ _).set (k := i) (i := 0) (by omega) (.slice x1 n1.length e1)).set (k := i) (i := 1) (by omega) (.slice x2 n2.length e2))
                rw [← hV] at vi vj vb vs t1 t2 t3 t4 ⊢
                have VI := Lib.hid vi
                have VJ := Lib.hid vj
                have VB := Lib.hid vb
                have T1 := Lib.hid t1
                have T2 := Lib.hid t2
                have T3 := Lib.hid t3
                have T4 := Lib.hid t4
                have VS : W25.heap.size ≤ V.heap.size := by omega
                clear hV vi vj vb vs t1 t2 t3 t4 Hi Hj R1 R2 R3 R4 p1 p2 p3 p4 q1 q2 q3 q4
                refine hK.out _ _ (HS.out _ VB.out) (fun hHeld2 => ?_)
                clear hK K hHeld
                have hHeld := hHeld2
                clear hHeld2
                (try simp only [Act.put, List.setIfInBounds_toArray, List.set_cons_zero, List.set_cons_succ])
                obtain ⟨q1, q2, q3, q4⟩ := blk2 VJ.out
                refine wpAnyH_ready (rs := [7]) (by kernel_rfl) (by simp) ?_
                refine AllReadyH.cons rfl (fun K hK => ?_) AllReadyH.nil
                go_simp
                clear q1 q2 q3 q4
                refine hK.out _ _ (HS.out _ ((VB.out.setCell (p := ⟨j, 0, none⟩) (by omega) (.slice x3 n3.length e3)).setCell (p := ⟨j, 1, none⟩) (by omega) (.slice x4 n4.length e4))) (fun hHeld2 => ?_)
                clear hK K hHeld hHeld2
                (try simp only [Act.put, List.setIfInBounds_toArray, List.set_cons_zero, List.set_cons_succ])
                refine wpAnyH_done (by kernel_rfl) ?_ _
                go_wp2_with fail
                go_meet
                case rel => exact ⟨n1, n2, n3, n4, x1, x2, x3, x4, e1, e2, e3, e4, i, j, rfl, rfl, HFA.out, HFB.out, hn1, hn2, hn3, hn4, blk_set_other _ (blk_set_other _ VI.out (by omega)) (by omega), blk_set (.slice x4 n4.length e4) (i := 1) (blk_set (.slice x3 n3.length e3) (i := 0) VJ.out),
                  (T1.out.agr (((Agr.refl _ _ _).set (by omega) _).set (by omega) _)).mono (Nat.zero_le _) (by simp; omega), (T2.out.agr (((Agr.refl _ _ _).set (by omega) _).set (by omega) _)).mono (Nat.zero_le _) (by simp; omega),
                  (T3.out.agr (((Agr.refl _ _ _).set (by omega) _).set (by omega) _)).mono (Nat.zero_le _) (by simp; omega), (T4.out.agr (((Agr.refl _ _ _).set (by omega) _).set (by omega) _)).mono (Nat.zero_le _) (by simp; omega),
                  H2.out.trans (((VB.out.setCell (p := ⟨j, 0, none⟩) (by omega) (.slice x3 n3.length e3)).setCell (p := ⟨j, 1, none⟩) (by omega) (.slice x4 n4.length e4)).mono H2.out.size)⟩
        · skip
          go_simp
          obtain ⟨j, hj⟩ : ∃ v, v = W0.heap.size := ⟨_, rfl⟩
          have hnew := blk_new (w := W0) (o := .cells #[.slice none 0 0, .slice none 0 0] 34 (0, 0)) rfl
          have hb := below_alloc W0 (.cells #[.slice none 0 0, .slice none 0 0] 34 (0, 0))
          have BD26 := Lib.hid (below_alloc' BD0.out (.cells #[.slice none 0 0, .slice none 0 0] 34 (0, 0)))
          have hzs : (W0.alloc (.cells #[.slice none 0 0, .slice none 0 0] 34 (0, 0))).heap.size = W0.heap.size + 1 := by simp
          obtain ⟨W26, hW⟩ : ∃ v, v = W0.alloc (.cells #[.slice none 0 0, .slice none 0 0] 34 (0, 0)) := ⟨_, rfl⟩
          rw [← hW] at hnew hb BD26 hzs ⊢
          rw [← hj] at hnew
          have Hj := Lib.hid hnew
          have hltj : j < W26.heap.size := by omega
          have hwsW26 : W0.heap.size ≤ W26.heap.size := by omega
          have hw2j : w2.heap.size ≤ j := by have := BD0.out.size; omega
          rw [← hj]
          clear hW hnew hb hzs hj
          refine hK.out _ _ (HS.out _ BD26.out) (fun hHeld2 => ?_)
          clear hK K hHeld
          have hHeld := hHeld2
          clear hHeld2
          (try simp only [Act.put, List.setIfInBounds_toArray, List.set_cons_zero, List.set_cons_succ])
          refine wpAnyH_ready (rs := [1, 4]) (by kernel_rfl) (by simp) ?_
          refine AllReadyH.cons rfl (fun K hK => ?_) (AllReadyH.cons rfl (fun K hK => ?_) (AllReadyH.nil))
          · skip
            go_simp
            refine (HSA.out W26 BD26.out).mono ?_
            rintro e W27 ⟨n1, n2, x1, e1, x2, e2, rfl, hfA, hn1, hn2, ra, rb, hb, hb2, _⟩
            have BD27 := Lib.hid hb2
            have hz27 := hb.size
            obtain ⟨loA, hloA⟩ : ∃ v, v = W26.heap.size := ⟨_, rfl⟩
            obtain ⟨hiA, hhiA⟩ : ∃ v, v = W27.heap.size := ⟨_, rfl⟩
            rw [← hloA, ← hhiA] at ra rb
            have R1 := Lib.hid ra
            have R2 := Lib.hid rb
            have HFA := Lib.hid hfA
            clear ra rb hfA
            have hlA : loA ≤ hiA := by omega
            have hhA : hiA ≤ W27.heap.size := by omega
            have hbjA : j < loA := by omega
            clear hloA hhiA
            replace Hj := Lib.hid (hb.blk Hj.out (by omega))
            clear hb hb2
            refine hK.out _ _ (HS.out _ BD27.out) (fun hHeld2 => ?_)
            clear hK K hHeld
            have hHeld := hHeld2
            clear hHeld2
            (try simp only [Act.put, List.setIfInBounds_toArray, List.set_cons_zero, List.set_cons_succ])
            refine wpAnyH_ready (rs := [3, 4]) (by kernel_rfl) (by simp) ?_
            refine AllReadyH.cons rfl (fun K hK => ?_) (AllReadyH.cons rfl (fun K hK => ?_) (AllReadyH.nil))
            · skip
              go_simp
              refine (HSB.out W27 BD27.out).mono ?_
              rintro e W28 ⟨n3, n4, x3, e3, x4, e4, rfl, hfB, hn3, hn4, ra, rb, hb, hb2, _⟩
              have BD28 := Lib.hid hb2
              have hz28 := hb.size
              obtain ⟨loB, hloB⟩ : ∃ v, v = W27.heap.size := ⟨_, rfl⟩
              obtain ⟨hiB, hhiB⟩ : ∃ v, v = W28.heap.size := ⟨_, rfl⟩
              rw [← hloB, ← hhiB] at ra rb
              have R3 := Lib.hid ra
              have R4 := Lib.hid rb
              have HFB := Lib.hid hfB
              clear ra rb hfB
              have hlB : loB ≤ hiB := by omega
              have hhB : hiB ≤ W28.heap.size := by omega
              have hbjB : j < loB := by omega
              clear hloB hhiB
              replace R1 := Lib.hid (R1.out.below hb (by omega))
              replace R2 := Lib.hid (R2.out.below hb (by omega))
              replace Hj := Lib.hid (hb.blk Hj.out (by omega))
              clear hb hb2
              refine hK.out _ _ (HS.out _ BD28.out) (fun hHeld2 => ?_)
              clear hK K hHeld
              have hHeld := hHeld2
              clear hHeld2
              (try simp only [Act.put, List.setIfInBounds_toArray, List.set_cons_zero, List.set_cons_succ])
              refine wpAnyH_ready (rs := [4]) (by kernel_rfl) (by simp) ?_
              refine AllReadyH.cons rfl (fun K hK => ?_) (AllReadyH.nil)
              · skip
                go_simp
                obtain ⟨i, hi⟩ : ∃ v, v = W28.heap.size := ⟨_, rfl⟩
                have hnew := blk_new (w := W28) (o := .cells #[.slice none 0 0, .slice none 0 0] 34 (0, 0)) rfl
                have hb := below_alloc W28 (.cells #[.slice none 0 0, .slice none 0 0] 34 (0, 0))
                have BD29 := Lib.hid (below_alloc' BD28.out (.cells #[.slice none 0 0, .slice none 0 0] 34 (0, 0)))
                have hzs : (W28.alloc (.cells #[.slice none 0 0, .slice none 0 0] 34 (0, 0))).heap.size = W28.heap.size + 1 := by simp
                obtain ⟨W29, hW⟩ : ∃ v, v = W28.alloc (.cells #[.slice none 0 0, .slice none 0 0] 34 (0, 0)) := ⟨_, rfl⟩
                rw [← hW] at hnew hb BD29 hzs ⊢
                rw [← hi] at hnew
                replace R1 := Lib.hid (R1.out.below hb (by omega))
                replace R2 := Lib.hid (R2.out.below hb (by omega))
                replace R3 := Lib.hid (R3.out.below hb (by omega))
                replace R4 := Lib.hid (R4.out.below hb (by omega))
                replace Hj := Lib.hid (hb.blk Hj.out (by omega))
                have Hi := Lib.hid hnew
                have hlti : i < W29.heap.size := by omega
                have hwsW29 : W28.heap.size ≤ W29.heap.size := by omega
                have hbiA : hiA ≤ i := by omega
                have hbiB : hiB ≤ i := by omega
                have hne : j < i := by omega
                have hw2i : w2.heap.size ≤ i := by have := BD28.out.size; omega
                rw [← hi]
                clear hW hnew hb hzs hi
                refine hK.out _ _ (HS.out _ BD29.out) (fun hHeld2 => ?_)
                clear hK K hHeld
                have hHeld := hHeld2
                clear hHeld2
                (try simp only [Act.put, List.setIfInBounds_toArray, List.set_cons_zero, List.set_cons_succ])
                have hij : i ≠ j := by omega
                obtain ⟨p1, p2, p3, p4⟩ := blk2 Hi.out
                obtain ⟨q1, q2, q3, q4⟩ := blk2 Hj.out
                refine wpAnyH_ready (rs := [6]) (by kernel_rfl) (by simp) ?_
                refine AllReadyH.cons rfl (fun K hK => ?_) AllReadyH.nil
                go_simp
                obtain ⟨V, hV⟩ : ∃ V, V = (W29.setCell ⟨i, 0, none⟩ (.slice x1 n1.length e1)).setCell ⟨i, 1, none⟩ (.slice x2 n2.length e2) := ⟨_, rfl⟩
                have vi := blk_set (.slice x2 n2.length e2) (i := 1) (blk_set (.slice x1 n1.length e1) (i := 0) Hi.out)
                have vj := blk_set_other (.slice x2 n2.length e2) (i := 1) (blk_set_other (.slice x1 n1.length e1) (i := 0) (k := i) Hj.out (by omega)) (k := i) (by omega)
                have vb := (BD29.out.setCell (p := ⟨i, 0, none⟩) (by omega) (.slice x1 n1.length e1)).setCell (p := ⟨i, 1, none⟩) (by omega) (.slice x2 n2.length e2)
                have vs : ((W29.setCell ⟨i, 0, none⟩ (.slice x1 n1.length e1)).setCell ⟨i, 1, none⟩ (.slice x2 n2.length e2)).heap.size = W29.heap.size := by simp
                have t1 := R1.out.agr (((Agr.refl _ _ _).set (k := i) (i := 0) (by omega) (.slice x1 n1.length e1)).set (k := i) (i := 1) (by omega) (.slice x2 n2.length e2))
                have t2 := R2.out.agr (((Agr.refl _ _ _).set (k := i) (i := 0) (by omega) (.slice x1 n1.length e1)).set (k := i) (i := 1) (by omega) (.slice x2 n2.length e2))
                have t3 := R3.out.agr (((Agr.refl _ _ _).set (k := i) (i := 0) (by omega) (.slice x1 n1.length e1)).set (k := i) (i := 1) (by omega) (.slice x2 n2.length e2))
                have t4 := R4.out.agr (((Agr.refl _ _ _).set (k := i) (i := 0) (by omega) (.slice x1 n1.length e1)).set (k := i) (i := 1) (by omega) (.slice x2 n2.length e2))
                rw [← hV] at vi vj vb vs t1 t2 t3 t4 ⊢
                have VI := Lib.hid vi
                have VJ := Lib.hid vj
                have VB := Lib.hid vb
                have T1 := Lib.hid t1
                have T2 := Lib.hid t2
                have T3 := Lib.hid t3
                have T4 := Lib.hid t4
                have VS : W29.heap.size ≤ V.heap.size := by omega
                clear hV vi vj vb vs t1 t2 t3 t4 Hi Hj R1 R2 R3 R4 p1 p2 p3 p4 q1 q2 q3 q4
                refine hK.out _ _ (HS.out _ VB.out) (fun hHeld2 => ?_)
                clear hK K hHeld
                have hHeld := hHeld2
                clear hHeld2
                (try simp only [Act.put, List.setIfInBounds_toArray, List.set_cons_zero, List.set_cons_succ])
                obtain ⟨q1, q2, q3, q4⟩ := blk2 VJ.out
                refine wpAnyH_ready (rs := [7]) (by kernel_rfl) (by simp) ?_
                refine AllReadyH.cons rfl (fun K hK => ?_) AllReadyH.nil
                go_simp
                clear q1 q2 q3 q4
                refine hK.out _ _ (HS.out _ ((VB.out.setCell (p := ⟨j, 0, none⟩) (by omega) (.slice x3 n3.length e3)).setCell (p := ⟨j, 1, none⟩) (by omega) (.slice x4 n4.length e4))) (fun hHeld2 => ?_)
                clear hK K hHeld hHeld2
                (try simp only [Act.put, List.setIfInBounds_toArray, List.set_cons_zero, List.set_cons_succ])
                refine wpAnyH_done (by kernel_rfl) ?_ _
                go_wp2_with fail
                go_meet
                case rel => exact ⟨n1, n2, n3, n4, x1, x2, x3, x4, e1, e2, e3, e4, i, j, rfl, rfl, HFA.out, HFB.out, hn1, hn2, hn3, hn4, blk_set_other _ (blk_set_other _ VI.out (by omega)) (by omega), blk_set (.slice x4 n4.length e4) (i := 1) (blk_set (.slice x3 n3.length e3) (i := 0) VJ.out),
                  (T1.out.agr (((Agr.refl _ _ _).set (by omega) _).set (by omega) _)).mono (Nat.zero_le _) (by simp; omega), (T2.out.agr (((Agr.refl _ _ _).set (by omega) _).set (by omega) _)).mono (Nat.zero_le _) (by simp; omega),
                  (T3.out.agr (((Agr.refl _ _ _).set (by omega) _).set (by omega) _)).mono (Nat.zero_le _) (by simp; omega), (T4.out.agr (((Agr.refl _ _ _).set (by omega) _).set (by omega) _)).mono (Nat.zero_le _) (by simp; omega),
                  H2.out.trans (((VB.out.setCell (p := ⟨j, 0, none⟩) (by omega) (.slice x3 n3.length e3)).setCell (p := ⟨j, 1, none⟩) (by omega) (.slice x4 n4.length e4)).mono H2.out.size)⟩
            · skip
              go_simp
              obtain ⟨i, hi⟩ : ∃ v, v = W27.heap.size := ⟨_, rfl⟩
              have hnew := blk_new (w := W27) (o := .cells #[.slice none 0 0, .slice none 0 0] 34 (0, 0)) rfl
              have hb := below_alloc W27 (.cells #[.slice none 0 0, .slice none 0 0] 34 (0, 0))
              have BD30 := Lib.hid (below_alloc' BD27.out (.cells #[.slice none 0 0, .slice none 0 0] 34 (0, 0)))
              have hzs : (W27.alloc (.cells #[.slice none 0 0, .slice none 0 0] 34 (0, 0))).heap.size = W27.heap.size + 1 := by simp
              obtain ⟨W30, hW⟩ : ∃ v, v = W27.alloc (.cells #[.slice none 0 0, .slice none 0 0] 34 (0, 0)) := ⟨_, rfl⟩
              rw [← hW] at hnew hb BD30 hzs ⊢
              rw [← hi] at hnew
              replace R1 := Lib.hid (R1.out.below hb (by omega))
              replace R2 := Lib.hid (R2.out.below hb (by omega))
              replace Hj := Lib.hid (hb.blk Hj.out (by omega))
              have Hi := Lib.hid hnew
              have hlti : i < W30.heap.size := by omega
              have hwsW30 : W27.heap.size ≤ W30.heap.size := by omega
              have hbiA : hiA ≤ i := by omega
              have hne : j < i := by omega
              have hw2i : w2.heap.size ≤ i := by have := BD27.out.size; omega
              rw [← hi]
              clear hW hnew hb hzs hi
              refine hK.out _ _ (HS.out _ BD30.out) (fun hHeld2 => ?_)
              clear hK K hHeld
              have hHeld := hHeld2
              clear hHeld2
              (try simp only [Act.put, List.setIfInBounds_toArray, List.set_cons_zero, List.set_cons_succ])
              refine wpAnyH_ready (rs := [3]) (by kernel_rfl) (by simp) ?_
              refine AllReadyH.cons rfl (fun K hK => ?_) (AllReadyH.nil)
              · skip
                go_simp
                refine (HSB.out W30 BD30.out).mono ?_
                rintro e W31 ⟨n3, n4, x3, e3, x4, e4, rfl, hfB, hn3, hn4, ra, rb, hb, hb2, _⟩
                have BD31 := Lib.hid hb2
                have hz31 := hb.size
                obtain ⟨loB, hloB⟩ : ∃ v, v = W30.heap.size := ⟨_, rfl⟩
                obtain ⟨hiB, hhiB⟩ : ∃ v, v = W31.heap.size := ⟨_, rfl⟩
                rw [← hloB, ← hhiB] at ra rb
                have R3 := Lib.hid ra
                have R4 := Lib.hid rb
                have HFB := Lib.hid hfB
                clear ra rb hfB
                have hlB : loB ≤ hiB := by omega
                have hhB : hiB ≤ W31.heap.size := by omega
                have hbiB : i < loB := by omega
                have hbjB : j < loB := by omega
                clear hloB hhiB
                replace R1 := Lib.hid (R1.out.below hb (by omega))
                replace R2 := Lib.hid (R2.out.below hb (by omega))
                replace Hi := Lib.hid (hb.blk Hi.out (by omega))
                replace Hj := Lib.hid (hb.blk Hj.out (by omega))
                clear hb hb2
                refine hK.out _ _ (HS.out _ BD31.out) (fun hHeld2 => ?_)
                clear hK K hHeld
                have hHeld := hHeld2
                clear hHeld2
                (try simp only [Act.put, List.setIfInBounds_toArray, List.set_cons_zero, List.set_cons_succ])
                have hij : i ≠ j := by omega
                obtain ⟨p1, p2, p3, p4⟩ := blk2 Hi.out
                obtain ⟨q1, q2, q3, q4⟩ := blk2 Hj.out
                refine wpAnyH_ready (rs := [6]) (by kernel_rfl) (by simp) ?_
                refine AllReadyH.cons rfl (fun K hK => ?_) AllReadyH.nil
                go_simp
                obtain ⟨V, hV⟩ : ∃ V, V = (W31.setCell ⟨i, 0, none⟩ (.slice x1 n1.length e1)).setCell ⟨i, 1, none⟩ (.slice x2 n2.length e2) := ⟨_, rfl⟩
                have vi := blk_set (.slice x2 n2.length e2) (i := 1) (blk_set (.slice x1 n1.length e1) (i := 0) Hi.out)
                have vj := blk_set_other (.slice x2 n2.length e2) (i := 1) (blk_set_other (.slice x1 n1.length e1) (i := 0) (k := i) Hj.out (by omega)) (k := i) (by omega)
                have vb := (BD31.out.setCell (p := ⟨i, 0, none⟩) (by omega) (.slice x1 n1.length e1)).setCell (p := ⟨i, 1, none⟩) (by omega) (.slice x2 n2.length e2)
                have vs : ((W31.setCell ⟨i, 0, none⟩ (.slice x1 n1.length e1)).setCell ⟨i, 1, none⟩ (.slice x2 n2.length e2)).heap.size = W31.heap.size := by simp
                have t1 := R1.out.agr (((Agr.refl _ _ _).set (k := i) (i := 0) (by omega) (.slice x1 n1.length e1)).set (k := i) (i := 1) (by omega) (.slice x2 n2.length e2))
                have t2 := R2.out.agr (((Agr.refl _ _ _).set (k := i) (i := 0) (by omega) (.slice x1 n1.length e1)).set (k := i) (i := 1) (by omega) (.slice x2 n2.length e2))
                have t3 := R3.out.agr (((Agr.refl _ _ _).set (k := i) (i := 0) (by omega) (.slice x1 n1.length e1)).set (k := i) (i := 1) (by omega) (.slice x2 n2.length e2))
                have t4 := R4.out.agr (((Agr.refl _ _ _).set (k := i) (i := 0) (by omega) (.slice x1 n1.length e1)).set (k := i) (i := 1) (by omega) (.slice x2 n2.length e2))
                rw [← hV] at vi vj vb vs t1 t2 t3 t4 ⊢
                have VI := Lib.hid vi
                have VJ := Lib.hid vj
                have VB := Lib.hid vb
                have T1 := Lib.hid t1
                have T2 := Lib.hid t2
                have T3 := Lib.hid t3
                have T4 := Lib.hid t4
                have VS : W31.heap.size ≤ V.heap.size := by omega
                clear hV vi vj vb vs t1 t2 t3 t4 Hi Hj R1 R2 R3 R4 p1 p2 p3 p4 q1 q2 q3 q4
                refine hK.out _ _ (HS.out _ VB.out) (fun hHeld2 => ?_)
                clear hK K hHeld
                have hHeld := hHeld2
                clear hHeld2
                (try simp only [Act.put, List.setIfInBounds_toArray, List.set_cons_zero, List.set_cons_succ])
                obtain ⟨q1, q2, q3, q4⟩ := blk2 VJ.out
                refine wpAnyH_ready (rs := [7]) (by kernel_rfl) (by simp) ?_
                refine AllReadyH.cons rfl (fun K hK => ?_) AllReadyH.nil
                go_simp
                clear q1 q2 q3 q4
                refine hK.out _ _ (HS.out _ ((VB.out.setCell (p := ⟨j, 0, none⟩) (by omega) (.slice x3 n3.length e3)).setCell (p := ⟨j, 1, none⟩) (by omega) (.slice x4 n4.length e4))) (fun hHeld2 => ?_)
                clear hK K hHeld hHeld2
                (try simp only [Act.put, List.setIfInBounds_toArray, List.set_cons_zero, List.set_cons_succ])
                refine wpAnyH_done (by kernel_rfl) ?_ _
                go_wp2_with fail
                go_meet
                case rel => exact ⟨n1, n2, n3, n4, x1, x2, x3, x4, e1, e2, e3, e4, i, j, rfl, rfl, HFA.out, HFB.out, hn1, hn2, hn3, hn4, blk_set_other _ (blk_set_other _ VI.out (by omega)) (by omega), blk_set (.slice x4 n4.length e4) (i := 1) (blk_set (.slice x3 n3.length e3) (i := 0) VJ.out),
                  (T1.out.agr (((Agr.refl _ _ _).set (by omega) _).set (by omega) _)).mono (Nat.zero_le _) (by simp; omega), (T2.out.agr (((Agr.refl _ _ _).set (by omega) _).set (by omega) _)).mono (Nat.zero_le _) (by simp; omega),
                  (T3.out.agr (((Agr.refl _ _ _).set (by omega) _).set (by omega) _)).mono (Nat.zero_le _) (by simp; omega), (T4.out.agr (((Agr.refl _ _ _).set (by omega) _).set (by omega) _)).mono (Nat.zero_le _) (by simp; omega),
                  H2.out.trans (((VB.out.setCell (p := ⟨j, 0, none⟩) (by omega) (.slice x3 n3.length e3)).setCell (p := ⟨j, 1, none⟩) (by omega) (.slice x4 n4.length e4)).mono H2.out.size)⟩
          · skip
            go_simp
            obtain ⟨i, hi⟩ : ∃ v, v = W26.heap.size := ⟨_, rfl⟩
            have hnew := blk_new (w := W26) (o := .cells #[.slice none 0 0, .slice none 0 0] 34 (0, 0)) rfl
            have hb := below_alloc W26 (.cells #[.slice none 0 0, .slice none 0 0] 34 (0, 0))
            have BD32 := Lib.hid (below_alloc' BD26.out (.cells #[.slice none 0 0, .slice none 0 0] 34 (0, 0)))
            have hzs : (W26.alloc (.cells #[.slice none 0 0, .slice none 0 0] 34 (0, 0))).heap.size = W26.heap.size + 1 := by simp
            obtain ⟨W32, hW⟩ : ∃ v, v = W26.alloc (.cells #[.slice none 0 0, .slice none 0 0] 34 (0, 0)) := ⟨_, rfl⟩
            rw [← hW] at hnew hb BD32 hzs ⊢
            rw [← hi] at hnew
            replace Hj := Lib.hid (hb.blk Hj.out (by omega))
            have Hi := Lib.hid hnew
            have hlti : i < W32.heap.size := by omega
            have hwsW32 : W26.heap.size ≤ W32.heap.size := by omega
            have hne : j < i := by omega
            have hw2i : w2.heap.size ≤ i := by have := BD26.out.size; omega
            rw [← hi]
            clear hW hnew hb hzs hi
            refine hK.out _ _ (HS.out _ BD32.out) (fun hHeld2 => ?_)
            clear hK K hHeld
            have hHeld := hHeld2
            clear hHeld2
            (try simp only [Act.put, List.setIfInBounds_toArray, List.set_cons_zero, List.set_cons_succ])
            refine wpAnyH_ready (rs := [1]) (by kernel_rfl) (by simp) ?_
            refine AllReadyH.cons rfl (fun K hK => ?_) (AllReadyH.nil)
            · skip
              go_simp
              refine (HSA.out W32 BD32.out).mono ?_
              rintro e W33 ⟨n1, n2, x1, e1, x2, e2, rfl, hfA, hn1, hn2, ra, rb, hb, hb2, _⟩
              have BD33 := Lib.hid hb2
              have hz33 := hb.size
              obtain ⟨loA, hloA⟩ : ∃ v, v = W32.heap.size := ⟨_, rfl⟩
              obtain ⟨hiA, hhiA⟩ : ∃ v, v = W33.heap.size := ⟨_, rfl⟩
              rw [← hloA, ← hhiA] at ra rb
              have R1 := Lib.hid ra
              have R2 := Lib.hid rb
              have HFA := Lib.hid hfA
              clear ra rb hfA
              have hlA : loA ≤ hiA := by omega
              have hhA : hiA ≤ W33.heap.size := by omega
              have hbiA : i < loA := by omega
              have hbjA : j < loA := by omega
              clear hloA hhiA
              replace Hi := Lib.hid (hb.blk Hi.out (by omega))
              replace Hj := Lib.hid (hb.blk Hj.out (by omega))
              clear hb hb2
              refine hK.out _ _ (HS.out _ BD33.out) (fun hHeld2 => ?_)
              clear hK K hHeld
              have hHeld := hHeld2
              clear hHeld2
              (try simp only [Act.put, List.setIfInBounds_toArray, List.set_cons_zero, List.set_cons_succ])
              refine wpAnyH_ready (rs := [3]) (by kernel_rfl) (by simp) ?_
              refine AllReadyH.cons rfl (fun K hK => ?_) (AllReadyH.nil)
              · skip
                go_simp
                refine (HSB.out W33 BD33.out).mono ?_
                rintro e W34 ⟨n3, n4, x3, e3, x4, e4, rfl, hfB, hn3, hn4, ra, rb, hb, hb2, _⟩
                have BD34 := Lib.hid hb2
                have hz34 := hb.size
                obtain ⟨loB, hloB⟩ : ∃ v, v = W33.heap.size := ⟨_, rfl⟩
                obtain ⟨hiB, hhiB⟩ : ∃ v, v = W34.heap.size := ⟨_, rfl⟩
                rw [← hloB, ← hhiB] at ra rb
                have R3 := Lib.hid ra
                have R4 := Lib.hid rb
                have HFB := Lib.hid hfB
                clear ra rb hfB
                have hlB : loB ≤ hiB := by omega
                have hhB : hiB ≤ W34.heap.size := by omega
                have hbiB : i < loB := by omega
                have hbjB : j < loB := by omega
                clear hloB hhiB
                replace R1 := Lib.hid (R1.out.below hb (by omega))
                replace R2 := Lib.hid (R2.out.below hb (by omega))
                replace Hi := Lib.hid (hb.blk Hi.out (by omega))
                replace Hj := Lib.hid (hb.blk Hj.out (by omega))
                clear hb hb2
                refine hK.out _ _ (HS.out _ BD34.out) (fun hHeld2 => ?_)
                clear hK K hHeld
                have hHeld := hHeld2
                clear hHeld2
                (try simp only [Act.put, List.setIfInBounds_toArray, List.set_cons_zero, List.set_cons_succ])
                have hij : i ≠ j := by omega
                obtain ⟨p1, p2, p3, p4⟩ := blk2 Hi.out
                obtain ⟨q1, q2, q3, q4⟩ := blk2 Hj.out
                refine wpAnyH_ready (rs := [6]) (by kernel_rfl) (by simp) ?_
                refine AllReadyH.cons rfl (fun K hK => ?_) AllReadyH.nil
                go_simp
                obtain ⟨V, hV⟩ : ∃ V, V = (W34.setCell ⟨i, 0, none⟩ (.slice x1 n1.length e1)).setCell ⟨i, 1, none⟩ (.slice x2 n2.length e2) := ⟨_, rfl⟩
                have vi := blk_set (.slice x2 n2.length e2) (i := 1) (blk_set (.slice x1 n1.length e1) (i := 0) Hi.out)
                have vj := blk_set_other (.slice x2 n2.length e2) (i := 1) (blk_set_other (.slice x1 n1.length e1) (i := 0) (k := i) Hj.out (by omega)) (k := i) (by omega)
                have vb := (BD34.out.setCell (p := ⟨i, 0, none⟩) (by omega) (.slice x1 n1.length e1)).setCell (p := ⟨i, 1, none⟩) (by omega) (.slice x2 n2.length e2)
                have vs : ((W34.setCell ⟨i, 0, none⟩ (.slice x1 n1.length e1)).setCell ⟨i, 1, none⟩ (.slice x2 n2.length e2)).heap.size = W34.heap.size := by simp
                have t1 := R1.out.agr (((Agr.refl _ _ _).set (k := i) (i := 0) (by omega) (.slice x1 n1.length e1)).set (k := i) (i := 1) (by omega) (.slice x2 n2.length e2))
                have t2 := R2.out.agr (((Agr.refl _ _ _).set (k := i) (i := 0) (by omega) (.slice x1 n1.length e1)).set (k := i) (i := 1) (by omega) (.slice x2 n2.length e2))
                have t3 := R3.out.agr (((Agr.refl _ _ _).set (k := i) (i := 0) (by omega) (.slice x1 n1.length e1)).set (k := i) (i := 1) (by omega) (.slice x2 n2.length e2))
                have t4 := R4.out.agr (((Agr.refl _ _ _).set (k := i) (i := 0) (by omega) (.slice x1 n1.length e1)).set (k := i) (i := 1) (by omega) (.slice x2 n2.length e2))
                rw [← hV] at vi vj vb vs t1 t2 t3 t4 ⊢
                have VI := Lib.hid vi
                have VJ := Lib.hid vj
                have VB := Lib.hid vb
                have T1 := Lib.hid t1
                have T2 := Lib.hid t2
                have T3 := Lib.hid t3
                have T4 := Lib.hid t4
                have VS : W34.heap.size ≤ V.heap.size := by omega
                clear hV vi vj vb vs t1 t2 t3 t4 Hi Hj R1 R2 R3 R4 p1 p2 p3 p4 q1 q2 q3 q4
                refine hK.out _ _ (HS.out _ VB.out) (fun hHeld2 => ?_)
                clear hK K hHeld
                have hHeld := hHeld2
                clear hHeld2
                (try simp only [Act.put, List.setIfInBounds_toArray, List.set_cons_zero, List.set_cons_succ])
                obtain ⟨q1, q2, q3, q4⟩ := blk2 VJ.out
                refine wpAnyH_ready (rs := [7]) (by kernel_rfl) (by simp) ?_
                refine AllReadyH.cons rfl (fun K hK => ?_) AllReadyH.nil
                go_simp
                clear q1 q2 q3 q4
                refine hK.out _ _ (HS.out _ ((VB.out.setCell (p := ⟨j, 0, none⟩) (by omega) (.slice x3 n3.length e3)).setCell (p := ⟨j, 1, none⟩) (by omega) (.slice x4 n4.length e4))) (fun hHeld2 => ?_)
                clear hK K hHeld hHeld2
                (try simp only [Act.put, List.setIfInBounds_toArray, List.set_cons_zero, List.set_cons_succ])
                refine wpAnyH_done (by kernel_rfl) ?_ _
                go_wp2_with fail
                go_meet
                case rel => exact ⟨n1, n2, n3, n4, x1, x2, x3, x4, e1, e2, e3, e4, i, j, rfl, rfl, HFA.out, HFB.out, hn1, hn2, hn3, hn4, blk_set_other _ (blk_set_other _ VI.out (by omega)) (by omega), blk_set (.slice x4 n4.length e4) (i := 1) (blk_set (.slice x3 n3.length e3) (i := 0) VJ.out),
                  (T1.out.agr (((Agr.refl _ _ _).set (by omega) _).set (by omega) _)).mono (Nat.zero_le _) (by simp; omega), (T2.out.agr (((Agr.refl _ _ _).set (by omega) _).set (by omega) _)).mono (Nat.zero_le _) (by simp; omega),
                  (T3.out.agr (((Agr.refl _ _ _).set (by omega) _).set (by omega) _)).mono (Nat.zero_le _) (by simp; omega), (T4.out.agr (((Agr.refl _ _ _).set (by omega) _).set (by omega) _)).mono (Nat.zero_le _) (by simp; omega),
                  H2.out.trans (((VB.out.setCell (p := ⟨j, 0, none⟩) (by omega) (.slice x3 n3.length e3)).setCell (p := ⟨j, 1, none⟩) (by omega) (.slice x4 n4.length e4)).mono H2.out.size)⟩
      case rest =>
        obtain ⟨n1, n2, n3, n4, x1, x2, x3, x4, e1, e2, e3, e4, i, j, rfl, rfl, hf1, hf2, hn1, hn2, hn3, hn4, y1, y2, r1, r2, r3, r4, hb⟩ := hcut
        have SE := Lib.hid (short_eq HX.out HY.out hf1 hf2)
        have HBW := Lib.hid hb
        have hil := lt_of_block y1
        have hjl := lt_of_block y2
        obtain ⟨p1, p2, p3, p4⟩ := blk2 y1
        obtain ⟨q1, q2, q3, q4⟩ := blk2 y2
        have hE := slicesEqual_any x1 x3 e1 e3 n1 n3 wc _ _ _ _ r1 r3 (by unfold maxLen; omega)
        have hE2 := fun k => slicesEqual_any x2 x4 e2 e4 n2 n4 (wc.drewN k) _ _ _ _ (r2.agr ((Qt.refl wc).n k).agr) (r4.agr ((Qt.refl wc).n k).agr) (by unfold maxLen; omega)
        clear r1 r2 r3 r4 hf1 hf2 hb y1 y2 HSA HSB Y1 Y2
        by_cases g1 : n1 = n3
        · have G1 := Lib.hid g1
          rw [decide_eq_true g1] at hE
          have E1 := Lib.hid hE
          clear hE g1
          by_cases g2 : n2 = n4
          · have G2 := Lib.hid g2
            rw [decide_eq_true g2] at hE2
            have E2 := Lib.hid hE2
            clear hE2 g2
            go_wp2_with fail
            refine E1.out.mono ?_
            rintro e w5 ⟨rfl, hq⟩
            obtain ⟨nq, hw5⟩ : ∃ n, w5 = wc.drewN n := hq
            subst hw5
            go_wp2_with fail
            refine (E2.out nq).mono ?_
            rintro e w6 ⟨rfl, hq⟩
            obtain ⟨nr, hw6⟩ := hq
            subst hw6
            go_wp2_with fail
            go_ret
            exact ⟨true, rfl, ⟨fun _ => SE.out.1 ⟨G1.out, G2.out⟩, fun _ => rfl⟩, below_drewN HBW.out _⟩
          · have G2 := Lib.hid g2
            rw [decide_eq_false g2] at hE2
            have E2 := Lib.hid hE2
            clear hE2 g2
            go_wp2_with fail
            refine E1.out.mono ?_
            rintro e w5 ⟨rfl, hq⟩
            obtain ⟨nq, hw5⟩ : ∃ n, w5 = wc.drewN n := hq
            subst hw5
            go_wp2_with fail
            refine (E2.out nq).mono ?_
            rintro e w6 ⟨rfl, hq⟩
            obtain ⟨nr, hw6⟩ := hq
            subst hw6
            go_wp2_with fail
            go_ret
            exact ⟨false, rfl, ⟨(fun h => by cases h), (fun h => (G2.out (SE.out.2 h).2).elim)⟩, below_drewN HBW.out _⟩
        · have G1 := Lib.hid g1
          rw [decide_eq_false g1] at hE
          have E1 := Lib.hid hE
          clear hE hE2 g1
          go_wp2_with fail
          refine E1.out.mono ?_
          rintro e w5 ⟨rfl, hq⟩
          obtain ⟨nq, hw5⟩ : ∃ n, w5 = wc.drewN n := hq
          subst hw5
          go_wp2_with fail
          go_ret
          exact ⟨false, rfl, ⟨(fun h => by cases h), (fun h => (G1.out (SE.out.2 h).1).elim)⟩, below_drewN HBW.out _⟩
end Go.Proofs.Ytgfoolneophkcaa
