/- impl.TogetherOf and impl.WithoutSet, walked. -/
import Derived.Test.YtfjodcfbhpglhaaGreatDoorM27
import Derived.Test.YtfjodcfbhpglhaaGreatDoorM28
import Derived.Test.YtfjodcfbhpglhaaGreatDoorM26
namespace Go.Proofs.YtfjodcfbhpglhaaGreatDoor
open Go.RowKit Go.Hyp Go.Deep

set_option maxRecDepth 4000 in
set_option maxHeartbeats 1600000 in
theorem implTogetherOf_any (a : Option Addr) (cap : Nat) (p : List (List Int)) (n : Int) (a' : Option Addr) (cap' : Nat) (q : List (List Int)) (m : Int) (w : World) (B C B' C' : Nat) (h : RdII w B C a p) (hC : C ≤ w.heap.size) (hl : p.length ≤ maxLen) (h' : RdII w B' C' a' q) (hC' : C' ≤ w.heap.size) (hl' : q.length ≤ maxLen) :
    Calls Tryz.prog 31 #[.slice a p.length cap, .int .i64 n, .slice a' q.length cap', .int .i64 m] w (RetIIB 3 35 (togS p n q m) (togQ p n q m) w) := by
  have F := Lib.hid h
  have F' := Lib.hid h'
  have HLM := Lib.hid hl
  have HLM' := Lib.hid hl'
  clear h h' hl hl'
  cases h1 : nodeB p n
  · obtain ⟨e1, e2⟩ := togs_no (p := p) (q := q) (n := n) (m := m) (by rw [h1]; rfl)
    rw [e1, e2]
    have HN1 := Lib.hid h1
    clear h1 e1 e2
    go_enter Tryz.func31, Tryz.ntmps31
    go_wp2_with fail
    refine (hasNode_any a cap p n w _ _ F.out HLM.out).mono ?_
    rintro e w' ⟨rfl, rfl⟩
    rw [HN1.out]
    go_wp2_with fail
    go_ret2
    exact ⟨none, 0, rfl, OwII_nil _ _ _ _ _, Below.refl _ _⟩
  · cases h2 : nodeB q m
    · obtain ⟨e1, e2⟩ := togs_no (p := p) (q := q) (n := n) (m := m) (by rw [h1, h2]; rfl)
      rw [e1, e2]
      have HN1 := Lib.hid h1
      have HN2 := Lib.hid h2
      clear h1 h2 e1 e2
      go_enter Tryz.func31, Tryz.ntmps31
      go_wp2_with fail
      refine (hasNode_any a cap p n w _ _ F.out HLM.out).mono ?_
      rintro e w' ⟨rfl, rfl⟩
      rw [HN1.out]
      go_wp2_with fail
      refine (hasNode_any a' cap' q m w _ _ F'.out HLM'.out).mono ?_
      rintro e w' ⟨rfl, rfl⟩
      rw [HN2.out]
      go_wp2_with fail
      go_ret2
      exact ⟨none, 0, rfl, OwII_nil _ _ _ _ _, Below.refl _ _⟩
    · obtain ⟨i, rfl, hi, hp⟩ := nodeB_nat h1
      obtain ⟨j, rfl, hj, hq⟩ := nodeB_nat h2
      obtain ⟨e1, e2⟩ := togs_yes h1 h2
      obtain ⟨N, hN⟩ : ∃ N, N = (besL p q).length := ⟨_, rfl⟩
      obtain ⟨e3, e4⟩ := tog_in (p := p) (q := q) (i := i) (j := j) N hN
      rw [e1, e2, ← e3, ← e4]
      have HN1 := Lib.hid h1
      have HN2 := Lib.hid h2
      have hpp := picB_sq hp
      have hqq := picB_sq hq
      have hp5 := hpp.2.2
      have hq5 := hqq.2.2
      have hNe : N = p.length + q.length := hN.trans (besL_len p q)
      have hN10 : N ≤ 10 := by omega
      have hiN : i < N := by omega
      have hjN : p.length + j < N := by omega
      have hBE := beside_any a cap p a' cap' q w B C B' C' F.out hC hpp.1 F'.out hC' hqq.1 (by omega)
      obtain ⟨M, hM⟩ : ∃ M, M = besL p q := ⟨_, rfl⟩
      have hMs : Sq M := by rw [hM]; exact besL_sq p q
      rw [← hM] at hBE hN ⊢
      have HBE := Lib.hid hBE
      have HMS := Lib.hid hMs
      have HNM := Lib.hid hN
      have hcast : (p.length : Int) + (j : Int) = ((p.length + j : Nat) : Int) := by omega
      obtain ⟨J, hJ⟩ : ∃ J, J = p.length + j := ⟨_, rfl⟩
      rw [← hJ] at hcast hjN ⊢
      clear h1 h2 hp hq e1 e2 e3 e4 hpp hqq hBE hM hMs hN hNe hJ
      go_enter Tryz.func31, Tryz.ntmps31
      go_wp2_with fail
      refine (hasNode_any a cap p i w _ _ F.out HLM.out).mono ?_
      rintro e w' ⟨rfl, rfl⟩
      rw [HN1.out]
      go_wp2_with fail
      refine (hasNode_any a' cap' q j w _ _ F'.out HLM'.out).mono ?_
      rintro e w' ⟨rfl, rfl⟩
      rw [HN2.out]
      go_wp2_with fail
      refine HBE.out.mono ?_
      rintro e w1 ⟨x, c, rfl, ho, hb⟩
      have HB1 := Lib.hid hb
      have HX := Lib.hid ho.rd
      have hz1 : w.heap.size ≤ w1.heap.size := hb.size
      have hA1 := arrowsOf_any x c M i w1 _ _ HX.out (Nat.le_refl _) HMS.out (by have := HNM.out; omega) (by have := HNM.out; omega)
      have HA1 := Lib.hid hA1
      clear ho hb hA1
      go_wp2_with fail
      refine HA1.out.mono ?_
      rintro e w2 ⟨y1, d1, rfl, ho1, hb⟩
      have HB2 := Lib.hid (HB1.out.trans (hb.mono hz1))
      have HX2 := Lib.hid (HX.out.below hb (Nat.le_refl _))
      have HO1 := Lib.hid ho1
      have hz2 : w1.heap.size ≤ w2.heap.size := hb.size
      have hA2 := arrowsOf_any x c M J w2 _ _ HX2.out hz2 HMS.out (by have := HNM.out; omega) (by have := HNM.out; omega)
      have HA2 := Lib.hid hA2
      clear ho1 hb hA2
      go_wp2_with fail
      refine HA2.out.mono ?_
      rintro e w3 ⟨y2, d2, rfl, ho2, hb⟩
      have HB3 := Lib.hid (HB2.out.trans (hb.mono (by omega)))
      have HX3 := Lib.hid (HX2.out.below hb (by omega))
      have HO1' := Lib.hid (HO1.out.below hb (Nat.le_refl _))
      have HO2 := Lib.hid ho2
      have hz3 : w2.heap.size ≤ w3.heap.size := hb.size
      clear ho2 hb hcast
      rw [← HNM.out] at HO1' HO2 ⊢
      obtain ⟨L1, hL1⟩ : ∃ L, L = arrL M i N := ⟨_, rfl⟩
      obtain ⟨L2, hL2⟩ : ∃ L, L = arrL M J N := ⟨_, rfl⟩
      have hl1 : L1.length ≤ 10 := by rw [hL1]; have := arrL_le M i N; omega
      have hl2 : L2.length ≤ 10 := by rw [hL2]; have := arrL_le M J N; omega
      have hmm : ∀ y ∈ L1 ++ L2, ∃ v : Nat, y = v ∧ v < M.length := fun y hy => by
        rcases List.mem_append.1 hy with h2 | h2
        · rw [hL1] at h2
          obtain ⟨v, e, hv, _⟩ := arrL_mem.1 h2
          exact ⟨v, e, by have := HNM.out; omega⟩
        · rw [hL2] at h2
          obtain ⟨v, e, hv, _⟩ := arrL_mem.1 h2
          exact ⟨v, e, by have := HNM.out; omega⟩
      have hmem : ∀ k (hk : k < (L1 ++ L2).length), ∃ v : Nat, (L1 ++ L2)[k] = v ∧ v < M.length := fun k hk => hmm _ (List.getElem_mem hk)
      rw [← hL1] at HO1' ⊢
      rw [← hL2] at HO2 ⊢
      have HLA := Lib.hid hL1
      have HLB := Lib.hid hL2
      have HMEM := Lib.hid hmem
      have HNC := Lib.hid HO2.out.nilcap
      clear hL1 hL2 hmem hmm
      go_wp2_with (at_builtin; go_loud (refine wpList_appIs Tryz.underlying35 Tryz.infoInt _ rfl _ _ rfl w1.heap.size w2.heap.size y1 d1 L1 rfl HO1'.out (by omega) w2.heap.size w3.heap.size y2 d2 L2 rfl HO2.out.rd HNC.out (by omega) ?_); intro y3 d3 w4 hown hgrow hat)
      have HL4 := Lib.hid hown.rd
      have HB4 := Lib.hid (HB3.out.grown hgrow (by omega) (fun k hk => by have := HO1'.out.block_in hk; omega))
      have hX4 := HX3.out.agr (fun k h1 h2 => hgrow.block k (by omega) (fun e => by have := HO1'.out.block_in e.symm; omega))
      have HX4 := Lib.hid hX4
      have hz4 : w3.heap.size ≤ w4.heap.size := hgrow.size
      have hlen : L1.length + L2.length = (L1 ++ L2).length := by rw [List.length_append]
      rw [hlen]
      have HWM := Lib.hid (withMembers_any x c M y3 d3 (L1 ++ L2) w4 _ _ _ _ HX4.out (by omega) HMS.out (by have := HNM.out; omega) HL4.out (Nat.le_refl _) HMEM.out (by omega))
      rw [← HNM.out] at HWM
      clear hown hgrow hat hX4 hlen
      go_wp2_with fail
      refine HWM.out.mono ?_
      rintro e w5 ⟨y, d, rfl, ho, hb⟩
      have HO5 := Lib.hid (ho.mono (show w.heap.size ≤ w4.heap.size by omega) (Nat.le_refl _))
      have HB5 := Lib.hid (HB4.out.trans (hb.mono (by omega)))
      clear ho hb
      go_wp2_with fail
      go_ret2
      obtain rfl := HLA.out
      obtain rfl := HLB.out
      exact ⟨y, d, rfl, HO5.out, HB5.out⟩

theorem entersWo : EntersF Tryz.prog 48 := fun _ _ => by kernel_rfl
set_option maxHeartbeats 400000 in
theorem withoutSet1_any (a : Option Addr) (cap : Nat) (p : List (List Int)) (v : Nat) (a' : Option Addr) (cap' : Nat) (q : List (List Int)) (j pb qb bb : Nat) (w : World) (B C B' C' : Nat) (h : RdII w B C a p) (hC : C ≤ w.heap.size) (hs : Sq p) (hv : v < p.length) (h' : RdII w B' C' a' q) (hC' : C' ≤ w.heap.size) (hs' : Sq q) (hj : j < q.length) (hl : p.length + q.length ≤ 1024)
    (h1 : w.cell? ⟨pb, 0, none⟩ = some (.slice a p.length cap)) (h2 : w.cell? ⟨qb, 0, none⟩ = some (.slice a' q.length cap')) (h3 : w.cell? ⟨bb, 0, none⟩ = some (.int .i64 j)) :
    Calls Tryz.prog 48 (#[.int .i64 v] ++ #[.pointer (some ⟨pb, 0, none⟩), .pointer (some ⟨qb, 0, none⟩), .pointer (some ⟨bb, 0, none⟩)]) w fun e w' => e = .returned (.bool (sameB p v q j)) ∧ Below w.heap.size w w' := by
  have F := Lib.hid h
  have F' := Lib.hid h'
  have HS := Lib.hid hs
  have HS' := Lib.hid hs'
  clear h h' hs hs'
  go_enter Tryz.func48, Tryz.ntmps48
  go_wp2_with fail
  refine (sameSet_any a cap p v a' cap' q j _ B C B' C' F.out hC HS.out hv F'.out hC' HS'.out hj hl).mono ?_
  rintro e w1 ⟨rfl, hb⟩
  have HB := Lib.hid hb
  clear hb
  go_wp2_with fail
  go_ret
  exact ⟨rfl, HB.out⟩

set_option maxRecDepth 4000 in
set_option maxHeartbeats 1600000 in
theorem implWithoutSet_any (a : Option Addr) (cap : Nat) (p : List (List Int)) (n : Int) (a' : Option Addr) (cap' : Nat) (q : List (List Int)) (m : Int) (w : World) (B C B' C' : Nat) (h : RdII w B C a p) (hC : C ≤ w.heap.size) (hl : p.length ≤ maxLen) (h' : RdII w B' C' a' q) (hC' : C' ≤ w.heap.size) (hl' : q.length ≤ maxLen) :
    Calls Tryz.prog 12 #[.slice a p.length cap, .int .i64 n, .slice a' q.length cap', .int .i64 m] w (RetIIB 3 35 (woS p n q m) (woQ p n q m) w) := by
  have HA3 := Lib.hid (alloc3 w (.cells #[.slice a p.length cap] 22) (.cells #[.slice a' q.length cap'] 22) (.cells #[.int .i64 m] 3))
  have hb0 := ((below_alloc w (.cells #[.slice a p.length cap] 22)).alloc (by simp) (.cells #[.slice a' q.length cap'] 22)).alloc (by simp; omega) (.cells #[.int .i64 m] 3)
  have HB0 := Lib.hid hb0
  have F := Lib.hid (h.below hb0 hC)
  have F' := Lib.hid (h'.below hb0 hC')
  have HLM := Lib.hid hl
  have HLM' := Lib.hid hl'
  clear h h' hl hl' hb0
  cases h1 : nodeB p n
  · obtain ⟨e1, e2⟩ := wos_no (p := p) (q := q) (n := n) (m := m) (by rw [h1]; rfl)
    rw [e1, e2]
    have HN1 := Lib.hid h1
    clear h1 e1 e2
    go_enter Tryz.func12, Tryz.ntmps12
    go_wp2_with fail
    refine (hasNode_any a cap p n _ _ _ F.out HLM.out).mono ?_
    rintro e w' ⟨rfl, rfl⟩
    rw [HN1.out]
    go_wp2_with fail
    go_ret2
    exact ⟨none, 0, rfl, OwII_nil _ _ _ _ _, HB0.out⟩
  · cases h2 : nodeB q m
    · obtain ⟨e1, e2⟩ := wos_no (p := p) (q := q) (n := n) (m := m) (by rw [h1, h2]; rfl)
      rw [e1, e2]
      have HN1 := Lib.hid h1
      have HN2 := Lib.hid h2
      clear h1 h2 e1 e2
      go_enter Tryz.func12, Tryz.ntmps12
      go_wp2_with fail
      refine (hasNode_any a cap p n _ _ _ F.out HLM.out).mono ?_
      rintro e w' ⟨rfl, rfl⟩
      rw [HN1.out]
      go_wp2_with fail
      refine (hasNode_any a' cap' q m _ _ _ F'.out HLM'.out).mono ?_
      rintro e w' ⟨rfl, rfl⟩
      rw [HN2.out]
      go_wp2_with fail
      go_ret2
      exact ⟨none, 0, rfl, OwII_nil _ _ _ _ _, HB0.out⟩
    · obtain ⟨i, rfl, hi, hp⟩ := nodeB_nat h1
      obtain ⟨j, rfl, hj, hq⟩ := nodeB_nat h2
      obtain ⟨e1, e2⟩ := wos_yes h1 h2
      obtain ⟨e3, e4⟩ := wo_in2 (p := p) (q := q) (i := i) (j := j)
      rw [e1, e2, ← e3, ← e4]
      have HN1 := Lib.hid h1
      have HN2 := Lib.hid h2
      have hpp := picB_sq hp
      have hqq := picB_sq hq
      have hp5 := hpp.2.2
      have hq5 := hqq.2.2
      have HSP := Lib.hid hpp.1
      have HSQ := Lib.hid hqq.1
      have hal := arrL_le p i p.length
      clear h1 h2 hp hq e1 e2 e3 e4 hpp hqq
      go_enter Tryz.func12, Tryz.ntmps12
      go_wp2_with fail
      refine (hasNode_any a cap p i _ _ _ F.out HLM.out).mono ?_
      rintro e w' ⟨rfl, rfl⟩
      rw [HN1.out]
      go_wp2_with fail
      refine (hasNode_any a' cap' q j _ _ _ F'.out HLM'.out).mono ?_
      rintro e w' ⟨rfl, rfl⟩
      rw [HN2.out]
      go_wp2_with fail
      refine (arrowsOf_any a cap p i _ B C F.out (by simp; omega) HSP.out hi (by omega)).mono ?_
      rintro e w1 ⟨x, c, rfl, ho, hb⟩
      have hsz : (((w.alloc (.cells #[.slice a p.length cap] 22)).alloc (.cells #[.slice a' q.length cap'] 22)).alloc (.cells #[.int .i64 j] 3)).heap.size = w.heap.size + 3 := by simp
      have hz1 : w.heap.size + 3 ≤ w1.heap.size := by have := hb.size; omega
      have HO := Lib.hid (ho.mono (show w.heap.size + 3 ≤ _ by rw [hsz]; exact Nat.le_refl _) (Nat.le_refl _))
      have HB1 := Lib.hid (HB0.out.trans (hb.mono (by simp; omega)))
      have HP1 := Lib.hid (hb.blk HA3.out.1 (by simp; omega))
      have HQ1 := Lib.hid (hb.blk HA3.out.2.1 (by simp))
      have HJ1 := Lib.hid (hb.blk HA3.out.2.2 (by simp))
      have F1 := Lib.hid (F.out.below hb (by simp; omega))
      have F1' := Lib.hid (F'.out.below hb (by simp; omega))
      have p1 := (blk1 HP1.out).1
      have HD := Lib.hid (deleteFunc_own x c (arrL p i p.length) _ #[.pointer (some ⟨w.heap.size, 0, none⟩), .pointer (some ⟨w.heap.size + 1, 0, none⟩), .pointer (some ⟨w.heap.size + 1 + 1, 0, none⟩)] (fun v => sameB p v.toNat q j) w1 _ _ entersWo HO.out (Nat.le_refl _) (by omega) (fun y hy w3 hc3 => by
        obtain ⟨v, rfl, hv1, hv2⟩ := arrL_mem.1 hy
        have hS : ∀ k, blockOf x = some k → w.heap.size + 3 ≤ k := fun k hk => (HO.out.block_in hk).1
        have hz3 := hc3.size
        have e1 := (blk1 (hc3.blk HP1.out (fun h => by have := hS _ h; omega))).1
        have e2 := (blk1 (hc3.blk HQ1.out (fun h => by have := hS _ h; omega))).1
        have e3 := (blk1 (hc3.blk HJ1.out (fun h => by have := hS _ h; omega))).1
        have g1 : RdII w3 B C a p := F1.out.agr (hc3.agr (by omega) (fun k h1 h2 h3 => by have := hS _ h3; omega))
        have g2 : RdII w3 B' C' a' q := F1'.out.agr (hc3.agr (by omega) (fun k h1 h2 h3 => by have := hS _ h3; omega))
        have := withoutSet1_any a cap p v a' cap' q j _ _ _ w3 B C B' C' g1 (by omega) HSP.out hv1 g2 (by omega) HSQ.out hj (by omega) e1 e2 e3
        simpa using this))
      clear ho hb hsz
      go_wp2_with fail
      refine HD.out.mono ?_
      rintro e w2 ⟨rfl, ho2, hc2⟩
      have hS : ∀ k, blockOf x = some k → w.heap.size + 3 ≤ k := fun k hk => (HO.out.block_in hk).1
      have HL2 := Lib.hid ho2.rd
      have HB2 := Lib.hid (HB1.out.trans (hc2.below (D := w.heap.size) (fun k hk => by have := hS k hk; omega) (by omega)))
      have F2 := Lib.hid (F1.out.agr (hc2.agr (by omega) (fun k h1 h2 h3 => by have := hS _ h3; omega)))
      have p2 := (blk1 (hc2.blk HP1.out (fun h => by have := hS _ h; omega))).1
      have hz2 : w1.heap.size ≤ w2.heap.size := hc2.size
      have hmem : ∀ k (hk : k < (keepL p i q j).length), ∃ v : Nat, (keepL p i q j)[k] = v ∧ v < p.length := fun k hk => by
        have h1 := (List.mem_filter.1 (List.getElem_mem hk)).1
        obtain ⟨v, e, hv, _⟩ := arrL_mem.1 h1
        exact ⟨v, e, hv⟩
      have hkl : (keepL p i q j).length ≤ 64 := Nat.le_trans (List.length_filter_le _ _) (by omega)
      have HWM := Lib.hid (withMembers_any a cap p x c (keepL p i q j) w2 _ _ _ _ F2.out (by omega) HSP.out (by omega) HL2.out (by omega) hmem hkl)
      clear ho2 hc2 hmem hkl p1
      go_wp2_with fail
      refine HWM.out.mono ?_
      rintro e w3 ⟨y, d, rfl, ho, hb⟩
      have HO3 := Lib.hid (ho.mono (show w.heap.size ≤ w2.heap.size by omega) (Nat.le_refl _))
      have HB3 := Lib.hid (HB2.out.trans (hb.mono (by omega)))
      clear ho hb
      go_wp2_with fail
      go_ret2
      exact ⟨y, d, rfl, HO3.out, HB3.out⟩
end Go.Proofs.YtfjodcfbhpglhaaGreatDoor
