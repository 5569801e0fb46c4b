/- impl.TogetherOf and impl.WithoutSet, walked. -/
import Derived.Test.YtfjodcfbhpglhaaDoorM26
import Derived.Test.YtfjodcfbhpglhaaDoorM27
import Derived.Test.YtfjodcfbhpglhaaDoorM25
namespace Go.Proofs.YtfjodcfbhpglhaaDoor
open Go.RowKit Go.Hyp Go.Deep

set_option maxRecDepth 4000 in
set_option maxHeartbeats 1600000 in
theorem implTogetherOf_any (a : Option Addr) (cap : Nat) (p : List (List Int)) (n : Int) (a' : Option Addr) (cap' : Nat) (q : List (List Int)) (m : Int) (w : World) (B C B' C' : Nat) (h : RdII w B C a p) (hC : C ≤ w.heap.size) (hl : p.length ≤ maxLen) (h' : RdII w B' C' a' q) (hC' : C' ≤ w.heap.size) (hl' : q.length ≤ maxLen) :
    Calls Tryd.prog 17 #[.slice a p.length cap, .int .i64 n, .slice a' q.length cap', .int .i64 m] w (RetIIB 3 38 (togS p n q m) (togQ p n q m) w) := by
  have F := Lib.hid h
  have F' := Lib.hid h'
  have HLM := Lib.hid hl
  have HLM' := Lib.hid hl'
  clear h h' hl hl'
  cases h1 : nodeB p n
  · obtain ⟨e1, e2⟩ := togs_no (p := p) (q := q) (n := n) (m := m) (by rw [h1]; rfl)
    rw [e1, e2]
    have HN1 := Lib.hid h1
    clear h1 e1 e2
    go_enter Tryd.func17, Tryd.ntmps17
    go_wp2_with fail
    refine (hasNode_any a cap p n w _ _ F.out HLM.out).mono ?_
    rintro e w' ⟨rfl, rfl⟩
    rw [HN1.out]
    go_wp2_with fail
    go_ret2
    exact ⟨none, 0, rfl, OwII_nil _ _ _ _ _, Below.refl _ _⟩
  · cases h2 : nodeB q m
    · obtain ⟨e1, e2⟩ := togs_no (p := p) (q := q) (n := n) (m := m) (by rw [h1, h2]; rfl)
      rw [e1, e2]
      have HN1 := Lib.hid h1
      have HN2 := Lib.hid h2
      clear h1 h2 e1 e2
      go_enter Tryd.func17, Tryd.ntmps17
      go_wp2_with fail
      refine (hasNode_any a cap p n w _ _ F.out HLM.out).mono ?_
      rintro e w' ⟨rfl, rfl⟩
      rw [HN1.out]
      go_wp2_with fail
      refine (hasNode_any a' cap' q m w _ _ F'.out HLM'.out).mono ?_
      rintro e w' ⟨rfl, rfl⟩
      rw [HN2.out]
      go_wp2_with fail
      go_ret2
      exact ⟨none, 0, rfl, OwII_nil _ _ _ _ _, Below.refl _ _⟩
    · obtain ⟨i, rfl, hi, hp⟩ := nodeB_nat h1
      obtain ⟨j, rfl, hj, hq⟩ := nodeB_nat h2
      obtain ⟨e1, e2⟩ := togs_yes h1 h2
      obtain ⟨N, hN⟩ : ∃ N, N = (besL p q).length := ⟨_, rfl⟩
      obtain ⟨e3, e4⟩ := tog_in (p := p) (q := q) (i := i) (j := j) N hN
      rw [e1, e2, ← e3, ← e4]
      have HN1 := Lib.hid h1
      have HN2 := Lib.hid h2
      have hpp := picB_sq hp
      have hqq := picB_sq hq
      have hp5 := hpp.2.2
      have hq5 := hqq.2.2
      have hNe : N = p.length + q.length := hN.trans (besL_len p q)
      have hN10 : N ≤ 10 := by omega
      have hiN : i < N := by omega
      have hjN : p.length + j < N := by omega
      have hBE := beside_any a cap p a' cap' q w B C B' C' F.out hC hpp.1 F'.out hC' hqq.1 (by omega)
      obtain ⟨M, hM⟩ : ∃ M, M = besL p q := ⟨_, rfl⟩
      have hMs : Sq M := by rw [hM]; exact besL_sq p q
      rw [← hM] at hBE hN ⊢
      have HBE := Lib.hid hBE
      have HMS := Lib.hid hMs
      have HNM := Lib.hid hN
      have hcast : (p.length : Int) + (j : Int) = ((p.length + j : Nat) : Int) := by omega
      obtain ⟨J, hJ⟩ : ∃ J, J = p.length + j := ⟨_, rfl⟩
      rw [← hJ] at hcast hjN ⊢
      clear h1 h2 hp hq e1 e2 e3 e4 hpp hqq hBE hM hMs hN hNe hJ
      go_enter Tryd.func17, Tryd.ntmps17
      go_wp2_with fail
      refine (hasNode_any a cap p i w _ _ F.out HLM.out).mono ?_
      rintro e w' ⟨rfl, rfl⟩
      rw [HN1.out]
      go_wp2_with fail
      refine (hasNode_any a' cap' q j w _ _ F'.out HLM'.out).mono ?_
      rintro e w' ⟨rfl, rfl⟩
      rw [HN2.out]
      go_wp2_with fail
      refine HBE.out.mono ?_
      rintro e w1 ⟨x, c, rfl, ho, hb⟩
      have HB1 := Lib.hid hb
      have HX := Lib.hid ho.rd
      have hz1 : w.heap.size ≤ w1.heap.size := hb.size
      have hA1 := arrowsOf_any x c M i w1 _ _ HX.out (Nat.le_refl _) HMS.out (by have := HNM.out; omega) (by have := HNM.out; omega)
      have HA1 := Lib.hid hA1
      clear ho hb hA1
      go_wp2_with fail
      refine HA1.out.mono ?_
      rintro e w2 ⟨y1, d1, rfl, ho1, hb⟩
      have HB2 := Lib.hid (HB1.out.trans (hb.mono hz1))
      have HX2 := Lib.hid (HX.out.below hb (Nat.le_refl _))
      have HO1 := Lib.hid ho1
      have hz2 : w1.heap.size ≤ w2.heap.size := hb.size
      have hA2 := arrowsOf_any x c M J w2 _ _ HX2.out hz2 HMS.out (by have := HNM.out; omega) (by have := HNM.out; omega)
      have HA2 := Lib.hid hA2
      clear ho1 hb hA2
      go_wp2_with fail
      refine HA2.out.mono ?_
      rintro e w3 ⟨y2, d2, rfl, ho2, hb⟩
      have HB3 := Lib.hid (HB2.out.trans (hb.mono (by omega)))
      have HX3 := Lib.hid (HX2.out.below hb (by omega))
      have HO1' := Lib.hid (HO1.out.below hb (Nat.le_refl _))
      have HO2 := Lib.hid ho2
      have hz3 : w2.heap.size ≤ w3.heap.size := hb.size
      clear ho2 hb hcast
      rw [← HNM.out] at HO1' HO2 ⊢
      obtain ⟨L1, hL1⟩ : ∃ L, L = arrL M i N := ⟨_, rfl⟩
      obtain ⟨L2, hL2⟩ : ∃ L, L = arrL M J N := ⟨_, rfl⟩
      have hl1 : L1.length ≤ 10 := by rw [hL1]; have := arrL_le M i N; omega
      have hl2 : L2.length ≤ 10 := by rw [hL2]; have := arrL_le M J N; omega
      have hmm : ∀ y ∈ L1 ++ L2, ∃ v : Nat, y = v ∧ v < M.length := fun y hy => by
        rcases List.mem_append.1 hy with h2 | h2
        · rw [hL1] at h2
          obtain ⟨v, e, hv, _⟩ := arrL_mem.1 h2
          exact ⟨v, e, by have := HNM.out; omega⟩
        · rw [hL2] at h2
          obtain ⟨v, e, hv, _⟩ := arrL_mem.1 h2
          exact ⟨v, e, by have := HNM.out; omega⟩
      have hmem : ∀ k (hk : k < (L1 ++ L2).length), ∃ v : Nat, (L1 ++ L2)[k] = v ∧ v < M.length := fun k hk => hmm _ (List.getElem_mem hk)
      rw [← hL1] at HO1' ⊢
      rw [← hL2] at HO2 ⊢
      have HLA := Lib.hid hL1
      have HLB := Lib.hid hL2
      have HMEM := Lib.hid hmem
      have HNC := Lib.hid HO2.out.nilcap
      clear hL1 hL2 hmem hmm
      go_wp2_with (at_builtin; go_loud (refine wpList_appIs Tryd.underlying38 Tryd.infoInt _ rfl _ _ rfl w1.heap.size w2.heap.size y1 d1 L1 rfl HO1'.out (by omega) w2.heap.size w3.heap.size y2 d2 L2 rfl HO2.out.rd HNC.out (by omega) ?_); intro y3 d3 w4 hown hgrow hat)
      have HL4 := Lib.hid hown.rd
      have HB4 := Lib.hid (HB3.out.grown hgrow (by omega) (fun k hk => by have := HO1'.out.block_in hk; omega))
      have hX4 := HX3.out.agr (fun k h1 h2 => hgrow.block k (by omega) (fun e => by have := HO1'.out.block_in e.symm; omega))
      have HX4 := Lib.hid hX4
      have hz4 : w3.heap.size ≤ w4.heap.size := hgrow.size
      have hlen : L1.length + L2.length = (L1 ++ L2).length := by rw [List.length_append]
      rw [hlen]
      have HWM := Lib.hid (withMembers_any x c M y3 d3 (L1 ++ L2) w4 _ _ _ _ HX4.out (by omega) HMS.out (by have := HNM.out; omega) HL4.out (Nat.le_refl _) HMEM.out (by omega))
      rw [← HNM.out] at HWM
      clear hown hgrow hat hX4 hlen
      go_wp2_with fail
      refine HWM.out.mono ?_
      rintro e w5 ⟨y, d, rfl, ho, hb⟩
      have HO5 := Lib.hid (ho.mono (show w.heap.size ≤ w4.heap.size by omega) (Nat.le_refl _))
      have HB5 := Lib.hid (HB4.out.trans (hb.mono (by omega)))
      clear ho hb
      go_wp2_with fail
      go_ret2
      obtain rfl := HLA.out
      obtain rfl := HLB.out
      exact ⟨y, d, rfl, HO5.out, HB5.out⟩

end Go.Proofs.YtfjodcfbhpglhaaDoor
