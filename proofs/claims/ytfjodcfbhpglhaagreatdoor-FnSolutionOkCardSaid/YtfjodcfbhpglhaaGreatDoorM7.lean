/- Drawn pictures: spec.l20Picture, l20Twin, DrawSameAt. -/
import Derived.Deep.RegionLaw
import Derived.Deep.Cut
import Derived.Deep.CutRange
import Derived.Test.YtfjodcfbhpglhaaGreatDoorM4
import Derived.Test.YtfjodcfbhpglhaaGreatDoorM3
namespace Go.Hyp
open Go.RowKit Go.Deep
/-- A drawn picture: short rows in new memory, owned if it is a picture; the reader at most K further; all else as it was. -/
def DrewP (E R S rb : Nat) (l : List Int) (p K : Nat) (w : World) (e : Ending) (w' : World) : Prop :=
  ∃ a c P, e = .returned (.slice a (P : List (List Int)).length c) ∧ RdII w' w.heap.size w'.heap.size a P ∧ (picB P = true → OwII w' E R w.heap.size w'.heap.size a c P) ∧ P.length ≤ 5 ∧ (∀ x ∈ P, x.length ≤ 6) ∧
    (∃ p', p ≤ p' ∧ p' ≤ p + K ∧ Rdr w' rb S l p') ∧ Chg (· = rb) w w'
theorem DrewP.of {E R S rb : Nat} {l : List Int} {p p' K : Nat} {w w' : World} {a : Option Addr} {c : Nat} {P : List (List Int)} (h : OwII w' E R w.heap.size w'.heap.size a c P) (h5 : P.length ≤ 5) (h6 : ∀ x ∈ P, x.length ≤ 6) (hp : p ≤ p') (hp' : p' ≤ p + K) (hr : Rdr w' rb S l p') (hc : Chg (· = rb) w w') :
    DrewP E R S rb l p K w (.returned (.slice a P.length c)) w' := ⟨a, c, P, rfl, h.rd, fun _ => h, h5, h6, ⟨p', hp, hp', hr⟩, hc⟩
theorem frozen_of_block {w w' : World} {b o : Nat} (h : w'.heap[b]? = w.heap[b]?) : w'.frozen? ⟨b, o, none⟩ = w.frozen? ⟨b, o, none⟩ := by simp [World.frozen?, h]
/-- The first row of owned rows replaced by one that has grown. -/
theorem OwII.rowGrow {w : World} {E R B C : Nat} {a : Option Addr} {cap : Nat} {p : List (List Int)} (h : OwII w E R B C a cap p) (h0 : 0 < p.length) (hC : C ≤ w.heap.size) :
    ∃ g ar cr, a = some ⟨g, 0, none⟩ ∧ B ≤ g ∧ g < w.heap.size ∧ w.cell? ⟨g, 0, none⟩ = some (.slice ar (p.getD 0 []).length cr) ∧ w.frozen? ⟨g, 0, none⟩ = false ∧ OwI w E B C ar cr (p.getD 0 []) ∧ blockOf ar ≠ some g ∧
      ∀ w' a1 c1 l, OwI w' E B w'.heap.size a1 c1 l → w.heap.size ≤ w'.heap.size → (∀ k, k < w.heap.size → blockOf ar ≠ some k → w'.heap[k]? = w.heap[k]?) → (∀ k, blockOf a1 = some k → blockOf ar = some k ∨ w.heap.size ≤ k) →
        RdII (w'.setCell ⟨g, 0, none⟩ (.slice a1 l.length c1)) B w'.heap.size a (p.set 0 l) := by
  obtain ⟨ra, rc, h1, h2, h3, h4⟩ := h
  rcases h1 with ⟨_, h0', _⟩ | ⟨g, F, e, g1, g2, hr, hl, hm, hf⟩
  · omega
  · have hgb : blockOf (ra 0) ≠ some g := fun hb => (h4 0 h0).blocks g (by rw [e]; rfl) hb
    refine ⟨g, ra 0, rc 0, e, g1, hr.lt, by rw [hr.cell (by omega), hf 0 h0], hr.frozen 0, h2 0 h0, hgb, fun w' a1 c1 l hl1 hsz hk hb1 => ?_⟩
    have hr' := (hr.of_block (hk g hr.lt hgb)).set 0 (.slice a1 l.length c1)
    intro i hi
    rw [List.length_set] at hi
    have eg : (p.set 0 l).getD i [] = if i = 0 then l else p.getD i [] := by
      unfold List.getD
      rw [List.getElem?_set]
      by_cases e : 0 = i
      · subst e; simp [hi]
      · rw [if_neg e, if_neg (fun h => e h.symm)]
    rw [eg]
    by_cases e0 : i = 0
    · subst e0
      rw [if_pos rfl]
      have hne : ∀ k, blockOf a1 = some k → k ≠ g := fun k hk' e => by
        subst e
        rcases hb1 k hk' with h | h
        · exact hgb h
        · have := hr.lt; omega
      refine ⟨g, 0, a1, c1, e, g1, by have := hr.lt; omega, by rw [Nat.zero_add, hr'.cell (by omega)]; simp, ?_, hl1.len⟩
      intro j hj
      obtain ⟨b, off, ea, q1, q2, hc⟩ := hl1.rd j hj
      have hbg := hne b (by rw [ea]; rfl)
      exact ⟨b, off, ea, q1, q2, by rw [World.cell?_of_block (w := w') (Below.heap_setCell _ _ _ _ hbg)]; exact hc⟩
    · rw [if_neg e0]
      have hi2 := h2 i hi
      refine ⟨g, 0, ra i, rc i, e, g1, by have := hr.lt; omega, by rw [Nat.zero_add, hr'.cell (by omega), if_neg e0, hf i hi], ?_, hi2.len⟩
      have hk2 : OwI (w'.setCell ⟨g, 0, none⟩ (.slice a1 l.length c1)) E B C (ra i) (rc i) (p.getD i []) := by
        rcases hi2 with hn | ⟨gi, Gi, ei, q1, q2, qr, qq⟩
        · exact .inl hn
        · refine .inr ⟨gi, Gi, ei, q1, q2, ?_, qq⟩
          have hgi : gi ≠ g := fun e => (h4 i hi).blocks g (by rw [‹a = _›]; rfl) (by rw [ei, e]; rfl)
          exact (qr.of_block (hk gi qr.lt (fun hb => (h3 0 i (by omega) hi).blocks gi hb (by rw [ei]; rfl)))).setOther (a := ⟨g, 0, none⟩) hgi _
      exact hk2.rd.mono (Nat.le_refl _) (by omega)
end Go.Hyp
namespace Go.Proofs.YtfjodcfbhpglhaaGreatDoor
open Go.RowKit Go.Hyp Go.Deep

set_option maxHeartbeats 2000000 in
theorem l20Picture_any (rb : Nat) (l : List Int) (p n : Nat) (w : World) (hr : Rdr w rb 78 l p) (hp : p ≤ 524288) (hn : n ≤ 1048576) :
    Calls Tryz.prog 77 #[.pointer (some ⟨rb, 0, none⟩), .int .i64 n] w (DrewP 3 35 78 rb l p 40 w) := by
  have hlt := hr.lt
  have HR := Lib.hid hr
  clear hr
  go_enter Tryz.func77, Tryz.ntmps77
  go_wp2_with fail
  refine (pick_rdr rb l p 5 _ HR.out (by omega) (by omega)).mono ?_
  rintro e w1 ⟨v, rfl, v0, v1, hr1, hc1, hz1⟩
  obtain ⟨N0, rfl⟩ := Int.eq_ofNat_of_zero_le v0
  obtain ⟨N, hN⟩ : ∃ N : Nat, N = 1 + N0 := ⟨_, rfl⟩
  have hN1 : 1 ≤ N := by omega
  have hN5 : N ≤ 5 := by omega
  have hNw : (1 : Int) + (N0 : Int) = (N : Int) := by omega
  have hz1' : w.heap.size ≤ w1.heap.size := by omega
  have HR1 := Lib.hid (hr1.below (below_alloc w1 (.cells #[] 35)) (by omega))
  have HC1 := Lib.hid (hc1.alloc (.cells #[] 35))
  clear hr1 hc1 hz1 v1 hN
  go_wp2_with fail
  refine (pick_rdr rb l (p + 1) 3 _ HR1.out (by omega) (by omega)).mono ?_
  rintro e w2 ⟨v2, rfl, v20, v21, hr2, hc2, hz2⟩
  have HO2 := Lib.hid ((OwII_empty w1 3 35).agr (hc2.agr (by simp) (fun k h1 h2 => by omega)))
  have HR2 := Lib.hid hr2
  have HC2 := Lib.hid (HC1.out.trans hc2)
  have hz2' : w1.heap.size + 1 ≤ w2.heap.size := by simp at hz2; omega
  have hmk := run_make_row' (P := Tryz.prog) 35 3 _ _ Tryz.underlying35 Tryz.infoInt rfl .i64 .i64 N (by omega) (by omega)
  obtain rfl | rfl | rfl : v2 = 0 ∨ v2 = 1 ∨ v2 = 2 := by omega
  all_goals
    clear hr2 hc2 hz2 HR1 HC1 v20 v21
    go_wp2_with fail
    go_loopw [6, 8] (fun o i wr => ∃ (P : List (List Int)) (a : Option Addr) (c p' : Nat), i = .int .i64 P.length ∧ o = .slice a P.length c ∧ P.length ≤ N ∧ (∀ x ∈ P, x.length = N) ∧ OwII wr 3 35 w.heap.size wr.heap.size a c P ∧
        p ≤ p' ∧ p' + 6 * (N - P.length) ≤ p + 2 + 6 * N ∧ Rdr wr rb 78 l p' ∧ Chg (· = rb) w wr) (fun _ i _ => N - (intOf i).toNat)
    case atStart => exact ⟨[], _, 0, p + 2, rfl, rfl, Nat.zero_le _, fun x hx => by simp at hx, HO2.out.mono hz1' hz2', by omega, by simp, HR2.out, HC2.out⟩
    case round =>
      obtain ⟨P, a, c, p', rfl, rfl, hPl, hPn, ho, hp1, hp2, hr', hc'⟩ := hrel
      have HPN := Lib.hid hPn
      have HO := Lib.hid ho
      have HR' := Lib.hid hr'
      have HC' := Lib.hid hc'
      have hwr : w.heap.size ≤ wr.heap.size := hc'.size
      clear hPn ho hr' hc' HO2 HR2 HC2
      by_cases hlt2 : P.length < N
      · have HL0 := Lib.hid (OwI_zeros wr 3 N (by unfold maxLen; omega))
        have HB0 := Lib.hid (below_alloc wr (.cells (madeCells #[.int .i64 0] N) 3))
        have HRa := Lib.hid (HR'.out.below HB0.out (by omega))
        have HCa := Lib.hid (HC'.out.alloc (.cells (madeCells #[.int .i64 0] N) 3))
        have HPa := Lib.hid (HO.out.below HB0.out (Nat.le_refl _))
        clear HO HR' HC' HB0
        obtain ⟨wk, rfl⟩ : ∃ wk : World, wk = wr := ⟨_, rfl⟩
        go_wp2_with fail
        go_loopw [10] (fun i wi => ∃ (j : Nat) (L : List Int) (p2 : Nat), j ≤ N ∧ i = .int .i64 j ∧ L.length = N ∧ OwI wi 3 wk.heap.size (wk.heap.size + 1) (some ⟨wk.heap.size, 0, none⟩) N L ∧ OwII wi 3 35 w.heap.size wk.heap.size a c P ∧ p' ≤ p2 ∧ p2 ≤ p' + j ∧ Rdr wi rb 78 l p2 ∧ Chg (· = rb) w wi ∧ wk.heap.size + 1 ≤ wi.heap.size) (fun i _ => N - (intOf i).toNat)
        case atStart => exact ⟨0, rowOf N fun _ => false, p', Nat.zero_le _, rfl, rowOf_len _ _, HL0.out, HPa.out, Nat.le_refl _, Nat.le_refl _, HRa.out, HCa.out, by simp⟩
        case round =>
          obtain ⟨j, L, p2, hj, rfl, hLn, hli, hpi, hq1, hq2, hri, hci, hzi⟩ := hrel
          have HLN := Lib.hid hLn
          have HLI := Lib.hid hli
          have HPI := Lib.hid hpi
          have HRI := Lib.hid hri
          have HCI := Lib.hid hci
          clear hLn hli hpi hri hci HL0 HRa HCa HPa
          obtain ⟨wi, rfl⟩ : ∃ wi : World, wi = wr := ⟨_, rfl⟩
          by_cases hlt3 : j < N
          · by_cases hjk : P.length < j
            all_goals first
              | (have HPK := Lib.hid (pick_rdr rb l p2 3 wi HRI.out (by omega) (by omega))
                 go_wp2_with fail
                 refine HPK.out.mono ?_
                 rintro e w5 ⟨v5, rfl, v50, v51, hr5, hc5, hz5⟩
                 obtain ⟨u5, rfl⟩ := Int.eq_ofNat_of_zero_le v50
                 have HL5 := Lib.hid (HLI.out.agr (hc5.agr (by omega) (fun k h1 h2 h3 => by omega)))
                 obtain ⟨gx, hgx, hgx1, hgx2, hd5, hfz5, hgl5⟩ := HL5.out.cells j (by rw [HLN.out]; exact hlt3)
                 cases hgx
                 have HP5 := Lib.hid (HPI.out.agr (hc5.agr (by omega) (fun k h1 h2 h3 => by omega)))
                 have HR5 := Lib.hid hr5
                 have HC5 := Lib.hid (HCI.out.trans hc5)
                 have hji : (j : Int) < (N : Int) := by omega
                 have hz5' : wi.heap.size ≤ w5.heap.size := by omega
                 clear hr5 hc5 hz5
                 go_wp2_with fail
                 go_roundw
                 case rel =>
                   refine ⟨j + 1, L.set j ((u5 : Int) / 2), p2 + 1, by omega, by go_num, by rw [List.length_set]; exact HLN.out, ?_, ?_, by omega, by omega, ?_, HC5.out.set (.inr (by omega)) _, by simp; omega⟩
                   · exact HL5.out.setAt j (by rw [HLN.out]; exact hlt3) _
                   · exact HP5.out.agr ((Agr.refl _ _ _).set (by omega) _)
                   · exact HR5.out.agr ((Agr.refl _ _ _).set (by omega) _)
                 case measure => simp [intOf]; omega)
              | (go_wp2_with fail
                 go_roundw
                 case rel => exact ⟨j + 1, L, p2, by omega, by go_num, HLN.out, HLI.out, HPI.out, by omega, by omega, HRI.out, HCI.out, hzi⟩
                 case measure => simp [intOf]; omega)
          · by_cases hk1 : P.length + 1 < N
            · have hk1i : (P.length : Int) + 1 < (N : Int) := by omega
              have HPK := Lib.hid (pick_rdr rb l p2 3 wi HRI.out (by omega) (by omega))
              go_wp2_with fail
              refine HPK.out.mono ?_
              rintro e w5 ⟨v5, rfl, v50, v51, hr5, hc5, hz5⟩
              have HL5 := Lib.hid (HLI.out.agr (hc5.agr (by omega) (fun k h1 h2 h3 => by omega)))
              obtain ⟨gx, hgx, hgx1, hgx2, hd5, hfz5, hgl5⟩ := HL5.out.cells (P.length + 1) (by rw [HLN.out]; exact hk1)
              cases hgx
              have HP5 := Lib.hid (HPI.out.agr (hc5.agr (by omega) (fun k h1 h2 h3 => by omega)))
              have HR5 := Lib.hid hr5
              have HC5 := Lib.hid (HCI.out.trans hc5)
              have hz5' : wi.heap.size ≤ w5.heap.size := by omega
              clear hr5 hc5 hz5
              go_upto_if 54 with (fail)
              go_cut [] from 54 to 62 (fun wc => ∃ Q : List Int, Q.length = N ∧ OwI wc 3 wk.heap.size (wk.heap.size + 1) (some ⟨wk.heap.size, 0, none⟩) N Q ∧ OwII wc 3 35 w.heap.size wk.heap.size a c P ∧ Rdr wc rb 78 l (p2 + 1) ∧ Chg (· = rb) w wc ∧ wk.heap.size + 1 ≤ wc.heap.size)
              case first =>
                by_cases hv : 0 < v5
                · go_wp2_with fail
                  go_meet
                  case rel =>
                    refine ⟨L.set (P.length + 1) 1, by rw [List.length_set]; exact HLN.out, HL5.out.setAt _ (by rw [HLN.out]; exact hk1) _, HP5.out.agr ((Agr.refl _ _ _).set (by omega) _), HR5.out.agr ((Agr.refl _ _ _).set (by omega) _), HC5.out.set (.inr (by omega)) _, by simp; omega⟩
                · go_wp2_with fail
                  go_meet
                  case rel => exact ⟨L, HLN.out, HL5.out, HP5.out, HR5.out, HC5.out, by omega⟩
              case rest =>
                obtain ⟨Q, hQn, hlq, hpq, hrq, hcq, hzq⟩ := hcut
                have HQN := Lib.hid hQn
                have HLQ := Lib.hid hlq
                have HPQ := Lib.hid hpq
                have HRQ := Lib.hid hrq
                have HCQ := Lib.hid hcq
                obtain ⟨wq, rfl⟩ : ∃ wq : World, wq = wc := ⟨_, rfl⟩
                obtain ⟨pq, hpq⟩ : ∃ pq, pq = p2 + 1 := ⟨_, rfl⟩
                have hpq1 : pq ≤ p2 + 1 := by omega
                have hpq0 : p' ≤ pq := by omega
                rw [← hpq] at HRQ
                clear hd5 hfz5
                clear hQn hlq hpq hrq hcq HL5 HP5 HR5 HC5 HLN HLI HPI HRI HCI
                have HLQ' := HLQ
                go_wp2_with (at_builtin; go_loud (refine wpList_appII Tryz.underlying22 Tryz.infoRow _ rfl _ _ rfl w.heap.size wk.heap.size a c P rfl (HPQ.out.agr ((Agr.refl _ _ _).alloc (by omega) _)) (by simp; omega) (by simp; omega) ⟨wq.heap.size, 0, none⟩ (some ⟨wk.heap.size, 0, none⟩) N Q rfl (by rw [HQN.out]; exact new_cellE _ _ _ rfl) wk.heap.size (wk.heap.size + 1) (HLQ.out.agr ((Agr.refl _ _ _).alloc (by omega) _)) (Nat.le_refl _) (by omega) (by simp; omega) (by omega) ?_); intro a1 c1 w6 hown hgrow hat)
                have HO6 := Lib.hid hown
                have HC6 := Lib.hid ((HCQ.out.alloc (.cells #[.slice (some ⟨wk.heap.size, 0, none⟩) N N] 35)).grown hgrow (fun k hk => .inr (HPQ.out.block_in hk).1))
                have HR6 := Lib.hid (HRQ.out.agr (fun k h1 h2 => ((hgrow.block k (by simp; omega) (fun e => by have := HPQ.out.block_in e.symm; omega)).trans (Below.heap_alloc _ _ _ (by omega)))))
                clear hown hgrow hat
                go_wp2_with fail
                go_roundw
                case rel =>
                  have hl : (P ++ [Q]).length = P.length + 1 := by simp
                  have hx : ∀ x ∈ P ++ [Q], x.length = N := fun x hx => by
                    rcases List.mem_append.1 hx with h | h
                    · exact HPN.out x h
                    · simp at h; subst h; exact HQN.out
                  have e1 : (P ++ [Q]).length ≤ N := by omega
                  have e2 : p ≤ pq := by omega
                  have e3 : pq + 6 * (N - (P ++ [Q]).length) ≤ p + 2 + 6 * N := by omega
                  have e4 : Value.int .i64 ((P.length : Int) + 1) = .int .i64 ((P ++ [Q]).length : Int) := int_eq (by omega)
                  first
                    | exact ⟨P ++ [Q], a1, c1, pq, e4, by rw [hl], e1, hx, HO6.out, e2, e3, HR6.out, HC6.out⟩
                    | ((repeat apply Exists.intro); exact ⟨⟨P ++ [Q], a1, c1, pq, e4, by rw [hl], e1, hx, HO6.out, e2, e3, HR6.out, HC6.out⟩, rfl⟩)
                case measure => simp [intOf]; omega
            · have hk1i : ¬ ((P.length : Int) + 1 < (N : Int)) := by omega
              obtain ⟨wq, rfl⟩ : ∃ wq : World, wq = wi := ⟨_, rfl⟩
              obtain ⟨Q, rfl⟩ : ∃ Q : List Int, Q = L := ⟨_, rfl⟩
              obtain ⟨pq, rfl⟩ : ∃ pq : Nat, pq = p2 := ⟨_, rfl⟩
              have HQN := HLN
              have HLQ := HLI
              have HPQ := HPI
              have HRQ := HRI
              have HCQ := HCI
              have hzq := hzi
              have HLQ' := HLQ
              go_wp2_with (at_builtin; go_loud (refine wpList_appII Tryz.underlying22 Tryz.infoRow _ rfl _ _ rfl w.heap.size wk.heap.size a c P rfl (HPQ.out.agr ((Agr.refl _ _ _).alloc (by omega) _)) (by simp; omega) (by simp; omega) ⟨wq.heap.size, 0, none⟩ (some ⟨wk.heap.size, 0, none⟩) N Q rfl (by rw [HQN.out]; exact new_cellE _ _ _ rfl) wk.heap.size (wk.heap.size + 1) (HLQ.out.agr ((Agr.refl _ _ _).alloc (by omega) _)) (Nat.le_refl _) (by omega) (by simp; omega) (by omega) ?_); intro a1 c1 w6 hown hgrow hat)
              have HO6 := Lib.hid hown
              have HC6 := Lib.hid ((HCQ.out.alloc (.cells #[.slice (some ⟨wk.heap.size, 0, none⟩) N N] 35)).grown hgrow (fun k hk => .inr (HPQ.out.block_in hk).1))
              have HR6 := Lib.hid (HRQ.out.agr (fun k h1 h2 => ((hgrow.block k (by simp; omega) (fun e => by have := HPQ.out.block_in e.symm; omega)).trans (Below.heap_alloc _ _ _ (by omega)))))
              clear hown hgrow hat
              go_wp2_with fail
              go_roundw
              case rel =>
                have hl : (P ++ [Q]).length = P.length + 1 := by simp
                have hx : ∀ x ∈ P ++ [Q], x.length = N := fun x hx => by
                  rcases List.mem_append.1 hx with h | h
                  · exact HPN.out x h
                  · simp at h; subst h; exact HQN.out
                have e1 : (P ++ [Q]).length ≤ N := by omega
                have e2 : p ≤ pq := by omega
                have e3 : pq + 6 * (N - (P ++ [Q]).length) ≤ p + 2 + 6 * N := by omega
                have e4 : Value.int .i64 ((P.length : Int) + 1) = .int .i64 ((P ++ [Q]).length : Int) := int_eq (by omega)
                first
                  | exact ⟨P ++ [Q], a1, c1, pq, e4, by rw [hl], e1, hx, HO6.out, e2, e3, HR6.out, HC6.out⟩
                  | ((repeat apply Exists.intro); exact ⟨⟨P ++ [Q], a1, c1, pq, e4, by rw [hl], e1, hx, HO6.out, e2, e3, HR6.out, HC6.out⟩, rfl⟩)
              case measure => simp [intOf]; omega
      · have hPN : P.length = N := by omega
        have HPNL := Lib.hid hPN
        have h6 : Hid (∀ x ∈ P, x.length ≤ 6) := Lib.hid fun x hx => by rw [HPN.out x hx]; omega
        have hP1 : 1 ≤ P.length := by omega
        clear hPN
        go_wp2_with fail
        refine (odd_rdr rb l p' n wr HR'.out (by omega) hn).mono ?_
        rintro e w5 ⟨bb, rfl, p5, hp5, hp6, hr5, hc5⟩
        have HO5 := Lib.hid (HO.out.agr (hc5.agr (Nat.le_refl _) (fun k h1 h2 h3 => by omega)))
        have HR5 := Lib.hid hr5
        have HC5 := Lib.hid (HC'.out.trans hc5)
        have hz5 : wr.heap.size ≤ w5.heap.size := hc5.size
        clear hr5 hc5 HO HR' HC'
        cases bb
        · go_wp2_with fail
          go_ret
          exact DrewP.of (HO5.out.mono (Nat.le_refl _) hz5) (by omega) h6.out (by omega) (by omega) HR5.out HC5.out
        · go_wp2_with fail
          refine (pick_rdr rb l p5 3 w5 HR5.out (by omega) (by omega)).mono ?_
          rintro e w6 ⟨v6, rfl, v60, v61, hr6, hc6, hz6⟩
          have HO6 := Lib.hid (HO5.out.agr (hc6.agr hz5 (fun k h1 h2 h3 => by omega)))
          have HR6 := Lib.hid hr6
          have HC6 := Lib.hid (HC5.out.trans hc6)
          have hz6' : wr.heap.size ≤ w6.heap.size := by omega
          clear hr6 hc6 hz6 HO5 HR5 HC5
          obtain rfl | rfl | rfl : v6 = 0 ∨ v6 = 1 ∨ v6 = 2 := by omega
          · go_wp2_with fail
            go_ret
            have hE : OwII (w6.alloc (.cells #[] 35)) 3 35 w.heap.size (w6.alloc (.cells #[] 35)).heap.size (some ⟨w6.heap.size, 0, none⟩) 0 [] := (OwII_empty w6 3 35).mono (by omega) (by simp)
            exact DrewP.of hE (Nat.zero_le _) (fun x hx => by simp at hx) (by omega) (by omega) (HR6.out.below (below_alloc _ _) (by omega)) (HC6.out.alloc _)
          · have hrl : (P.getD 0 []).length = N := by
              have : P.getD 0 [] = P[0] := by simp [List.getD, show 0 < P.length by omega]
              rw [this]; exact HPN.out _ (List.getElem_mem _)
            obtain ⟨g, f, ci, ea, hg1, _, hgl, hh, hf1, _, hfl, hd6, hfz6, hgf, hput⟩ := HO6.out.at2 0 0 (by omega) (by omega)
            rw [hrl] at hh
            have HPUT := Lib.hid (hput 2)
            have hN0i : (0 : Int) < (N : Int) := by omega
            have hP0i : (0 : Int) < (P.length : Int) := by omega
            subst ea
            clear hput hrl
            go_wp2_with fail
            go_ret
            have hlen : (P.set 0 ((P.getD 0 []).set 0 2)).length = P.length := by simp
            rw [← hlen]
            refine DrewP.of (p' := p5 + 1) (HPUT.out.mono (Nat.le_refl _) (by simpa using hz6')) (by rw [hlen]; omega) (fun x hx => ?_) (by omega) (by omega) (HR6.out.agr ((Agr.refl _ _ _).set (by omega) _)) (HC6.out.set (.inr (by omega)) _)
            rcases List.mem_or_eq_of_mem_set hx with h | h
            · exact h6.out x h
            · subst h; rw [List.length_set]
              have : P.getD 0 [] = P[0] := by simp [List.getD, show 0 < P.length by omega]
              rw [this]; exact h6.out _ (List.getElem_mem _)
          · obtain ⟨g, ar, cr, ea, hg1, hgl, hh, hfz, hrow, hne, hnew⟩ := HO6.out.rowGrow (by omega) hz6'
            obtain ⟨row, hrw⟩ : ∃ row, row = P.getD 0 [] := ⟨_, rfl⟩
            rw [← hrw] at hh hrow
            have hrl : row.length = N := by
              have : P.getD 0 [] = P[0] := by simp [List.getD, show 0 < P.length by omega]
              rw [hrw, this]; exact HPN.out _ (List.getElem_mem _)
            rw [hrl] at hh
            have HROW := Lib.hid hrow
            have HNEW := Lib.hid hnew
            have HRL := Lib.hid hrl
            have hP0i : (0 : Int) < (P.length : Int) := by omega
            subst ea
            clear hrow hnew hrl hrw
            go_wp2_with (at_builtin; go_loud (refine wpList_appI Tryz.underlying35 Tryz.infoInt _ rfl _ _ rfl w.heap.size wr.heap.size ar cr row (by rw [HRL.out]; rfl) (HROW.out.agr ((Agr.refl _ _ _).alloc hz6' _)) (by simp; omega) ⟨w6.heap.size, 0, none⟩ 0 rfl (new_cellE _ _ _ rfl) (by rw [HRL.out]; omega) ?_); intro gn c1 w7 hown hgrow hat hgn; (have hk7 : ∀ k, k < w6.heap.size → blockOf ar ≠ some k → w7.heap[k]? = w6.heap[k]? := fun k hk hn => (hgrow.block k (by simp; omega) (fun e => hn e.symm)).trans (Below.heap_alloc _ _ _ hk)); (have hz7 : w6.heap.size ≤ w7.heap.size := by have := hgrow.size; simp at this; omega); (have hh7 : w7.cell? ⟨g, 0, none⟩ = some (.slice ar N cr) := by rw [World.cell?_of_block (w := w6) (hk7 g hgl hne)]; exact hh); (have hfz7 : w7.frozen? ⟨g, 0, none⟩ = false := by rw [frozen_of_block (hk7 g hgl hne)]; exact hfz); (have hg7 : g < w7.heap.size := by omega))
            have HRD := Lib.hid (HNEW.out w7 (some ⟨gn, 0, none⟩) c1 (row ++ [0]) hown hz7 hk7 (fun k hk => by
              simp [blockOf] at hk; subst hk
              rcases hat with e | e
              · exact .inl e
              · right; simp at e; omega))
            have HC7 := Lib.hid ((HC6.out.alloc (.cells #[.int .i64 0] 3)).grown hgrow (fun k hk => .inr (HROW.out.block_in hk).1))
            have HR7 := Lib.hid (HR6.out.agr (fun k h1 h2 => ((hgrow.block k (by simp; omega) (fun e => by have := HROW.out.block_in e.symm; omega)).trans (Below.heap_alloc _ _ _ (by omega)))))
            have hrl2 : (row ++ [0]).length = N + 1 := by rw [List.length_append, HRL.out]; rfl
            have HRL2 := Lib.hid hrl2
            have hrl3 : (row ++ [(0 : Int)]).length = row.length + 1 := by simp
            rw [hrl3] at HRD
            clear hrl3
            clear hown hgrow hat hk7 hrl2
            go_wp2_with fail
            go_ret
            have hlen : (P.set 0 (row ++ [0])).length = P.length := by simp
            refine ⟨some ⟨g, 0, none⟩, c, P.set 0 (row ++ [0]), by rw [hlen]; rfl, by simpa using HRD.out, fun hpic => ?_, by omega, fun x hx => ?_, ⟨p5 + 1, by omega, by omega, HR7.out.agr ((Agr.refl _ _ _).set (by omega) _)⟩, HC7.out.set (.inr (by omega)) _⟩
            · obtain ⟨sq, _, _⟩ := picB_sq hpic
              have hs := (sq.row 0 (by rw [hlen]; omega)).1
              rw [List.getElem_set_self, hlen, HRL2.out, HPNL.out] at hs
              omega
            · rcases List.mem_or_eq_of_mem_set hx with h | h
              · exact h6.out x h
              · subst h; rw [HRL2.out]; omega

set_option maxHeartbeats 1000000 in
theorem l20Twin_any (rb : Nat) (l : List Int) (p n : Nat) (w : World) (hr : Rdr w rb 78 l p) (hp : p ≤ 500000) (hn : n ≤ 1048576) :
    Calls Tryz.prog 119 #[.pointer (some ⟨rb, 0, none⟩), .int .i64 n] w (DrewP 3 35 78 rb l p 50 w) := by
  have hlt := hr.lt
  have HR := Lib.hid hr
  clear hr
  go_enter Tryz.func119, Tryz.ntmps119
  go_wp2_with fail
  refine (l20Picture_any rb l p n w HR.out (by omega) hn).mono ?_
  rintro e w1 ⟨a, c, P, rfl, hrd, how, h5, h6, ⟨p1, hp1, hp1', hr1⟩, hc1⟩
  have HRD := Lib.hid hrd
  have HOW := Lib.hid how
  have H6 := Lib.hid h6
  have HR1 := Lib.hid hr1
  have HC1 := Lib.hid hc1
  have hz1 : w.heap.size ≤ w1.heap.size := hc1.size
  have hm : Hid (P.length ≤ maxLen) := Lib.hid (by unfold maxLen; omega)
  clear hrd how h6 hr1 hc1 HR
  cases hpic : picB P
  · have HP := Lib.hid hpic
    clear hpic
    go_wp2_with (go_at_call 79; refine (specPictureOk_any _ _ _ _ _ _ HRD.out hm.out).mono ?_; rintro e w' ⟨rfl, rfl⟩; rw [HP.out])
    go_ret
    exact ⟨a, c, P, rfl, HRD.out, HOW.out, h5, H6.out, ⟨p1, hp1, by omega, HR1.out⟩, HC1.out⟩
  · have HP := Lib.hid hpic
    have HO := Lib.hid (HOW.out hpic)
    obtain ⟨sq, s1, s5⟩ := picB_sq hpic
    have HSR : Hid (∀ x ∈ P, x.length = P.length) := Lib.hid fun x hx => by
      obtain ⟨i, hi, rfl⟩ := List.getElem_of_mem hx
      exact (sq.row i hi).1
    clear hpic HOW sq
    by_cases hl1 : 1 < P.length
    · have hl1i : (1 : Int) < (P.length : Int) := by omega
      go_wp2_with fail
      refine (specPictureOk_any _ _ _ _ _ _ HRD.out hm.out).mono ?_
      rintro e w' ⟨rfl, rfl⟩
      rw [HP.out]
      go_wp2_with fail
      refine (pick_rdr rb l p1 2 w1 HR1.out (by omega) (by omega)).mono ?_
      rintro e w2 ⟨v, rfl, v0, v1, hr2, hc2, hz2⟩
      have HO2 := Lib.hid (HO.out.agr (hc2.agr (Nat.le_refl _) (fun k h1 h2 h3 => by omega)))
      have HR2 := Lib.hid hr2
      have HC2 := Lib.hid (HC1.out.trans hc2)
      have hz2' : w1.heap.size ≤ w2.heap.size := by omega
      clear hr2 hc2 hz2 HO HR1 HC1
      obtain rfl | rfl : v = 0 ∨ v = 1 := by omega
      · go_wp2_with fail
        refine (pick_rdr rb l (p1 + 1) P.length w2 HR2.out (by omega) (by omega)).mono ?_
        rintro e w3 ⟨v3, rfl, v30, v31, hr3, hc3, hz3⟩
        obtain ⟨x, rfl⟩ := Int.eq_ofNat_of_zero_le v30
        have hx : x < P.length := by omega
        have HO3 := Lib.hid (HO2.out.agr (hc3.agr hz2' (fun k h1 h2 h3 => by omega)))
        have HR3 := Lib.hid hr3
        have HC3 := Lib.hid (HC2.out.trans hc3)
        have hz3' : w1.heap.size ≤ w3.heap.size := by omega
        clear hr3 hc3 hz3 HO2 HR2 HC2 v31
        go_wp2_with fail
        refine (pick_rdr rb l (p1 + 1 + 1) P.length w3 HR3.out (by omega) (by omega)).mono ?_
        rintro e w4 ⟨v4, rfl, v40, v41, hr4, hc4, hz4⟩
        obtain ⟨y, rfl⟩ := Int.eq_ofNat_of_zero_le v40
        have hy : y < P.length := by omega
        have HO4 := Lib.hid (HO3.out.agr (hc4.agr hz3' (fun k h1 h2 h3 => by omega)))
        have HR4 := Lib.hid hr4
        have HC4 := Lib.hid (HC3.out.trans hc4)
        have hz4' : w1.heap.size ≤ w4.heap.size := by omega
        have hxi : (x : Int) < (P.length : Int) := by omega
        have hyi : (y : Int) < (P.length : Int) := by omega
        clear hr4 hc4 hz4 HO3 HR3 HC3 v41
        go_wp2_with fail
        go_loopw [8] (fun i wr => ∃ (j : Nat) (M : List (List Int)), j ≤ P.length ∧ i = .int .i64 j ∧ M.length = P.length ∧ (∀ x ∈ M, x.length = P.length) ∧ OwII wr 3 35 w.heap.size w1.heap.size a c M ∧ Rdr wr rb 78 l (p1 + 1 + 1 + 1) ∧ Chg (· = rb) w wr ∧ w1.heap.size ≤ wr.heap.size) (fun i _ => P.length - (intOf i).toNat)
        case atStart => exact ⟨0, P, Nat.zero_le _, rfl, rfl, HSR.out, HO4.out, HR4.out, HC4.out, hz4'⟩
        case round =>
          obtain ⟨j, M, hj, rfl, hMl, hMr, ho, hr, hc, hz⟩ := hrel
          have HML := Lib.hid hMl
          have HMR := Lib.hid hMr
          have HOM := Lib.hid ho
          have HRM := Lib.hid hr
          have HCM := Lib.hid hc
          clear hMl hMr ho hr hc HO4 HR4 HC4
          by_cases hlt' : j < P.length
          · have key : ∀ i, i < P.length → (M.getD i []).length = P.length := fun i hi => by
              have e : M.getD i [] = M[i]'(by rw [HML.out]; exact hi) := by simp [List.getD, show i < M.length by rw [HML.out]; exact hi]
              rw [e]; exact HMR.out _ (List.getElem_mem _)
            obtain ⟨g, f, ci, ea, hg1, hg2, hgl, hh, hf1, hf2, hfl, hd, hfz, hgf, hput⟩ := HOM.out.at2 y j (by rw [HML.out]; exact hy) (by rw [key y hy]; exact hlt')
            obtain ⟨g', f', ci', ea', _, _, _, hh', _, _, hfl', hd', _, _, _⟩ := HOM.out.at2 x j (by rw [HML.out]; exact hx) (by rw [key x hx]; exact hlt')
            rw [ea] at ea'
            cases ea'
            rw [key y hy] at hh
            rw [key x hx] at hh'
            generalize hvx : (M.getD x []).getD j 0 = vx at hd'
            generalize hvy : (M.getD y []).getD j 0 = vy at hd
            have HPUT := Lib.hid (hput vx)
            have HKY := Lib.hid (key y hy)
            have hji : (j : Int) < (P.length : Int) := by omega
            subst ea
            clear hput key hvx hvy
            go_wp2_with fail
            go_region
            all_goals
              go_wp2_with fail
              go_roundw
              case rel =>
                refine ⟨j + 1, M.set y ((M.getD y []).set j vx), by omega, by go_num, by rw [List.length_set]; exact HML.out, fun z hz => ?_, by exact HPUT.out, by exact HRM.out.agr ((Agr.refl _ _ _).set (by omega) _), (HCM.out.set (.inr (by omega)) _).drew, by simpa using hz⟩
                rcases List.mem_or_eq_of_mem_set hz with h | h
                · exact HMR.out z h
                · subst h; rw [List.length_set]; exact HKY.out
              case measure => simp [intOf]; omega
          · obtain rfl : j = P.length := by omega
            go_wp2_with fail
            go_ret
            have hd := DrewP.of (K := 50) (HOM.out.mono (Nat.le_refl _) hz) (by rw [HML.out]; omega) (fun x hx => by rw [HMR.out x hx]; omega) (show p ≤ p1 + 1 + 1 + 1 by omega) (by omega) HRM.out HCM.out
            rw [HML.out] at hd
            exact hd
      · go_wp2_with fail
        go_ret
        exact DrewP.of (HO2.out.mono (Nat.le_refl _) hz2') h5 H6.out (show p ≤ p1 + 1 by omega) (by omega) HR2.out HC2.out
    · have hl1i : ¬ ((1 : Int) < (P.length : Int)) := by omega
      go_wp2_with (go_at_call 79; refine (specPictureOk_any _ _ _ _ _ _ HRD.out hm.out).mono ?_; rintro e w' ⟨rfl, rfl⟩; rw [HP.out])
      go_ret
      exact DrewP.of HO.out h5 H6.out hp1 (by omega) HR1.out HC1.out

end Go.Proofs.YtfjodcfbhpglhaaGreatDoor
