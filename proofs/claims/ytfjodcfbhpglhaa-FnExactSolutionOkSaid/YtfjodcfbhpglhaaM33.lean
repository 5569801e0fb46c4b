/- impl.NameIs and the reference's, walked. spec.SolutionOk, walked. -/
import Derived.Test.YtfjodcfbhpglhaaM24
import Derived.Test.YtfjodcfbhpglhaaM32
import Derived.Test.YtfjodcfbhpglhaaM3
import Derived.Test.YtfjodcfbhpglhaaM22
import Derived.Deep.QuietTactic
import Derived.BigQuiet
import Derived.Test.YtfjodcfbhpglhaaM26
import Derived.Test.YtfjodcfbhpglhaaM20
namespace Go.Hyp
theorem name_cases (s : List (List Int × Int)) (n : Int) : (sysB s = false ∧ nameR s n = []) ∨ (sysB s = true ∧ (n < 0 ∨ (0 ≤ n ∧ (s.length : Int) ≤ n)) ∧ nameR s n = []) ∨ (sysB s = true ∧ ∃ k : Nat, n = k ∧ k < s.length) := by
  cases h : sysB s
  · exact .inl ⟨rfl, nameR_no (by rw [h]; rfl)⟩
  · cases h2 : numB s n
    · exact .inr (.inl ⟨rfl, numB_no h2, nameR_no (by rw [h, h2]; rfl)⟩)
    · exact .inr (.inr ⟨rfl, numB_nat h2⟩)
end Go.Hyp
namespace Go.Proofs.Ytfjodcfbhpglhaa
open Go.RowKit Go.Hyp Go.Deep


end Go.Proofs.Ytfjodcfbhpglhaa
namespace Go.Hyp
open Go.RowKit Go.Deep
/-- Slot x of what is found tells member u. -/
def solT (names : List Int) (c : Int) (PL : List (List (List Int))) (NL : List Int) (p : List (List Int)) (x u : Nat) : Bool :=
  if x < names.length then (names.getD x 0 == 1) && sameB p u (PL.getD x []) (NL.getD x 0).toNat
  else if x = names.length then decide (c % 2 = 1) && sameB p u pic0 0 else decide (c / 2 = 1) && sameB p u pic1 0
/-- Slot x is asked for. -/
def solAsk (names : List Int) (c : Int) (x : Nat) : Bool := if x < names.length then names.getD x 0 == 1 else if x = names.length then decide (c % 2 = 1) else decide (c / 2 = 1)
theorem solT_iff {names : List Int} {c : Int} {PL : List (List (List Int))} {NL : List Int} {p : List (List Int)} {i : Nat} (hN : ∀ m, m < names.length → (NL.getD m 0).toNat < (PL.getD m []).length) :
    SolK names c PL NL p i ↔ (∀ u, Mem p i u → ∃ x, x < names.length + 2 ∧ solT names c PL NL p x u = true) ∧ ∀ x, x < names.length + 2 → solAsk names c x = true → ∃ u, Mem p i u ∧ solT names c PL NL p x u = true := by
  have k0 : ∀ u, u < p.length → (sameB p u pic0 0 = true ↔ Same p u pic0 0) := fun u hu => sameB_iff hu (by decide)
  have k1 : ∀ u, u < p.length → (sameB p u pic1 0 = true ↔ Same p u pic1 0) := fun u hu => sameB_iff hu (by decide)
  have km : ∀ u m, u < p.length → m < names.length → (sameB p u (PL.getD m []) (NL.getD m 0).toNat = true ↔ Same p u (PL.getD m []) (NL.getD m 0).toNat) := fun u m hu hm => sameB_iff hu (hN m hm)
  have t1 : ∀ m u, m < names.length → solT names c PL NL p m u = ((names.getD m 0 == 1) && sameB p u (PL.getD m []) (NL.getD m 0).toNat) := fun m u hm => by unfold solT; rw [if_pos hm]
  have t2 : ∀ u, solT names c PL NL p names.length u = (decide (c % 2 = 1) && sameB p u pic0 0) := fun u => by unfold solT; rw [if_neg (Nat.lt_irrefl _), if_pos rfl]
  have t3 : ∀ u, solT names c PL NL p (names.length + 1) u = (decide (c / 2 = 1) && sameB p u pic1 0) := fun u => by unfold solT; rw [if_neg (by omega), if_neg (by omega)]
  have a1 : ∀ m, m < names.length → solAsk names c m = (names.getD m 0 == 1) := fun m hm => by unfold solAsk; rw [if_pos hm]
  have a2 : solAsk names c names.length = decide (c % 2 = 1) := by unfold solAsk; rw [if_neg (Nat.lt_irrefl _), if_pos rfl]
  have a3 : solAsk names c (names.length + 1) = decide (c / 2 = 1) := by unfold solAsk; rw [if_neg (by omega), if_neg (by omega)]
  unfold SolK
  constructor
  · rintro ⟨h1, h2, h3, h4⟩
    refine ⟨fun u hu => ?_, fun x hx ha => ?_⟩
    · rcases h1 u hu with ⟨m, hm, hb, hs⟩ | ⟨hc, hs⟩ | ⟨hc, hs⟩
      · exact ⟨m, by omega, by rw [t1 m u hm, hb, (km u m hu.1 hm).2 hs]; rfl⟩
      · exact ⟨names.length, by omega, by rw [t2, decide_eq_true hc, (k0 u hu.1).2 hs]; rfl⟩
      · exact ⟨names.length + 1, by omega, by rw [t3, decide_eq_true hc, (k1 u hu.1).2 hs]; rfl⟩
    · rcases (show x < names.length ∨ x = names.length ∨ x = names.length + 1 by omega) with h | rfl | rfl
      · rw [a1 x h] at ha
        obtain ⟨u, hu, hs⟩ := h2 x h ha
        exact ⟨u, hu, by rw [t1 x u h, ha, (km u x hu.1 h).2 hs]; rfl⟩
      · rw [a2, decide_eq_true_eq] at ha
        obtain ⟨u, hu, hs⟩ := h3 ha
        exact ⟨u, hu, by rw [t2, decide_eq_true ha, (k0 u hu.1).2 hs]; rfl⟩
      · rw [a3, decide_eq_true_eq] at ha
        obtain ⟨u, hu, hs⟩ := h4 ha
        exact ⟨u, hu, by rw [t3, decide_eq_true ha, (k1 u hu.1).2 hs]; rfl⟩
  · rintro ⟨h1, h2⟩
    refine ⟨fun u hu => ?_, fun m hm hb => ?_, fun hc => ?_, fun hc => ?_⟩
    · obtain ⟨x, hx, ht⟩ := h1 u hu
      rcases (show x < names.length ∨ x = names.length ∨ x = names.length + 1 by omega) with h | rfl | rfl
      · rw [t1 x u h, Bool.and_eq_true] at ht
        exact .inl ⟨x, h, ht.1, (km u x hu.1 h).1 ht.2⟩
      · rw [t2, Bool.and_eq_true, decide_eq_true_eq] at ht
        exact .inr (.inl ⟨ht.1, (k0 u hu.1).1 ht.2⟩)
      · rw [t3, Bool.and_eq_true, decide_eq_true_eq] at ht
        exact .inr (.inr ⟨ht.1, (k1 u hu.1).1 ht.2⟩)
    · obtain ⟨u, hu, ht⟩ := h2 m (by omega) (by rw [a1 m hm]; exact hb)
      rw [t1 m u hm, Bool.and_eq_true] at ht
      exact ⟨u, hu, (km u m hu.1 hm).1 ht.2⟩
    · obtain ⟨u, hu, ht⟩ := h2 names.length (by omega) (by rw [a2]; exact decide_eq_true hc)
      rw [t2, Bool.and_eq_true] at ht
      exact ⟨u, hu, (k0 u hu.1).1 ht.2⟩
    · obtain ⟨u, hu, ht⟩ := h2 (names.length + 1) (by omega) (by rw [a3]; exact decide_eq_true hc)
      rw [t3, Bool.and_eq_true] at ht
      exact ⟨u, hu, (k1 u hu.1).1 ht.2⟩
theorem sol_rows {N n : Nat} {G G1 U : Nat → Bool} (hN : N = n + 2) (hG1 : ∀ x, x < N → G1 x = (G x || (decide (x < n) && U x))) :
    (U n = false → U (n + 1) = false → rowOf N G1 = rowOf N fun x => G x || U x) ∧ (U n = true → U (n + 1) = false → (rowOf N G1).set n 1 = rowOf N fun x => G x || U x) ∧
    (U n = false → U (n + 1) = true → (rowOf N G1).set (n + 1) 1 = rowOf N fun x => G x || U x) ∧ (U n = true → U (n + 1) = true → ((rowOf N G1).set n 1).set (n + 1) 1 = rowOf N fun x => G x || U x) := by
  have s1 : ∀ (H : Nat → Bool) (k : Nat), (rowOf N H).set k 1 = rowOf N fun x => decide (x = k) || H x := fun H k => rowOf_set true (by simp) (fun y hy => by simp [hy])
  have h1 : ∀ x, x < n → G1 x = (G x || U x) := fun x hx => by rw [hG1 x (by omega), decide_eq_true hx, Bool.true_and]
  have h2 : G1 n = G n := by rw [hG1 n (by omega), decide_eq_false (by omega), Bool.false_and, Bool.or_false]
  have h3 : G1 (n + 1) = G (n + 1) := by rw [hG1 (n + 1) (by omega), decide_eq_false (by omega), Bool.false_and, Bool.or_false]
  have key : ∀ x, x < N → x < n ∨ x = n ∨ x = n + 1 := fun x hx => by omega
  refine ⟨fun a b => ?_, fun a b => ?_, fun a b => ?_, fun a b => ?_⟩
  · refine rowOf_congr fun x hx => ?_
    rcases key x hx with h | rfl | rfl
    · exact h1 x h
    · rw [h2, a, Bool.or_false]
    · rw [h3, b, Bool.or_false]
  · rw [s1]
    refine rowOf_congr fun x hx => ?_
    rcases key x hx with h | rfl | rfl
    · rw [decide_eq_false (by omega), Bool.false_or]; exact h1 x h
    · rw [a]; simp
    · rw [decide_eq_false (by omega), Bool.false_or, h3, b, Bool.or_false]
  · rw [s1]
    refine rowOf_congr fun x hx => ?_
    rcases key x hx with h | rfl | rfl
    · rw [decide_eq_false (by omega), Bool.false_or]; exact h1 x h
    · rw [decide_eq_false (by omega), Bool.false_or, h2, a, Bool.or_false]
    · rw [b]; simp
  · rw [s1, s1]
    refine rowOf_congr fun x hx => ?_
    rcases key x hx with h | rfl | rfl
    · rw [decide_eq_false (by omega), Bool.false_or, decide_eq_false (by omega), Bool.false_or]; exact h1 x h
    · rw [a]; simp
    · rw [b]; simp
/-- The pictures of the codes 0 and 1, laid one after the other. -/
theorem rd_pics (w : World) (E R : Nat) :
    RdII (((((w.alloc (.cells #[.int .i64 0] E)).alloc (.cells #[.slice (some ⟨w.heap.size, 0, none⟩) 1 1] R)).alloc (.cells #[.int .i64 0, .int .i64 1] E)).alloc (.cells #[.int .i64 0, .int .i64 0] E)).alloc (.cells #[.slice (some ⟨w.heap.size + 1 + 1, 0, none⟩) 2 2, .slice (some ⟨w.heap.size + 1 + 1 + 1, 0, none⟩) 2 2] R)) w.heap.size (w.heap.size + 5) (some ⟨w.heap.size + 1, 0, none⟩) pic0 ∧
    RdII (((((w.alloc (.cells #[.int .i64 0] E)).alloc (.cells #[.slice (some ⟨w.heap.size, 0, none⟩) 1 1] R)).alloc (.cells #[.int .i64 0, .int .i64 1] E)).alloc (.cells #[.int .i64 0, .int .i64 0] E)).alloc (.cells #[.slice (some ⟨w.heap.size + 1 + 1, 0, none⟩) 2 2, .slice (some ⟨w.heap.size + 1 + 1 + 1, 0, none⟩) 2 2] R)) w.heap.size (w.heap.size + 5) (some ⟨w.heap.size + 1 + 1 + 1 + 1, 0, none⟩) pic1 := by
  obtain ⟨W, hW⟩ : ∃ W, W = (((((w.alloc (.cells #[.int .i64 0] E)).alloc (.cells #[.slice (some ⟨w.heap.size, 0, none⟩) 1 1] R)).alloc (.cells #[.int .i64 0, .int .i64 1] E)).alloc (.cells #[.int .i64 0, .int .i64 0] E)).alloc (.cells #[.slice (some ⟨w.heap.size + 1 + 1, 0, none⟩) 2 2, .slice (some ⟨w.heap.size + 1 + 1 + 1, 0, none⟩) 2 2] R)) := ⟨_, rfl⟩
  have b0 : W.heap[w.heap.size]? = some (.cells #[.int .i64 0] E) := by rw [hW]; exact blk_old (blk_old (blk_old (blk_old (blk_new rfl))))
  have b1 : W.heap[w.heap.size + 1]? = some (.cells #[.slice (some ⟨w.heap.size, 0, none⟩) 1 1] R) := by rw [hW]; exact blk_old (blk_old (blk_old (blk_new (by simp))))
  have b2 : W.heap[w.heap.size + 1 + 1]? = some (.cells #[.int .i64 0, .int .i64 1] E) := by rw [hW]; exact blk_old (blk_old (blk_new (by simp)))
  have b3 : W.heap[w.heap.size + 1 + 1 + 1]? = some (.cells #[.int .i64 0, .int .i64 0] E) := by rw [hW]; exact blk_old (blk_new (by simp))
  have b4 : W.heap[w.heap.size + 1 + 1 + 1 + 1]? = some (.cells #[.slice (some ⟨w.heap.size + 1 + 1, 0, none⟩) 2 2, .slice (some ⟨w.heap.size + 1 + 1 + 1, 0, none⟩) 2 2] R) := by rw [hW]; exact blk_new (by simp)
  rw [← hW]
  have hm : (2 : Nat) ≤ maxLen := by unfold maxLen; omega
  constructor
  · intro k hk
    obtain rfl : k = 0 := by simp [pic0] at hk; omega
    refine ⟨w.heap.size + 1, 0, some ⟨w.heap.size, 0, none⟩, 1, rfl, by omega, by omega, (blk1 b1).1, ?_, by simp [pic0, List.getD]; omega⟩
    intro j hj
    obtain rfl : j = 0 := by simp [pic0, List.getD] at hj; omega
    exact ⟨w.heap.size, 0, rfl, by omega, by omega, (blk1 b0).1⟩
  · obtain ⟨q0, q1, _, _⟩ := blk2 b4
    obtain ⟨r0, r1, _, _⟩ := blk2 b2
    obtain ⟨s0, s1, _, _⟩ := blk2 b3
    intro k hk
    have hk2 : k = 0 ∨ k = 1 := by simp [pic1] at hk; omega
    rcases hk2 with rfl | rfl
    · refine ⟨w.heap.size + 1 + 1 + 1 + 1, 0, some ⟨w.heap.size + 1 + 1, 0, none⟩, 2, rfl, by omega, by omega, q0, ?_, by simpa [pic1, List.getD] using hm⟩
      intro j hj
      have hj2 : j = 0 ∨ j = 1 := by simp [pic1, List.getD] at hj; omega
      rcases hj2 with rfl | rfl
      · exact ⟨_, 0, rfl, by omega, by omega, r0⟩
      · exact ⟨_, 0, rfl, by omega, by omega, r1⟩
    · refine ⟨w.heap.size + 1 + 1 + 1 + 1, 0, some ⟨w.heap.size + 1 + 1 + 1, 0, none⟩, 2, rfl, by omega, by omega, q1, ?_, by simpa [pic1, List.getD] using hm⟩
      intro j hj
      have hj2 : j = 0 ∨ j = 1 := by simp [pic1, List.getD] at hj; omega
      rcases hj2 with rfl | rfl
      · exact ⟨_, 0, rfl, by omega, by omega, s0⟩
      · exact ⟨_, 0, rfl, by omega, by omega, s1⟩
end Go.Hyp
namespace Go.Proofs.Ytfjodcfbhpglhaa
open Go.RowKit Go.Hyp Go.Deep
set_option maxRecDepth 4000 in
set_option maxHeartbeats 8000000 in
theorem specSolutionOk_any (a : Option Addr) (cap : Nat) (s : List (List Int × Int)) (a1 : Option Addr) (c1 : Nat) (PL : List (List (List Int))) (a2 : Option Addr) (c2 : Nat) (NL : List Int) (w : World) (B C B1 C1 B2 C2 : Nat)
    (h : RdY w B C a s) (hC : C ≤ w.heap.size) (hl : s.length ≤ maxLen) (h1 : RdIII w B1 C1 a1 PL) (hC1 : C1 ≤ w.heap.size) (hl1 : PL.length ≤ maxLen) (h2 : RdI w B2 C2 a2 NL) (hC2 : C2 ≤ w.heap.size) (hl2 : NL.length ≤ maxLen) :
    Calls Try.prog 7 #[.slice a s.length cap, .slice a1 PL.length c1, .slice a2 NL.length c2] w fun e w' => e = .returned (.bool (solB s PL NL)) ∧ Below w.heap.size w w' := by
  have F := Lib.hid h
  have F1 := Lib.hid h1
  have F2 := Lib.hid h2
  have HIS := Lib.hid (specSystemOk_any a cap s w B C h hl)
  unfold maxLen at hl hl1 hl2
  clear h h1 h2
  cases hs : sysB s
  · have HS := Lib.hid hs
    have HE := Lib.hid (solB_no (PL := PL) (NL := NL) (.inl hs))
    clear hs
    go_enter Try.func7, Try.ntmps7
    go_wp2_with fail
    refine HIS.out.mono ?_
    rintro e w' ⟨rfl, rfl⟩
    rw [HS.out]
    go_wp2_with fail
    go_ret
    exact ⟨ret_bool HE.out.symm, Below.refl _ _⟩
  by_cases hp : PL.length = s.length
  · by_cases hn : NL.length = s.length
    · have HS := Lib.hid hs
      have HPE := Lib.hid hp
      have HNE := Lib.hid hn
      have hq1 : (((PL.length : Nat) : Int) != ((s.length : Nat) : Int)) = false := by simp [hp]
      have hq2 : (((NL.length : Nat) : Int) != ((s.length : Nat) : Int)) = false := by simp [hn]
      have hp1 : PL.length ≤ s.length := by omega
      have hp2 : s.length ≤ PL.length := by omega
      have hn1 : NL.length ≤ s.length := by omega
      have hn2 : s.length ≤ NL.length := by omega
      obtain ⟨⟨_, hs3⟩, hsat⟩ := sysB_at hs
      have HAT := Lib.hid hsat
      clear hs hp hn hsat
      go_enter Try.func7, Try.ntmps7
      go_wp2_with fail
      refine HIS.out.mono ?_
      rintro e w' ⟨rfl, rfl⟩
      rw [HS.out]
      clear HIS
      go_wp2_with fail
      clear hq1 hq2
      go_loopw [7] (fun kv wr => ∃ k : Nat, k ≤ s.length ∧ kv = .int .i64 k ∧ (∀ m, m < k → nodeB (PL.getD m []) (NL.getD m 0) = true) ∧ Qt w wr) (fun kv _ => s.length - (intOf kv).toNat)
      case atStart => exact ⟨0, Nat.zero_le _, rfl, fun m hm => absurd hm (Nat.not_lt_zero _), Qt.refl _⟩
      case round =>
        obtain ⟨k, hk, rfl, hno, hqt⟩ := hrel
        have HQT := Lib.hid hqt
        have HNO := Lib.hid hno
        have hzr : w.heap.size ≤ wr.heap.size := (hqt.below (B := w.heap.size)).size
        clear hqt hno
        obtain ⟨wo, hwo⟩ : ∃ v : World, v = wr := ⟨_, rfl⟩
        subst hwo
        by_cases hlt : k < s.length
        · obtain ⟨b1, off1, aq, cq, e1, _, hb1, hcq, hrq, hlq⟩ := (F1.out.agr HQT.out.agr) k (by omega)
          subst e1
          obtain ⟨b2, off2, e2, _, hb2, hd2⟩ := (F2.out.agr HQT.out.agr).at k (by omega)
          subst e2
          have hki : (k : Int) < (PL.length : Int) := by omega
          have hkn : (k : Int) < (NL.length : Int) := by omega
          have hks : (k : Int) < (s.length : Int) := by omega
          obtain ⟨v, hv⟩ : ∃ v, v = NL[k]'(by omega) := ⟨_, rfl⟩
          rw [← hv] at hd2
          have hv2 : NL.getD k 0 = v := by rw [hv]; exact getD_lt (by omega)
          have hno1 := fun h => solB_no1 (s := s) (PL := PL) (NL := NL) (k := k) (by omega) h
          obtain ⟨q, hq0⟩ : ∃ q, q = PL.getD k [] := ⟨_, rfl⟩
          rw [← hq0, hv2] at hno1
          rw [← hq0] at hcq hrq hlq
          have HRQ := Lib.hid hrq
          have HNO1 := Lib.hid hno1
          have HQ0 := Lib.hid hq0
          have HV2 := Lib.hid hv2
          have HPO : Hid (∀ n, Calls Try.prog 25 #[.slice aq q.length cq] (wo.drewN n) fun e w' => e = .returned (.bool (picB q)) ∧ Qt (wo.drewN n) w') := Lib.hid fun n => (specPictureOk_any aq cq q (wo.drewN n) B1 C1 (HRQ.out.agr ((Qt.refl _).n n).agr) hlq).mono fun e w' h => ⟨h.1, by rw [← h.2]; exact Qt.refl _⟩
          have HLI : Hid (∀ n, Calls Try.prog 26 #[.int .i64 v, .int .i64 0, .int .i64 ((q.length : Int) - 1)] (wo.drewN n) fun e w' => e = .returned (.bool (decide (0 ≤ v) && decide (v ≤ (q.length : Int) - 1))) ∧ Qt (wo.drewN n) w') := Lib.hid fun n => (l1In_any v 0 ((q.length : Int) - 1) (wo.drewN n)).mono fun e w' h => ⟨h.1, by rw [← h.2]; exact Qt.refl _⟩
          clear hv hv2 hrq hno1 hq0
          cases hpic : picB q
          · have HE := Lib.hid (HNO1.out (by unfold nodeB; rw [hpic]; rfl))
            have HPIC := Lib.hid hpic
            rw [hpic] at HPO
            clear hpic
            go_wp2_with fail
            go_quiet ((go_at_call 25; exact quietQ (HPO.out _)))
            go_wp2_with fail
            go_ret
            exact ⟨ret_bool HE.out.symm, (HQT.out.n _).below⟩
          · obtain ⟨bb, hbb⟩ : ∃ bb, bb = (decide (0 ≤ v) && decide (v ≤ (q.length : Int) - 1)) := ⟨_, rfl⟩
            have hnb : nodeB q v = bb := by
              rw [hbb]
              unfold nodeB
              rw [hpic, Bool.true_and]
              congr 1
              exact decide_eq_decide.2 (by omega)
            rw [hpic] at HPO
            rw [← hbb] at HLI
            have hqs := (picB_sq hpic).2
            have hq64 : (q.length : Int) ≤ 5 := by omega
            have hq0i : (0 : Int) ≤ (q.length : Int) := by omega
            cases bb
            · have HE := Lib.hid (HNO1.out hnb)
              clear hpic hbb hnb
              go_wp2_with fail
              go_quiet (first | (go_at_call 25; exact quietQ (HPO.out _)) | (go_at_call 26; exact quietQ (HLI.out _)))
              go_wp2_with fail
              go_ret
              exact ⟨ret_bool HE.out.symm, (HQT.out.n _).below⟩
            · have HNB := Lib.hid hnb
              clear hpic hbb hnb
              go_wp2_with fail
              go_quiet (first | (go_at_call 25; exact quietQ (HPO.out _)) | (go_at_call 26; exact quietQ (HLI.out _)))
              go_wp2_with fail
              go_roundw
              case rel => exact ⟨k + 1, by omega, by go_num, fun m hm => by
                by_cases e : m = k
                · subst e; rw [← HQ0.out, HV2.out]; exact HNB.out
                · exact HNO.out m (by omega), HQT.out.n _⟩
              case measure => simp [intOf]; omega
        · obtain rfl : k = s.length := by omega
          have hpx := rd_pics wo 3 24
          go_wp2_with fail
          obtain ⟨W, hW⟩ : ∃ W, W = (((((wo.alloc (.cells #[.int .i64 0] 3)).alloc (.cells #[.slice (some ⟨wo.heap.size, 0, none⟩) 1 1] 24)).alloc (.cells #[.int .i64 0, .int .i64 1] 3)).alloc (.cells #[.int .i64 0, .int .i64 0] 3)).alloc (.cells #[.slice (some ⟨wo.heap.size + 1 + 1, 0, none⟩) 2 2, .slice (some ⟨wo.heap.size + 1 + 1 + 1, 0, none⟩) 2 2] 24)) := ⟨_, rfl⟩
          rw [← hW] at hpx ⊢
          have hbW : Below wo.heap.size wo W := by rw [hW]; exact ((((below_alloc wo _).alloc (by simp) _).alloc (by first | omega | (simp; omega)) _).alloc (by first | omega | (simp; omega)) _).alloc (by first | omega | (simp; omega)) _
          have hzW : W.heap.size = wo.heap.size + 5 := by rw [hW]; simp
          have HPX0 := Lib.hid hpx.1
          have HPX1 := Lib.hid hpx.2
          have HBW := Lib.hid ((HQT.out.below (B := w.heap.size)).trans (hbW.mono hzr))
          have hzW1 : wo.heap.size + 5 ≤ W.heap.size := by omega
          have HNODE := HNO
          clear hpx hW hbW hzW HNO HQT
          go_loopw [10] (fun kv wr => ∃ k : Nat, k ≤ s.length ∧ kv = .int .i64 k ∧ (∀ m, m < k → ∀ hm : m < s.length, SolK s[m].1 s[m].2 PL NL (PL.getD m []) (NL.getD m 0).toNat) ∧ Below W.heap.size W wr) (fun kv _ => s.length - (intOf kv).toNat)
          case atStart => exact ⟨0, Nat.zero_le _, rfl, fun m hm => absurd hm (Nat.not_lt_zero _), Below.refl _ _⟩
          case round =>
            obtain ⟨k, hk, rfl, hyes, hb⟩ := hrel
            have HY := Lib.hid hyes
            have HB := Lib.hid hb
            have hzr2 : W.heap.size ≤ wr.heap.size := hb.size
            have HBR := Lib.hid (HBW.out.trans (hb.mono (by omega)))
            clear hyes hb
            obtain ⟨wk, hwk⟩ : ∃ v : World, v = wr := ⟨_, rfl⟩
            subst hwk
            by_cases hlt2 : k < s.length
            · obtain ⟨b1, off1, aq, cq, e1, _, hb1, hcq, hrq, hlq⟩ := (F1.out.below HBR.out hC1) k (by omega)
              subst e1
              obtain ⟨i, ei, hi, hpp⟩ := nodeB_nat (HNODE.out k (by omega))
              obtain ⟨q, hq0⟩ : ∃ q, q = PL.getD k [] := ⟨_, rfl⟩
              rw [← hq0] at hcq hrq hi hpp hlq
              have hqs := picB_sq hpp
              have HQS := Lib.hid hqs.1
              have HPP := Lib.hid hpp
              have hq5 : q.length ≤ 5 := hqs.2.2
              have hv2 : NL[k]'(by omega) = (i : Int) := by rw [← getD_lt (show k < NL.length by omega)]; exact ei
              obtain ⟨names, hnm⟩ : ∃ names, names = s[k].1 := ⟨_, rfl⟩
              obtain ⟨code, hcd⟩ : ∃ code, code = s[k].2 := ⟨_, rfl⟩
              have hat := HAT.out k hlt2
              rw [← hnm, ← hcd] at hat
              obtain ⟨g1, g2, g3, g4⟩ := hat
              have HG1 := Lib.hid g1
              have HG2 := Lib.hid g2
              have hns : names.length ≤ s.length := by omega
              have hsn : s.length ≤ names.length := by omega
              have HEI := Lib.hid ei
              have HQ0 := Lib.hid hq0
              have HV2 := Lib.hid hv2
              have HNM := Lib.hid hnm
              have HCD := Lib.hid hcd
              have HRQ := Lib.hid hrq
              have hki : (k : Int) < (PL.length : Int) := by omega
              have hkn : (k : Int) < (NL.length : Int) := by omega
              have hks : (k : Int) < (s.length : Int) := by omega
              have hmk := run_make_row' (P := Try.prog) 24 3 _ _ Try.underlying24 Try.infoInt rfl .i64 .i64 (s.length + 2) (by omega) (by omega)
              have hk2 : (s.length : Int) + 2 = ((s.length + 2 : Nat) : Int) := by omega
              rw [← hk2] at hmk
              have hFALSE : ¬ SolK names code PL NL q i → solB s PL NL = false := fun hn => by
                cases e : solB s PL NL
                · rfl
                · exfalso
                  have h9 := (solB_iff.1 e).2.2.2.2 k hlt2
                  rw [← hnm, ← hcd, ← hq0, ei, Int.toNat_natCast] at h9
                  exact hn h9
              have hTT := solT_iff (names := names) (c := code) (PL := PL) (NL := NL) (p := q) (i := i) (fun m hm => by
                obtain ⟨jj, e3, hj, _⟩ := nodeB_nat (HNODE.out m (by omega))
                rw [e3, Int.toNat_natCast]; exact hj)
              obtain ⟨T, hT⟩ : ∃ T : Nat → Nat → Bool, T = solT names code PL NL q := ⟨_, rfl⟩
              rw [← hT] at hTT
              have HT := Lib.hid hT
              have HTT := Lib.hid hTT
              have HFALSE := Lib.hid hFALSE
              have HF0 := Lib.hid (OwI_zeros wk 3 (s.length + 2) (by unfold maxLen; omega))
              have hszf : (wk.alloc (.cells (madeCells #[.int .i64 0] (s.length + 2)) 3)).heap.size = wk.heap.size + 1 := by simp
              have HBF := Lib.hid (below_alloc wk (.cells (madeCells #[.int .i64 0] (s.length + 2)) 3))
              have HSZF := Lib.hid hszf
              clear ei hpp hq0 hqs hv2 hnm hcd g1 g2 hrq hk2 hFALSE hTT hT hszf hlq
              go_wp2_with fail
              obtain ⟨w0, hw0⟩ : ∃ w0, w0 = wk.alloc (.cells (madeCells #[.int .i64 0] (s.length + 2)) 3) := ⟨_, rfl⟩
              rw [← hw0] at HF0 HBF HSZF ⊢
              have hz0 : wk.heap.size + 1 ≤ w0.heap.size := by rw [HSZF.out]; exact Nat.le_refl _
              clear hmk hw0
              go_loopw [13] (fun jv wr => ∃ (j : Nat) (G : Nat → Bool), j ≤ q.length ∧ jv = .int .i64 j ∧ (∀ x, x < s.length + 2 → G x = (List.range j).any fun u => arr q i u && T x u) ∧ (∀ u, u < j → arr q i u = true → ∃ x, x < s.length + 2 ∧ T x u = true) ∧ OwI wr 3 wk.heap.size w0.heap.size (some ⟨wk.heap.size, 0, none⟩) (s.length + 2) (rowOf (s.length + 2) G) ∧ Chg (fun b => b = wk.heap.size) w0 wr) (fun jv _ => q.length - (intOf jv).toNat)
              case atStart => exact ⟨0, fun _ => false, Nat.zero_le _, rfl, fun x _ => by simp, fun u hu => absurd hu (Nat.not_lt_zero _), HF0.out.mono (Nat.le_refl _) hz0, Chg.refl _ _⟩
              case round =>
                obtain ⟨j, G, hj, rfl, hG, hall, hfound, hch⟩ := hrel
                have HG := Lib.hid hG
                have HALL := Lib.hid hall
                have HFD := Lib.hid hfound
                have HCH := Lib.hid hch
                have hz3 : w0.heap.size ≤ wr.heap.size := hch.size
                have HBK := Lib.hid (HBF.out.trans (hch.below (D := wk.heap.size) (fun b hb => by omega) (by omega)))
                have HBK2 := Lib.hid (HBR.out.trans (HBK.out.mono (by have := HBR.out.size; omega)))
                clear hG hall hfound hch
                obtain ⟨wj, hwj⟩ : ∃ v : World, v = wr := ⟨_, rfl⟩
                subst hwj
                by_cases hlt3 : j < q.length
                · obtain ⟨b2, off2, e2, _, hb2, hd2⟩ := (F2.out.below HBK2.out hC2).at k (by omega)
                  subst e2
                  rw [HV2.out] at hd2
                  obtain ⟨br, offr, br', offr', cr', rfl, _, _, hcr, _, hbr', hbit⟩ := (HRQ.out.below HBK.out (by have := HBR.out.size; omega)).bit HQS.out i j hi hlt3
                  have hji : (j : Int) < (q.length : Int) := by omega
                  have hii : (i : Int) < (q.length : Int) := by omega
                  cases ha : arr q i j
                  · have HA := Lib.hid ha
                    rw [ha] at hbit
                    simp only [Bool.false_eq_true, if_false] at hbit
                    clear ha
                    go_wp2_with fail
                    go_roundw
                    case rel => exact ⟨j + 1, G, by omega, by go_num, fun x hx => by rw [range_any_succ, HA.out, Bool.false_and, Bool.or_false]; exact HG.out x hx, fun u hu hau => by
                      by_cases e : u = j
                      · subst e; rw [HA.out] at hau; cases hau
                      · exact HALL.out u (by omega) hau, HFD.out, HCH.out⟩
                    case measure => simp [intOf]; omega
                  · have HA := Lib.hid ha
                    rw [ha] at hbit
                    simp only [if_true] at hbit
                    clear ha
                    go_wp2_with fail
                    go_loopw [14, 15] (fun gv mv wr => ∃ (m : Nat) (g : Bool) (G1 : Nat → Bool), m ≤ s.length ∧ mv = .int .i64 m ∧ gv = .bool g ∧ g = (List.range m).any (fun x => T x j) ∧ (∀ x, x < s.length + 2 → G1 x = (G x || (decide (x < m) && T x j))) ∧ OwI wr 3 wk.heap.size w0.heap.size (some ⟨wk.heap.size, 0, none⟩) (s.length + 2) (rowOf (s.length + 2) G1) ∧ Chg (fun b => b = wk.heap.size) w0 wr) (fun _ mv _ => s.length - (intOf mv).toNat)
                    case atStart => exact ⟨0, false, G, Nat.zero_le _, rfl, rfl, rfl, fun x _ => by simp, HFD.out, HCH.out⟩
                    case round =>
                      obtain ⟨m, g, G1, hm, rfl, rfl, hg, hG1, hfd, hch⟩ := hrel
                      have HGG := Lib.hid hg
                      have HG1' := Lib.hid hG1
                      have HFD1 := Lib.hid hfd
                      have HCH1 := Lib.hid hch
                      have hz4 : w0.heap.size ≤ wr.heap.size := hch.size
                      have HBM := Lib.hid (HBF.out.trans (hch.below (D := wk.heap.size) (fun b hb => by omega) (by omega)))
                      have HBM2 := Lib.hid (HBR.out.trans (HBM.out.mono (by have := HBR.out.size; omega)))
                      clear hg hG1 hfd hch
                      obtain ⟨wm, hwm⟩ : ∃ v : World, v = wr := ⟨_, rfl⟩
                      subst hwm
                      by_cases hlt4 : m < s.length
                      · obtain ⟨b0, off0, xa, xc, e0, _, hb0, hc0, _, hr0, _⟩ := (F.out.below HBM2.out hC).at k hlt2
                        subst e0
                        rw [← HNM.out] at hc0 hr0
                        have hmn : m < names.length := by omega
                        obtain ⟨b3, off3, e3, _, hb3, hd3⟩ := hr0.at m hmn
                        subst e3
                        have hbitm : names[m] = 0 ∨ names[m] = 1 := by
                          have h9 := HG1.out
                          unfold bitsB at h9
                          rw [List.all_eq_true] at h9
                          have h8 := h9 _ (List.getElem_mem hmn)
                          unfold bitB at h8
                          simpa using h8
                        have hTm : T m j = ((names[m] == 1) && sameB q j (PL.getD m []) (NL.getD m 0).toNat) := by
                          rw [HT.out]; unfold solT; rw [if_pos hmn, getD_lt hmn]
                        have hmi : (m : Int) < (s.length : Int) := by omega
                        have hmi2 : (m : Int) < (names.length : Int) := by omega
                        have HUP : Hid (∀ v : Bool, T m j = v → (List.range (m + 1)).any (fun x => T x j) = (g || v)) := Lib.hid fun v hv => by rw [range_any_succ, hv, HGG.out]
                        clear hr0 hbit hcr hd2
                        rcases hbitm with hv | hv
                        · rw [hv] at hd3 hTm
                          have HTM : Hid (T m j = false) := Lib.hid (by rw [hTm]; rfl)
                          clear hTm hv
                          go_wp2_with fail
                          go_quiet (fail)
                          go_wp2_with fail
                          go_roundw
                          case rel => exact ⟨m + 1, g, G1, by omega, by go_num, rfl, by rw [HUP.out _ HTM.out, Bool.or_false], fun x hx => by
                            rw [HG1'.out x hx]
                            congr 1
                            by_cases e : x = m
                            · subst e; rw [HTM.out, Bool.and_false, Bool.and_false]
                            · congr 1; exact decide_eq_decide.2 (by omega), by exact HFD1.out, HCH1.out.drewN _⟩
                          case measure => simp [intOf]; omega
                        · rw [hv] at hd3 hTm
                          obtain ⟨b4, off4, aq4, cq4, e4, _, hb4, hcq4, hrq4, hlq4⟩ := (F1.out.below HBM2.out hC1) m (by omega)
                          cases e4
                          obtain ⟨b5, off5, e5, _, hb5, hd5⟩ := (F2.out.below HBM2.out hC2).at m (by omega)
                          cases e5
                          obtain ⟨jm, ejm, hjm, hpm⟩ := nodeB_nat (HNODE.out m (by omega))
                          have hv5 : NL[m]'(by omega) = (jm : Int) := by rw [← getD_lt (show m < NL.length by omega)]; exact ejm
                          rw [hv5] at hd5
                          rw [ejm, Int.toNat_natCast] at hTm
                          obtain ⟨qm, hqm⟩ : ∃ qm, qm = PL.getD m [] := ⟨_, rfl⟩
                          rw [← hqm] at hTm hcq4 hrq4 hlq4 hjm hpm
                          obtain ⟨z, hz⟩ : ∃ z, z = sameB q j qm jm := ⟨_, rfl⟩
                          have hss : sameSetB q j qm jm = z := by
                            rw [hz]; unfold sameSetB
                            rw [nodeB_of HPP.out hlt3, nodeB_of hpm hjm, Int.toNat_natCast, Int.toNat_natCast]; rfl
                          have HTM : Hid (T m j = z) := Lib.hid (by rw [hTm, hz]; rfl)
                          have hqm5 : qm.length ≤ 5 := (picB_sq hpm).2.2
                          have HSS := Lib.hid hss
                          have HQM := Lib.hid hrq4
                          have HRQM := Lib.hid (HRQ.out.below HBM.out (by have := HBR.out.size; omega))
                          have hwwk : w.heap.size ≤ wk.heap.size := HBR.out.size
                          have hCm : C1 ≤ wm.heap.size := by omega
                          have hbm0 : b0 < wm.heap.size := by omega
                          have hbm3 : b3 < wm.heap.size := by omega
                          have hbm4 : b1 < wm.heap.size := by omega
                          have hbm5 : b2 < wm.heap.size := by omega
                          have hmP : (m : Int) < (PL.length : Int) := by omega
                          have hmN : (m : Int) < (NL.length : Int) := by omega
                          have hlq5 : q.length ≤ maxLen := by unfold maxLen; omega
                          clear hTm hv hv5 ejm hqm hrq4 hpm hss hz
                          cases z
                          · go_wp2_with fail
                            go_region_held3 (fun w' => w'.cell? ⟨b0, off0 + k * 2, none⟩ = some (.slice (some ⟨b3, off3, none⟩) names.length xc) ∧ w'.cell? ⟨b3, off3 + m, none⟩ = some (.int .i64 1) ∧ w'.cell? ⟨b1, off1 + m, none⟩ = some (.slice aq4 qm.length cq4) ∧ w'.cell? ⟨b2, off2 + m, none⟩ = some (.int .i64 jm)) (go_keep)
                              (first
                                | (go_at_call 27
                                   go_loud (
                                   refine (specSameSet_any (some ⟨br, offr, none⟩) cq q j aq4 cq4 qm jm _ B1 C1 B1 C1 (by exact HRQM.out) (by exact hCm) hlq5 (by exact HQM.out) (by exact hCm) hlq4).mono ?_
                                   rintro e w5 ⟨rfl, hb5'⟩
                                   rw [HSS.out]
                                   replace hb5' := undrew hb5'
                                   have x0' := ((bcell hb5').1 b0 (off0 + k * 2) hbm0).trans hc0
                                   have x1' := ((bcell hb5').1 b3 (off3 + m) hbm3).trans hd3
                                   have x2' := ((bcell hb5').1 b1 (off1 + m) hbm4).trans hcq4
                                   have x3' := ((bcell hb5').1 b2 (off2 + m) hbm5).trans hd5
                                   have FD5 := Lib.hid (HFD1.out.agr (agr_below hb5' hz4))
                                   have CH5 := Lib.hid (HCH1.out.then_below hb5')
                                   clear hb5')))
                            go_wp2_with fail
                            go_roundw
                            case rel => exact ⟨m + 1, g, G1, by omega, by go_num, rfl, by rw [HUP.out _ HTM.out, Bool.or_false], fun x hx => by
                              rw [HG1'.out x hx]
                              by_cases e : x = m
                              · subst e; rw [HTM.out, Bool.and_false, Bool.and_false]
                              · rw [show decide (x < m + 1) = decide (x < m) from decide_eq_decide.2 (by omega)], FD5.out, CH5.out⟩
                            case measure => simp [intOf]; omega
                          · go_wp2_with fail
                            go_region_held3 (fun w' => w'.cell? ⟨b0, off0 + k * 2, none⟩ = some (.slice (some ⟨b3, off3, none⟩) names.length xc) ∧ w'.cell? ⟨b3, off3 + m, none⟩ = some (.int .i64 1) ∧ w'.cell? ⟨b1, off1 + m, none⟩ = some (.slice aq4 qm.length cq4) ∧ w'.cell? ⟨b2, off2 + m, none⟩ = some (.int .i64 jm)) (go_keep)
                              (first
                                | (go_at_call 27
                                   go_loud (
                                   refine (specSameSet_any (some ⟨br, offr, none⟩) cq q j aq4 cq4 qm jm _ B1 C1 B1 C1 (by exact HRQM.out) (by exact hCm) hlq5 (by exact HQM.out) (by exact hCm) hlq4).mono ?_
                                   rintro e w5 ⟨rfl, hb5'⟩
                                   rw [HSS.out]
                                   replace hb5' := undrew hb5'
                                   have x0' := ((bcell hb5').1 b0 (off0 + k * 2) hbm0).trans hc0
                                   have x1' := ((bcell hb5').1 b3 (off3 + m) hbm3).trans hd3
                                   have x2' := ((bcell hb5').1 b1 (off1 + m) hbm4).trans hcq4
                                   have x3' := ((bcell hb5').1 b2 (off2 + m) hbm5).trans hd5
                                   have FD5 := Lib.hid (HFD1.out.agr (agr_below hb5' hz4))
                                   have CH5 := Lib.hid (HCH1.out.then_below hb5')
                                   clear hb5')))
                            obtain ⟨gf, egf, _, _, hcell5, hfz5, hgl5⟩ := FD5.out.cells m (by rw [rowOf_len]; omega)
                            cases egf
                            have hmi3 : (m : Int) < (s.length : Int) + 2 := by omega
                            have hst := FD5.out.setAt m (by rw [rowOf_len]; omega) 1
                            have hrow : (rowOf (s.length + 2) G1).set m 1 = rowOf (s.length + 2) fun x => decide (x = m) || G1 x := rowOf_set true (by simp) (fun y hy => by simp [hy])
                            rw [hrow] at hst
                            have HSTO := Lib.hid hst
                            clear hst hrow
                            go_wp2_with fail
                            go_roundw
                            case rel => exact ⟨m + 1, true, fun x => decide (x = m) || G1 x, by omega, by go_num, rfl, by rw [HUP.out _ HTM.out, Bool.or_true], fun x hx => by
                              show (decide (x = m) || G1 x) = _
                              rw [HG1'.out x hx]
                              by_cases e : x = m
                              · subst e; rw [HTM.out]; simp
                              · rw [show decide (x < m + 1) = decide (x < m) from decide_eq_decide.2 (by omega), decide_eq_false e, Bool.false_or], HSTO.out, CH5.out.set (.inl rfl) _⟩
                            case measure => simp [intOf]; omega
                      · obtain rfl : m = s.length := by omega
                        obtain ⟨b0, off0, xa, xc, e0, _, hb0, hc0, hcc0, hr0, _⟩ := (F.out.below HBM2.out hC).at k hlt2
                        subst e0
                        rw [← HCD.out] at hcc0
                        have hsr := sol_rows (N := s.length + 2) (n := s.length) (G := G) (G1 := G1) (U := fun x => T x j) rfl HG1'.out
                        obtain ⟨r1, r2, r3, r4⟩ := hsr
                        have HR1 := Lib.hid r1
                        have HR2 := Lib.hid r2
                        have HR3 := Lib.hid r3
                        have HR4 := Lib.hid r4
                        have hcode : code = 0 ∨ code = 1 ∨ code = 2 ∨ code = 3 := by omega
                        have HM2 : Hid ((code % 2 == 1) = decide (code % 2 = 1)) := Lib.hid (by rcases hcode with rfl | rfl | rfl | rfl <;> rfl)
                        have HM3 : Hid ((code / 2 == 1) = decide (code / 2 = 1)) := Lib.hid (by rcases hcode with rfl | rfl | rfl | rfl <;> rfl)
                        obtain ⟨o1, ho1⟩ : ∃ o1, o1 = decide (code % 2 = 1) := ⟨_, rfl⟩
                        obtain ⟨o2, ho2⟩ : ∃ o2, o2 = decide (code / 2 = 1) := ⟨_, rfl⟩
                        obtain ⟨z1, hz1⟩ : ∃ z1, z1 = sameB q j pic0 0 := ⟨_, rfl⟩
                        obtain ⟨z2, hz2⟩ : ∃ z2, z2 = sameB q j pic1 0 := ⟨_, rfl⟩
                        have htn : T s.length j = (o1 && z1) := by
                          rw [HT.out, ho1, hz1]; unfold solT; rw [if_neg (by omega), if_pos (by omega)]
                        have htn1 : T (s.length + 1) j = (o2 && z2) := by
                          rw [HT.out, ho2, hz2]; unfold solT; rw [if_neg (by omega), if_neg (by omega)]
                        have HTN := Lib.hid htn
                        have HTN1 := Lib.hid htn1
                        have hm2 := HM2.out
                        have hm3 := HM3.out
                        rw [← ho1] at hm2
                        rw [← ho2] at hm3
                        have HS0 : Hid (sameSetB q j pic0 0 = z1) := Lib.hid (by rw [hz1]; unfold sameSetB; rw [nodeB_of HPP.out hlt3, node0 (show picB pic0 = true by rfl), Int.toNat_natCast]; rfl)
                        have HS1 : Hid (sameSetB q j pic1 0 = z2) := Lib.hid (by rw [hz2]; unfold sameSetB; rw [nodeB_of HPP.out hlt3, node0 (show picB pic1 = true by rfl), Int.toNat_natCast]; rfl)
                        have HSS0 : Hid (∀ wz, Below w.heap.size w wz → Below wk.heap.size wk wz → Calls Try.prog 27 #[.slice (some ⟨br, offr, none⟩) q.length cq, .int .i64 j, .slice (some ⟨wo.heap.size + 1, 0, none⟩) 1 1, .int .i64 0] wz fun e w' => e = .returned (.bool z1) ∧ Below wz.heap.size wz w') := Lib.hid fun wz h1 h2 => by
                          have h9 := specSameSet_any (some ⟨br, offr, none⟩) cq q j (some ⟨wo.heap.size + 1, 0, none⟩) 1 pic0 0 wz B1 C1 wo.heap.size (wo.heap.size + 5) (HRQ.out.below h2 (by have := HBR.out.size; omega)) (by have := h1.size; omega) (by unfold maxLen; omega) ((HPX0.out.below HB.out hzW1).below h2 (by omega)) (by have := h2.size; omega) (by unfold maxLen pic0; decide)
                          rw [HS0.out] at h9
                          exact h9
                        have HSS1 : Hid (∀ wz, Below w.heap.size w wz → Below wk.heap.size wk wz → Calls Try.prog 27 #[.slice (some ⟨br, offr, none⟩) q.length cq, .int .i64 j, .slice (some ⟨wo.heap.size + 1 + 1 + 1 + 1, 0, none⟩) 2 2, .int .i64 0] wz fun e w' => e = .returned (.bool z2) ∧ Below wz.heap.size wz w') := Lib.hid fun wz h1 h2 => by
                          have h9 := specSameSet_any (some ⟨br, offr, none⟩) cq q j (some ⟨wo.heap.size + 1 + 1 + 1 + 1, 0, none⟩) 2 pic1 0 wz B1 C1 wo.heap.size (wo.heap.size + 5) (HRQ.out.below h2 (by have := HBR.out.size; omega)) (by have := h1.size; omega) (by unfold maxLen; omega) ((HPX1.out.below HB.out hzW1).below h2 (by omega)) (by have := h2.size; omega) (by unfold maxLen pic1; decide)
                          rw [HS1.out] at h9
                          exact h9
                        have hsi : (s.length : Int) < (s.length : Int) + 2 := by omega
                        have hsi1 : (s.length : Int) + 1 < (s.length : Int) + 2 := by omega
                        clear ho1 ho2 hz1 hz2 htn htn1 r1 r2 r3 r4 hcode hr0 hcr hbit hc0 hd2
                        have HNOG : Hid (g = false → T s.length j = false → T (s.length + 1) j = false → solB s PL NL = false) := Lib.hid fun h1 h2 h3 => HFALSE.out fun hS => by
                          obtain ⟨x, hx, hx2⟩ := (HTT.out.1 hS).1 j ⟨hlt3, HA.out⟩
                          rcases (show x < s.length ∨ x = s.length ∨ x = s.length + 1 by omega) with h | rfl | rfl
                          · have h9 := HGG.out
                            rw [h1, eq_comm, List.any_eq_false] at h9
                            exact h9 x (List.mem_range.2 h) hx2
                          · rw [h2] at hx2; cases hx2
                          · rw [h3] at hx2; cases hx2
                        have HYG : Hid (g = true ∨ T s.length j = true ∨ T (s.length + 1) j = true → ∃ x, x < s.length + 2 ∧ T x j = true) := Lib.hid fun h => by
                          rcases h with h | h | h
                          · have h9 := HGG.out
                            rw [h, eq_comm, List.any_eq_true] at h9
                            obtain ⟨x, hx, hx2⟩ := h9
                            exact ⟨x, by have := List.mem_range.1 hx; omega, hx2⟩
                          · exact ⟨_, by omega, h⟩
                          · exact ⟨_, by omega, h⟩
                        have hwwk : w.heap.size ≤ wk.heap.size := HBR.out.size
                        have hb0k : b0 < wk.heap.size := by omega
                        have hb0n : b0 ≠ wk.heap.size := by omega
                        have hnb0 : wk.heap.size ≠ b0 := by omega
                        have hb0m : b0 < wm.heap.size := by omega
                        have hn0 : s.length < s.length + 2 := by omega
                        have hn1' : s.length + 1 < s.length + 2 := by omega
                        clear HGG
                        cases o1
                        · skip
                          cases o2
                          · skip
                            cases g
                            · skip
                              as_aux_lemma =>
                                go_wp2_with fail
                                go_ret
                                exact ⟨ret_bool (HNOG.out (by first | rfl | trivial) HTN.out HTN1.out).symm, HBM2.out⟩
                            · skip
                              as_aux_lemma =>
                                go_wp2_with fail
                                go_roundw
                                case rel => exact ⟨j + 1, fun x => G x || T x j, by omega, by go_num, fun x hx => by show (G x || T x j) = _; rw [range_any_succ, HA.out, Bool.true_and, HG.out x hx], fun u hu hau => by
                                  by_cases e : u = j
                                  · subst e; exact HYG.out (.inl (by first | rfl | trivial))
                                  · exact HALL.out u (by omega) hau, by rw [← HR1.out HTN.out HTN1.out]; exact HFD1.out, HCH1.out⟩
                                case measure => simp [intOf]; omega
                          · skip
                            cases z2
                            · skip
                              cases g
                              · skip
                                as_aux_lemma =>
                                  go_wp2_with fail
                                  refine (HSS1.out _ (by exact HBM2.out) (by exact HBM.out)).mono ?_
                                  rintro e w6 ⟨rfl, hb⟩
                                  have FD6 := Lib.hid ((HFD1.out).agr (agr_below hb (by first | omega | (simp; omega))))
                                  have CH6 := Lib.hid ((HCH1.out).then_below hb)
                                  have BW6 := Lib.hid ((HBM2.out).trans (hb.mono (HBM2.out).size))
                                  have BK6 := Lib.hid ((HBM.out).trans (hb.mono (HBM.out).size))
                                  have hcc6 := (bcell hb).1 b0 (off0 + k * 2 + 1) (by first | omega | (simp; omega))
                                  have hz6 := hb.size
                                  clear hb
                                  go_wp2_with fail
                                  go_ret
                                  exact ⟨ret_bool (HNOG.out (by first | rfl | trivial) HTN.out HTN1.out).symm, BW6.out⟩
                              · skip
                                as_aux_lemma =>
                                  go_wp2_with fail
                                  refine (HSS1.out _ (by exact HBM2.out) (by exact HBM.out)).mono ?_
                                  rintro e w6 ⟨rfl, hb⟩
                                  have FD6 := Lib.hid ((HFD1.out).agr (agr_below hb (by first | omega | (simp; omega))))
                                  have CH6 := Lib.hid ((HCH1.out).then_below hb)
                                  have BW6 := Lib.hid ((HBM2.out).trans (hb.mono (HBM2.out).size))
                                  have BK6 := Lib.hid ((HBM.out).trans (hb.mono (HBM.out).size))
                                  have hcc6 := (bcell hb).1 b0 (off0 + k * 2 + 1) (by first | omega | (simp; omega))
                                  have hz6 := hb.size
                                  clear hb
                                  go_wp2_with fail
                                  go_roundw
                                  case rel => exact ⟨j + 1, fun x => G x || T x j, by omega, by go_num, fun x hx => by show (G x || T x j) = _; rw [range_any_succ, HA.out, Bool.true_and, HG.out x hx], fun u hu hau => by
                                    by_cases e : u = j
                                    · subst e; exact HYG.out (.inl (by first | rfl | trivial))
                                    · exact HALL.out u (by omega) hau, by rw [← HR1.out HTN.out HTN1.out]; exact FD6.out, CH6.out⟩
                                  case measure => simp [intOf]; omega
                            · skip
                              · skip
                                as_aux_lemma =>
                                  go_wp2_with fail
                                  refine (HSS1.out _ (by exact HBM2.out) (by exact HBM.out)).mono ?_
                                  rintro e w6 ⟨rfl, hb⟩
                                  have FD6 := Lib.hid ((HFD1.out).agr (agr_below hb (by first | omega | (simp; omega))))
                                  have CH6 := Lib.hid ((HCH1.out).then_below hb)
                                  have BW6 := Lib.hid ((HBM2.out).trans (hb.mono (HBM2.out).size))
                                  have BK6 := Lib.hid ((HBM.out).trans (hb.mono (HBM.out).size))
                                  have hcc6 := (bcell hb).1 b0 (off0 + k * 2 + 1) (by first | omega | (simp; omega))
                                  have hz6 := hb.size
                                  obtain ⟨gf, egf, _, _, hcell6, hfz6, hgl6⟩ := FD6.out.cells (s.length + 1) (by  rw [rowOf_len]; exact hn1')
                                  cases egf
                                  clear hb
                                  go_wp2_with fail
                                  go_roundw
                                  case rel => exact ⟨j + 1, fun x => G x || T x j, by omega, by go_num, fun x hx => by show (G x || T x j) = _; rw [range_any_succ, HA.out, Bool.true_and, HG.out x hx], fun u hu hau => by
                                    by_cases e : u = j
                                    · subst e; exact HYG.out (.inr (.inr HTN1.out))
                                    · exact HALL.out u (by omega) hau, by rw [← HR3.out HTN.out HTN1.out]; exact FD6.out.setAt (s.length + 1) (by  rw [rowOf_len]; exact hn1') 1, CH6.out.set (.inl rfl) _⟩
                                  case measure => simp [intOf]; omega
                        · skip
                          cases z1
                          · skip
                            cases o2
                            · skip
                              cases g
                              · skip
                                as_aux_lemma =>
                                  go_wp2_with fail
                                  refine (HSS0.out _ (by exact HBM2.out) (by exact HBM.out)).mono ?_
                                  rintro e w5 ⟨rfl, hb⟩
                                  have FD5 := Lib.hid ((HFD1.out).agr (agr_below hb (by first | omega | (simp; omega))))
                                  have CH5 := Lib.hid ((HCH1.out).then_below hb)
                                  have BW5 := Lib.hid ((HBM2.out).trans (hb.mono (HBM2.out).size))
                                  have BK5 := Lib.hid ((HBM.out).trans (hb.mono (HBM.out).size))
                                  have hcc5 := (bcell hb).1 b0 (off0 + k * 2 + 1) (by first | omega | (simp; omega))
                                  have hz5 := hb.size
                                  rw [hcc0] at hcc5
                                  have hb05 : b0 < w5.heap.size := by omega
                                  clear hb
                                  go_wp2_with fail
                                  go_ret
                                  exact ⟨ret_bool (HNOG.out (by first | rfl | trivial) HTN.out HTN1.out).symm, BW5.out⟩
                              · skip
                                as_aux_lemma =>
                                  go_wp2_with fail
                                  refine (HSS0.out _ (by exact HBM2.out) (by exact HBM.out)).mono ?_
                                  rintro e w5 ⟨rfl, hb⟩
                                  have FD5 := Lib.hid ((HFD1.out).agr (agr_below hb (by first | omega | (simp; omega))))
                                  have CH5 := Lib.hid ((HCH1.out).then_below hb)
                                  have BW5 := Lib.hid ((HBM2.out).trans (hb.mono (HBM2.out).size))
                                  have BK5 := Lib.hid ((HBM.out).trans (hb.mono (HBM.out).size))
                                  have hcc5 := (bcell hb).1 b0 (off0 + k * 2 + 1) (by first | omega | (simp; omega))
                                  have hz5 := hb.size
                                  rw [hcc0] at hcc5
                                  have hb05 : b0 < w5.heap.size := by omega
                                  clear hb
                                  go_wp2_with fail
                                  go_roundw
                                  case rel => exact ⟨j + 1, fun x => G x || T x j, by omega, by go_num, fun x hx => by show (G x || T x j) = _; rw [range_any_succ, HA.out, Bool.true_and, HG.out x hx], fun u hu hau => by
                                    by_cases e : u = j
                                    · subst e; exact HYG.out (.inl (by first | rfl | trivial))
                                    · exact HALL.out u (by omega) hau, by rw [← HR1.out HTN.out HTN1.out]; exact FD5.out, CH5.out⟩
                                  case measure => simp [intOf]; omega
                            · skip
                              cases z2
                              · skip
                                cases g
                                · skip
                                  as_aux_lemma =>
                                    go_wp2_with fail
                                    refine (HSS0.out _ (by exact HBM2.out) (by exact HBM.out)).mono ?_
                                    rintro e w5 ⟨rfl, hb⟩
                                    have FD5 := Lib.hid ((HFD1.out).agr (agr_below hb (by first | omega | (simp; omega))))
                                    have CH5 := Lib.hid ((HCH1.out).then_below hb)
                                    have BW5 := Lib.hid ((HBM2.out).trans (hb.mono (HBM2.out).size))
                                    have BK5 := Lib.hid ((HBM.out).trans (hb.mono (HBM.out).size))
                                    have hcc5 := (bcell hb).1 b0 (off0 + k * 2 + 1) (by first | omega | (simp; omega))
                                    have hz5 := hb.size
                                    rw [hcc0] at hcc5
                                    have hb05 : b0 < w5.heap.size := by omega
                                    clear hb
                                    go_wp2_with fail
                                    refine (HSS1.out _ (by exact BW5.out) (by exact BK5.out)).mono ?_
                                    rintro e w6 ⟨rfl, hb⟩
                                    have FD6 := Lib.hid ((FD5.out).agr (agr_below hb (by first | omega | (simp; omega))))
                                    have CH6 := Lib.hid ((CH5.out).then_below hb)
                                    have BW6 := Lib.hid ((BW5.out).trans (hb.mono (BW5.out).size))
                                    have BK6 := Lib.hid ((BK5.out).trans (hb.mono (BK5.out).size))
                                    have hcc6 := (bcell hb).1 b0 (off0 + k * 2 + 1) (by first | omega | (simp; omega))
                                    have hz6 := hb.size
                                    clear hb
                                    go_wp2_with fail
                                    go_ret
                                    exact ⟨ret_bool (HNOG.out (by first | rfl | trivial) HTN.out HTN1.out).symm, BW6.out⟩
                                · skip
                                  as_aux_lemma =>
                                    go_wp2_with fail
                                    refine (HSS0.out _ (by exact HBM2.out) (by exact HBM.out)).mono ?_
                                    rintro e w5 ⟨rfl, hb⟩
                                    have FD5 := Lib.hid ((HFD1.out).agr (agr_below hb (by first | omega | (simp; omega))))
                                    have CH5 := Lib.hid ((HCH1.out).then_below hb)
                                    have BW5 := Lib.hid ((HBM2.out).trans (hb.mono (HBM2.out).size))
                                    have BK5 := Lib.hid ((HBM.out).trans (hb.mono (HBM.out).size))
                                    have hcc5 := (bcell hb).1 b0 (off0 + k * 2 + 1) (by first | omega | (simp; omega))
                                    have hz5 := hb.size
                                    rw [hcc0] at hcc5
                                    have hb05 : b0 < w5.heap.size := by omega
                                    clear hb
                                    go_wp2_with fail
                                    refine (HSS1.out _ (by exact BW5.out) (by exact BK5.out)).mono ?_
                                    rintro e w6 ⟨rfl, hb⟩
                                    have FD6 := Lib.hid ((FD5.out).agr (agr_below hb (by first | omega | (simp; omega))))
                                    have CH6 := Lib.hid ((CH5.out).then_below hb)
                                    have BW6 := Lib.hid ((BW5.out).trans (hb.mono (BW5.out).size))
                                    have BK6 := Lib.hid ((BK5.out).trans (hb.mono (BK5.out).size))
                                    have hcc6 := (bcell hb).1 b0 (off0 + k * 2 + 1) (by first | omega | (simp; omega))
                                    have hz6 := hb.size
                                    clear hb
                                    go_wp2_with fail
                                    go_roundw
                                    case rel => exact ⟨j + 1, fun x => G x || T x j, by omega, by go_num, fun x hx => by show (G x || T x j) = _; rw [range_any_succ, HA.out, Bool.true_and, HG.out x hx], fun u hu hau => by
                                      by_cases e : u = j
                                      · subst e; exact HYG.out (.inl (by first | rfl | trivial))
                                      · exact HALL.out u (by omega) hau, by rw [← HR1.out HTN.out HTN1.out]; exact FD6.out, CH6.out⟩
                                    case measure => simp [intOf]; omega
                              · skip
                                · skip
                                  as_aux_lemma =>
                                    go_wp2_with fail
                                    refine (HSS0.out _ (by exact HBM2.out) (by exact HBM.out)).mono ?_
                                    rintro e w5 ⟨rfl, hb⟩
                                    have FD5 := Lib.hid ((HFD1.out).agr (agr_below hb (by first | omega | (simp; omega))))
                                    have CH5 := Lib.hid ((HCH1.out).then_below hb)
                                    have BW5 := Lib.hid ((HBM2.out).trans (hb.mono (HBM2.out).size))
                                    have BK5 := Lib.hid ((HBM.out).trans (hb.mono (HBM.out).size))
                                    have hcc5 := (bcell hb).1 b0 (off0 + k * 2 + 1) (by first | omega | (simp; omega))
                                    have hz5 := hb.size
                                    rw [hcc0] at hcc5
                                    have hb05 : b0 < w5.heap.size := by omega
                                    clear hb
                                    go_wp2_with fail
                                    refine (HSS1.out _ (by exact BW5.out) (by exact BK5.out)).mono ?_
                                    rintro e w6 ⟨rfl, hb⟩
                                    have FD6 := Lib.hid ((FD5.out).agr (agr_below hb (by first | omega | (simp; omega))))
                                    have CH6 := Lib.hid ((CH5.out).then_below hb)
                                    have BW6 := Lib.hid ((BW5.out).trans (hb.mono (BW5.out).size))
                                    have BK6 := Lib.hid ((BK5.out).trans (hb.mono (BK5.out).size))
                                    have hcc6 := (bcell hb).1 b0 (off0 + k * 2 + 1) (by first | omega | (simp; omega))
                                    have hz6 := hb.size
                                    obtain ⟨gf, egf, _, _, hcell6, hfz6, hgl6⟩ := FD6.out.cells (s.length + 1) (by  rw [rowOf_len]; exact hn1')
                                    cases egf
                                    clear hb
                                    go_wp2_with fail
                                    go_roundw
                                    case rel => exact ⟨j + 1, fun x => G x || T x j, by omega, by go_num, fun x hx => by show (G x || T x j) = _; rw [range_any_succ, HA.out, Bool.true_and, HG.out x hx], fun u hu hau => by
                                      by_cases e : u = j
                                      · subst e; exact HYG.out (.inr (.inr HTN1.out))
                                      · exact HALL.out u (by omega) hau, by rw [← HR3.out HTN.out HTN1.out]; exact FD6.out.setAt (s.length + 1) (by  rw [rowOf_len]; exact hn1') 1, CH6.out.set (.inl rfl) _⟩
                                    case measure => simp [intOf]; omega
                          · skip
                            cases o2
                            · skip
                              · skip
                                as_aux_lemma =>
                                  go_wp2_with fail
                                  refine (HSS0.out _ (by exact HBM2.out) (by exact HBM.out)).mono ?_
                                  rintro e w5 ⟨rfl, hb⟩
                                  have FD5 := Lib.hid ((HFD1.out).agr (agr_below hb (by first | omega | (simp; omega))))
                                  have CH5 := Lib.hid ((HCH1.out).then_below hb)
                                  have BW5 := Lib.hid ((HBM2.out).trans (hb.mono (HBM2.out).size))
                                  have BK5 := Lib.hid ((HBM.out).trans (hb.mono (HBM.out).size))
                                  have hcc5 := (bcell hb).1 b0 (off0 + k * 2 + 1) (by first | omega | (simp; omega))
                                  have hz5 := hb.size
                                  rw [hcc0] at hcc5
                                  have hb05 : b0 < w5.heap.size := by omega
                                  obtain ⟨gf, egf, _, _, hcell5, hfz5, hgl5⟩ := FD5.out.cells s.length (by rw [rowOf_len]; exact hn0)
                                  cases egf
                                  clear hb
                                  go_wp2_with fail
                                  go_roundw
                                  case rel => exact ⟨j + 1, fun x => G x || T x j, by omega, by go_num, fun x hx => by show (G x || T x j) = _; rw [range_any_succ, HA.out, Bool.true_and, HG.out x hx], fun u hu hau => by
                                    by_cases e : u = j
                                    · subst e; exact HYG.out (.inr (.inl HTN.out))
                                    · exact HALL.out u (by omega) hau, by rw [← HR2.out HTN.out HTN1.out]; exact FD5.out.setAt s.length (by rw [rowOf_len]; exact hn0) 1, CH5.out.set (.inl rfl) _⟩
                                  case measure => simp [intOf]; omega
                            · skip
                              cases z2
                              · skip
                                · skip
                                  as_aux_lemma =>
                                    go_wp2_with fail
                                    refine (HSS0.out _ (by exact HBM2.out) (by exact HBM.out)).mono ?_
                                    rintro e w5 ⟨rfl, hb⟩
                                    have FD5 := Lib.hid ((HFD1.out).agr (agr_below hb (by first | omega | (simp; omega))))
                                    have CH5 := Lib.hid ((HCH1.out).then_below hb)
                                    have BW5 := Lib.hid ((HBM2.out).trans (hb.mono (HBM2.out).size))
                                    have BK5 := Lib.hid ((HBM.out).trans (hb.mono (HBM.out).size))
                                    have hcc5 := (bcell hb).1 b0 (off0 + k * 2 + 1) (by first | omega | (simp; omega))
                                    have hz5 := hb.size
                                    rw [hcc0] at hcc5
                                    have hb05 : b0 < w5.heap.size := by omega
                                    obtain ⟨gf, egf, _, _, hcell5, hfz5, hgl5⟩ := FD5.out.cells s.length (by rw [rowOf_len]; exact hn0)
                                    cases egf
                                    clear hb
                                    go_wp2_with fail
                                    refine (HSS1.out _ (by exact BW5.out.setCell (p := ⟨wk.heap.size, s.length, none⟩) hwwk _) (by exact BK5.out.setCell (p := ⟨wk.heap.size, s.length, none⟩) (Nat.le_refl _) _)).mono ?_
                                    rintro e w6 ⟨rfl, hb⟩
                                    have FD6 := Lib.hid ((FD5.out.setAt s.length (by rw [rowOf_len]; exact hn0) 1).agr (agr_below hb (by first | omega | (simp; omega))))
                                    have CH6 := Lib.hid ((CH5.out.set (.inl rfl) _).then_below hb)
                                    have BW6 := Lib.hid ((BW5.out.setCell (p := ⟨wk.heap.size, s.length, none⟩) hwwk _).trans (hb.mono (BW5.out.setCell (p := ⟨wk.heap.size, s.length, none⟩) hwwk _).size))
                                    have BK6 := Lib.hid ((BK5.out.setCell (p := ⟨wk.heap.size, s.length, none⟩) (Nat.le_refl _) _).trans (hb.mono (BK5.out.setCell (p := ⟨wk.heap.size, s.length, none⟩) (Nat.le_refl _) _).size))
                                    have hcc6 := (bcell hb).1 b0 (off0 + k * 2 + 1) (by first | omega | (simp; omega))
                                    have hz6 := hb.size
                                    clear hb
                                    go_wp2_with fail
                                    go_roundw
                                    case rel => exact ⟨j + 1, fun x => G x || T x j, by omega, by go_num, fun x hx => by show (G x || T x j) = _; rw [range_any_succ, HA.out, Bool.true_and, HG.out x hx], fun u hu hau => by
                                      by_cases e : u = j
                                      · subst e; exact HYG.out (.inr (.inl HTN.out))
                                      · exact HALL.out u (by omega) hau, by rw [← HR2.out HTN.out HTN1.out]; exact FD6.out, CH6.out⟩
                                    case measure => simp [intOf]; omega
                              · skip
                                · skip
                                  as_aux_lemma =>
                                    go_wp2_with fail
                                    refine (HSS0.out _ (by exact HBM2.out) (by exact HBM.out)).mono ?_
                                    rintro e w5 ⟨rfl, hb⟩
                                    have FD5 := Lib.hid ((HFD1.out).agr (agr_below hb (by first | omega | (simp; omega))))
                                    have CH5 := Lib.hid ((HCH1.out).then_below hb)
                                    have BW5 := Lib.hid ((HBM2.out).trans (hb.mono (HBM2.out).size))
                                    have BK5 := Lib.hid ((HBM.out).trans (hb.mono (HBM.out).size))
                                    have hcc5 := (bcell hb).1 b0 (off0 + k * 2 + 1) (by first | omega | (simp; omega))
                                    have hz5 := hb.size
                                    rw [hcc0] at hcc5
                                    have hb05 : b0 < w5.heap.size := by omega
                                    obtain ⟨gf, egf, _, _, hcell5, hfz5, hgl5⟩ := FD5.out.cells s.length (by rw [rowOf_len]; exact hn0)
                                    cases egf
                                    clear hb
                                    go_wp2_with fail
                                    refine (HSS1.out _ (by exact BW5.out.setCell (p := ⟨wk.heap.size, s.length, none⟩) hwwk _) (by exact BK5.out.setCell (p := ⟨wk.heap.size, s.length, none⟩) (Nat.le_refl _) _)).mono ?_
                                    rintro e w6 ⟨rfl, hb⟩
                                    have FD6 := Lib.hid ((FD5.out.setAt s.length (by rw [rowOf_len]; exact hn0) 1).agr (agr_below hb (by first | omega | (simp; omega))))
                                    have CH6 := Lib.hid ((CH5.out.set (.inl rfl) _).then_below hb)
                                    have BW6 := Lib.hid ((BW5.out.setCell (p := ⟨wk.heap.size, s.length, none⟩) hwwk _).trans (hb.mono (BW5.out.setCell (p := ⟨wk.heap.size, s.length, none⟩) hwwk _).size))
                                    have BK6 := Lib.hid ((BK5.out.setCell (p := ⟨wk.heap.size, s.length, none⟩) (Nat.le_refl _) _).trans (hb.mono (BK5.out.setCell (p := ⟨wk.heap.size, s.length, none⟩) (Nat.le_refl _) _).size))
                                    have hcc6 := (bcell hb).1 b0 (off0 + k * 2 + 1) (by first | omega | (simp; omega))
                                    have hz6 := hb.size
                                    obtain ⟨gf, egf, _, _, hcell6, hfz6, hgl6⟩ := FD6.out.cells (s.length + 1) (by rw [List.length_set]; rw [rowOf_len]; exact hn1')
                                    cases egf
                                    clear hb
                                    go_wp2_with fail
                                    go_roundw
                                    case rel => exact ⟨j + 1, fun x => G x || T x j, by omega, by go_num, fun x hx => by show (G x || T x j) = _; rw [range_any_succ, HA.out, Bool.true_and, HG.out x hx], fun u hu hau => by
                                      by_cases e : u = j
                                      · subst e; exact HYG.out (.inr (.inl HTN.out))
                                      · exact HALL.out u (by omega) hau, by rw [← HR4.out HTN.out HTN1.out]; exact FD6.out.setAt (s.length + 1) (by rw [List.length_set]; rw [rowOf_len]; exact hn1') 1, CH6.out.set (.inl rfl) _⟩
                                    case measure => simp [intOf]; omega
                · obtain rfl : j = q.length := by omega
                  have HYES : Hid ((∀ x, x < s.length + 2 → solAsk names code x = true → G x = true) → SolK names code PL NL q i) := Lib.hid fun h => HTT.out.2 ⟨fun u hu => by
                    obtain ⟨x, hx, hx2⟩ := HALL.out u hu.1 hu.2
                    exact ⟨x, by omega, hx2⟩, fun x hx ha => by
                    have h9 := h x (by omega) ha
                    rw [HG.out x (by omega), List.any_eq_true] at h9
                    obtain ⟨u, hu, h8⟩ := h9
                    rw [Bool.and_eq_true] at h8
                    exact ⟨u, ⟨List.mem_range.1 hu, h8.1⟩, h8.2⟩⟩
                  have HNO2 : Hid (∀ x, x < s.length + 2 → solAsk names code x = true → G x = false → solB s PL NL = false) := Lib.hid fun x hx ha hg => HFALSE.out fun hS => by
                    obtain ⟨u, hu, h8⟩ := (HTT.out.1 hS).2 x (by omega) ha
                    have h9 := HG.out x hx
                    rw [hg, eq_comm, List.any_eq_false] at h9
                    exact h9 u (List.mem_range.2 hu.1) (by rw [hu.2, h8]; rfl)
                  obtain ⟨b0, off0, xa, xc, e0, _, hb0, hc0, hcc0, hr0, _⟩ := (F.out.below HBK2.out hC).at k hlt2
                  subst e0
                  rw [← HNM.out] at hc0 hr0
                  rw [← HCD.out] at hcc0
                  have HR0 := Lib.hid hr0
                  clear hr0
                  go_wp2_with fail
                  go_loopw [16] (fun mv wr => ∃ m : Nat, m ≤ s.length ∧ mv = .int .i64 m ∧ (∀ x, x < m → (names.getD x 0 == 1) = true → G x = true) ∧ wr = wj) (fun mv _ => s.length - (intOf mv).toNat)
                  case atStart => exact ⟨0, Nat.zero_le _, rfl, fun x hx => absurd hx (Nat.not_lt_zero _), rfl⟩
                  case round =>
                    obtain ⟨m, hm, rfl, hup, hwr⟩ := hrel
                    rw [hwr]
                    have HUP := Lib.hid hup
                    clear hwr hup
                    by_cases hlt5 : m < s.length
                    · have hmn : m < names.length := by omega
                      obtain ⟨b3, off3, e3, _, hb3, hd3⟩ := HR0.out.at m hmn
                      subst e3
                      have hbitm : names[m] = 0 ∨ names[m] = 1 := by
                        have h9 := HG1.out
                        unfold bitsB at h9
                        rw [List.all_eq_true] at h9
                        have h8 := h9 _ (List.getElem_mem hmn)
                        unfold bitB at h8
                        simpa using h8
                      have hmi : (m : Int) < (s.length : Int) := by omega
                      have hmi2 : (m : Int) < (names.length : Int) := by omega
                      have hmi3 : (m : Int) < (s.length : Int) + 2 := by omega
                      have hgd : (names.getD m 0 == 1) = (names[m] == 1) := by rw [getD_lt hmn]
                      obtain ⟨gf, egf, _, _, hcell5, hfz5, hgl5⟩ := HFD.out.cells m (by rw [rowOf_len]; omega)
                      cases egf
                      rw [rowOf_get] at hcell5
                      rcases hbitm with hv | hv
                      · rw [hv] at hd3 hgd
                        have HGD := Lib.hid hgd
                        clear hv hgd hcell5
                        go_wp2_with fail
                        go_roundw
                        case rel => exact ⟨m + 1, by omega, by go_num, fun x hx hb => by
                          by_cases e : x = m
                          · subst e; rw [HGD.out] at hb; cases hb
                          · exact HUP.out x (by omega) hb, by trivial⟩
                        case measure => simp [intOf]; omega
                      · rw [hv] at hd3 hgd
                        have HGD := Lib.hid hgd
                        have HASK : Hid (solAsk names code m = true) := Lib.hid (by unfold solAsk; rw [if_pos hmn, hgd]; rfl)
                        cases hgm : G m
                        · have HE := Lib.hid (HNO2.out m (by omega) HASK.out hgm)
                          rw [hgm] at hcell5
                          simp only [Bool.false_eq_true, if_false] at hcell5
                          clear hv hgd hgm
                          go_wp2_with fail
                          go_ret
                          exact ⟨ret_bool HE.out.symm, HBK2.out⟩
                        · have HGM := Lib.hid hgm
                          rw [hgm] at hcell5
                          simp only [if_true] at hcell5
                          clear hv hgd hgm
                          go_wp2_with fail
                          go_roundw
                          case rel => exact ⟨m + 1, by omega, by go_num, fun x hx hb => by
                            by_cases e : x = m
                            · subst e; exact HGM.out
                            · exact HUP.out x (by omega) hb, by trivial⟩
                          case measure => simp [intOf]; omega
                    · obtain rfl : m = s.length := by omega
                      have hcode : code = 0 ∨ code = 1 ∨ code = 2 ∨ code = 3 := by omega
                      have hm2 : (code % 2 == 1) = decide (code % 2 = 1) := by rcases hcode with rfl | rfl | rfl | rfl <;> rfl
                      have hm3 : (code / 2 == 1) = decide (code / 2 = 1) := by rcases hcode with rfl | rfl | rfl | rfl <;> rfl
                      have hask0 : solAsk names code s.length = decide (code % 2 = 1) := by unfold solAsk; rw [if_neg (by omega), if_pos (by omega)]
                      have hask1 : solAsk names code (s.length + 1) = decide (code / 2 = 1) := by unfold solAsk; rw [if_neg (by omega), if_neg (by omega)]
                      obtain ⟨o1, ho1⟩ : ∃ o1, o1 = decide (code % 2 = 1) := ⟨_, rfl⟩
                      obtain ⟨o2, ho2⟩ : ∃ o2, o2 = decide (code / 2 = 1) := ⟨_, rfl⟩
                      rw [← ho1] at hm2 hask0
                      rw [← ho2] at hm3 hask1
                      have HA0 := Lib.hid hask0
                      have HA1 := Lib.hid hask1
                      obtain ⟨gf, egf, _, _, hcn, _, hgl5⟩ := HFD.out.cells s.length (by rw [rowOf_len]; omega)
                      cases egf
                      obtain ⟨gf, egf, _, _, hcn1, _, _⟩ := HFD.out.cells (s.length + 1) (by rw [rowOf_len]; omega)
                      cases egf
                      rw [rowOf_get] at hcn hcn1
                      obtain ⟨v1, hv1⟩ : ∃ v1, v1 = G s.length := ⟨_, rfl⟩
                      obtain ⟨v2, hv2⟩ : ∃ v2, v2 = G (s.length + 1) := ⟨_, rfl⟩
                      rw [← hv1] at hcn
                      rw [← hv2] at hcn1
                      have HV1 := Lib.hid hv1
                      have HV2' := Lib.hid hv2
                      have hsi : (s.length : Int) < (s.length : Int) + 2 := by omega
                      have hsi1 : (s.length : Int) + 1 < (s.length : Int) + 2 := by omega
                      have HEND : Hid ((solAsk names code s.length = true → G s.length = true) → (solAsk names code (s.length + 1) = true → G (s.length + 1) = true) → SolK names code PL NL q i) := Lib.hid fun h1 h2 => HYES.out fun x hx ha => by
                        rcases (show x < s.length ∨ x = s.length ∨ x = s.length + 1 by omega) with h | rfl | rfl
                        · refine HUP.out x h ?_
                          unfold solAsk at ha
                          rwa [if_pos (by omega)] at ha
                        · exact h1 ha
                        · exact h2 ha
                      clear hcode ho1 ho2 hask0 hask1 hv1 hv2
                      cases o1
                      · skip
                        cases o2
                        · skip
                          as_aux_lemma =>
                            go_wp2_with fail
                            go_roundw
                            case rel => exact ⟨k + 1, by omega, by go_num, fun m hm hm2 => by
                              by_cases e : m = k
                              · subst e
                                rw [← HNM.out, ← HCD.out, ← HQ0.out, HEI.out, Int.toNat_natCast]
                                exact HEND.out (fun h => by rw [HA0.out] at h; cases h) (fun h => by rw [HA1.out] at h; cases h)
                              · exact HY.out m (by omega) hm2, HB.out.trans (HBK.out.mono (by omega))⟩
                            case measure => simp [intOf]; omega
                        · cases v2
                          · skip
                            as_aux_lemma =>
                              go_wp2_with fail
                              go_ret
                              exact ⟨ret_bool (HNO2.out (s.length + 1) (by omega) HA1.out HV2'.out.symm).symm, HBK2.out⟩
                          · skip
                            as_aux_lemma =>
                              go_wp2_with fail
                              go_roundw
                              case rel => exact ⟨k + 1, by omega, by go_num, fun m hm hm2 => by
                                by_cases e : m = k
                                · subst e
                                  rw [← HNM.out, ← HCD.out, ← HQ0.out, HEI.out, Int.toNat_natCast]
                                  exact HEND.out (fun h => by rw [HA0.out] at h; cases h) (fun _ => HV2'.out.symm)
                                · exact HY.out m (by omega) hm2, HB.out.trans (HBK.out.mono (by omega))⟩
                              case measure => simp [intOf]; omega
                      · cases v1
                        · skip
                          as_aux_lemma =>
                            go_wp2_with fail
                            go_ret
                            exact ⟨ret_bool (HNO2.out s.length (by omega) HA0.out HV1.out.symm).symm, HBK2.out⟩
                        · skip
                          cases o2
                          · skip
                            as_aux_lemma =>
                              go_wp2_with fail
                              go_roundw
                              case rel => exact ⟨k + 1, by omega, by go_num, fun m hm hm2 => by
                                by_cases e : m = k
                                · subst e
                                  rw [← HNM.out, ← HCD.out, ← HQ0.out, HEI.out, Int.toNat_natCast]
                                  exact HEND.out (fun _ => HV1.out.symm) (fun h => by rw [HA1.out] at h; cases h)
                                · exact HY.out m (by omega) hm2, HB.out.trans (HBK.out.mono (by omega))⟩
                              case measure => simp [intOf]; omega
                          · cases v2
                            · skip
                              as_aux_lemma =>
                                go_wp2_with fail
                                go_ret
                                exact ⟨ret_bool (HNO2.out (s.length + 1) (by omega) HA1.out HV2'.out.symm).symm, HBK2.out⟩
                            · skip
                              as_aux_lemma =>
                                go_wp2_with fail
                                go_roundw
                                case rel => exact ⟨k + 1, by omega, by go_num, fun m hm hm2 => by
                                  by_cases e : m = k
                                  · subst e
                                    rw [← HNM.out, ← HCD.out, ← HQ0.out, HEI.out, Int.toNat_natCast]
                                    exact HEND.out (fun _ => HV1.out.symm) (fun _ => HV2'.out.symm)
                                  · exact HY.out m (by omega) hm2, HB.out.trans (HBK.out.mono (by omega))⟩
                                case measure => simp [intOf]; omega
            · obtain rfl : k = s.length := by omega
              have HE : Hid (solB s PL NL = true) := Lib.hid (solB_iff.2 ⟨HS.out, HPE.out, HNE.out, fun m hm => HNODE.out m hm, fun m hm => HY.out m hm hm⟩)
              go_wp2_with fail
              go_ret
              exact ⟨ret_bool HE.out.symm, HBR.out⟩
    · have HS := Lib.hid hs
      have HE := Lib.hid (solB_no (s := s) (PL := PL) (NL := NL) (.inr (.inr hn)))
      have hq1 : (((PL.length : Nat) : Int) != ((s.length : Nat) : Int)) = false := by simp [hp]
      have hq2 : (((NL.length : Nat) : Int) != ((s.length : Nat) : Int)) = true := bne_iff_ne.2 (by omega)
      clear hs hp hn
      go_enter Try.func7, Try.ntmps7
      go_wp2_with fail
      refine HIS.out.mono ?_
      rintro e w' ⟨rfl, rfl⟩
      rw [HS.out]
      go_wp2_with fail
      go_ret
      exact ⟨ret_bool HE.out.symm, Below.refl _ _⟩
  · have HS := Lib.hid hs
    have HE := Lib.hid (solB_no (s := s) (PL := PL) (NL := NL) (.inr (.inl hp)))
    have hq1 : (((PL.length : Nat) : Int) != ((s.length : Nat) : Int)) = true := bne_iff_ne.2 (by omega)
    clear hs hp
    go_enter Try.func7, Try.ntmps7
    go_wp2_with fail
    refine HIS.out.mono ?_
    rintro e w' ⟨rfl, rfl⟩
    rw [HS.out]
    go_wp2_with fail
    go_ret
    exact ⟨ret_bool HE.out.symm, Below.refl _ _⟩
end Go.Proofs.Ytfjodcfbhpglhaa
