/- Walks of the small functions on slices of numbers that the laws use: what each computes. Walks of the functions on streams: what each computes. The laws' marks: numbers written into owned memory, and found there again. The laws' alive. Walks of the functions on rows of numbers and on pictures: what each computes. The laws' sameInts and sameRows. laws.szStream with any room left. -/
import Derived.Test.YtgfoolneophkcaaRows
import Derived.BigQuiet
import Derived.Deep.QuietTactic
import Derived.Test.YtgfoolneophkcaaM1
namespace Go.Proofs.Ytgfoolneophkcaa
open Go.RowKit Go.Hyp Go.Deep

theorem Try.infoInt : (Try.prog.info? 3).map (fun i => (i.zero, i.size, i.bytes)) = some (some (.int .i64 0), 1, 8) := by kernel_rfl

set_option maxHeartbeats 400000 in
theorem toIntS_any (a : Option Addr) (cap : Nat) (l : List Int) (w : World) (B C : Nat) (h : RdI w B C a l) (hC : C ≤ w.heap.size) (hl : l.length ≤ 1048576) :
    Calls Try.prog 46 #[.slice a l.length cap] w (RetI 3 l w) := by
  have hmk := run_make_row' (P := Try.prog) 29 3 _ _ Try.underlying29 Try.infoInt rfl .i64 .i64 l.length (by omega) (by omega)
  go_enter Try.func46, Try.ntmps46
  go_wp2
  go_loopw [4] (fun i wr => ∃ k : Nat, k ≤ l.length ∧ i = .int .i64 k ∧ wr.rowIs w.heap.size 3 l.length (upTo l k) ∧ Below w.heap.size w wr ∧ w.heap.size < wr.heap.size) (fun i _ => l.length - (intOf i).toNat)
  case atStart => exact ⟨0, Nat.zero_le _, rfl, (World.rowIs_made w _ _ _).congr (fun i _ => rfl), below_alloc _ _, by simp⟩
  case round =>
    obtain ⟨k, hk, rfl, hrow, hb, hz⟩ := hrel
    by_cases hlt : k < l.length
    · obtain ⟨b, off, rfl, h1, h2, hc⟩ := (h.below hb hC).at k hlt
      have hd := hrow.cell hlt
      have hfz := hrow.frozen k
      have Hrow := Lib.hid hrow
      clear hrow h
      go_wp2
      go_roundw
      case rel => exact ⟨k + 1, by omega, by go_num, by have := upTo_succ Hrow.out; rwa [getD_lt hlt] at this, hb.setCell (by simp) _, by simpa using hz⟩
      case measure => simp [intOf]; omega
    · obtain rfl : k = l.length := by omega
      have Hrow := Lib.hid hrow
      clear hrow h
      go_wp2
      go_ret
      exact ⟨_, _, rfl, .inr ⟨_, _, rfl, Nat.le_refl _, hz, Hrow.out, Nat.le_refl _, by simp [maxLen]; omega, fun i hi => by simp [upTo, hi]⟩, hb⟩

set_option maxHeartbeats 400000 in
theorem szIntS_any (a : Option Addr) (cap n : Nat) (k : Int) (w : World) (hl : n ≤ maxLen) (h0 : 0 ≤ k) (h1 : k ≤ 1048576) :
    Calls Try.prog 68 #[.slice a n cap, .int .i64 k] w fun e w' => e = .returned (.int .i64 (szI k n)) ∧ w = w' := by
  unfold maxLen at hl
  by_cases hlt : k < n
  · have hc : k - n < 0 := by omega
    go_enter Try.func68, Try.ntmps68
    go_wp2
    go_ret
    exact ⟨ret_int (by unfold szI; rw [if_pos (by omega)]), rfl⟩
  · have hc : ¬ (k - n < 0) := by omega
    go_enter Try.func68, Try.ntmps68
    go_wp2
    go_ret
    exact ⟨ret_int (by unfold szI; rw [if_neg (by omega)]), rfl⟩

set_option maxHeartbeats 400000 in
theorem eqIntS_any (a a' : Option Addr) (cap cap' : Nat) (l l' : List Int) (w : World) (B C B' C' : Nat) (h : RdI w B C a l) (h' : RdI w B' C' a' l') (hl : l.length ≤ maxLen) (_hl' : l'.length ≤ maxLen) :
    Calls Try.prog 48 #[.slice a l.length cap, .slice a' l'.length cap'] w fun e w' => e = .returned (.bool (decide (l = l'))) ∧ ∃ n, w' = w.drewN n := by
  unfold maxLen at hl
  by_cases hlen : l.length = l'.length
  · have hb : (((l.length : Nat) : Int) != ((l'.length : Nat) : Int)) = false := by simp [hlen]
    have Hlen := Lib.hid hlen
    clear hlen
    go_enter Try.func48, Try.ntmps48
    go_wp2
    go_loopw [4, 5] (fun r i wr => ∃ k n : Nat, k ≤ l.length ∧ r = .bool false ∧ i = .int .i64 k ∧ l.take k = l'.take k ∧ wr = w.drewN n) (fun _ i _ => l.length - (intOf i).toNat)
    case atStart => exact ⟨0, 0, Nat.zero_le _, rfl, rfl, rfl, rfl⟩
    case round =>
      obtain ⟨k, n, hk, rfl, rfl, he, rfl⟩ := hrel
      have HE := Lib.hid he
      clear he
      by_cases hlt : k < l.length
      · have hlt' : k < l'.length := by have := Hlen.out; omega
        obtain ⟨b, off, rfl, h1, h2, hc⟩ := h.at k hlt
        obtain ⟨b', off', rfl, h1', h2', hc'⟩ := h'.at k hlt'
        clear h h'
        by_cases hx : l[k] = l'[k]
        · have hxb : (l[k] != l'[k]) = false := by simp [hx]
          have HX := Lib.hid hx
          clear hx
          go_wp2_with fail
          go_quiet (fail)
          go_wp2
          go_roundw
          case rel => exact ⟨k + 1, _, by omega, rfl, by go_num, take_eq_succ hlt hlt' HE.out HX.out, rfl⟩
          case measure => simp [intOf]; omega
        · have hxb : (l[k] != l'[k]) = true := by simp [hx]
          have HX := Lib.hid hx
          clear hx
          go_wp2_with fail
          go_quiet (fail)
          go_wp2
          go_ret
          exact ⟨ret_bool (by rw [decide_eq_false]; exact fun e => HX.out (by simp [e])), _, by rw [World.drewN_drewN]⟩
      · go_wp2
        go_ret
        exact ⟨ret_bool (by rw [decide_eq_true]; have e := HE.out; have := Hlen.out; rwa [List.take_of_length_le (by omega), List.take_of_length_le (by omega)] at e), _, rfl⟩
  · have hb : (((l.length : Nat) : Int) != ((l'.length : Nat) : Int)) = true := by simp; omega
    have hne : l ≠ l' := fun e => hlen (by rw [e])
    go_enter Try.func48, Try.ntmps48
    go_wp2
    go_ret
    exact ⟨ret_bool (by simp [hne]), 0, rfl⟩
end Go.Proofs.Ytgfoolneophkcaa
namespace Go.Proofs.Ytgfoolneophkcaa
open Go.RowKit Go.Hyp Go.Deep

set_option maxHeartbeats 400000 in
theorem areBits_any (a : Option Addr) (cap : Nat) (l : List Int) (n : Int) (w : World) (B C : Nat) (h : RdI w B C a l) (hl : l.length ≤ maxLen) :
    Calls Try.prog 97 #[.slice a l.length cap, .int .i64 n] w fun e w' => e = .returned (.bool (bitsB l && ((l.length : Int) == n))) ∧ w = w' := by
  unfold maxLen at hl
  go_enter Try.func97, Try.ntmps97
  go_wp2
  go_loop [4, 6, 9] (fun r _ i => ∃ k : Nat, k ≤ l.length ∧ r = .bool false ∧ i = .int .i64 k ∧ bitsB (l.take k) = true) (fun _ _ i => l.length - (intOf i).toNat)
  case atStart => exact ⟨0, Nat.zero_le _, rfl, rfl, rfl⟩
  case round =>
    obtain ⟨k, hk, rfl, rfl, hb⟩ := hrel
    have HB := Lib.hid hb
    clear hb
    by_cases hlt : k < l.length
    · obtain ⟨b, off, rfl, h1, h2, hc⟩ := h.at k hlt
      have HS := Lib.hid (bitsB_succ l k hlt)
      have HN := Lib.hid (bitsB_no l k hlt)
      clear h
      go_wp2
      · go_round
        case rel => exact ⟨k + 1, by omega, rfl, by go_num, by rw [HS.out, HB.out]; simp [bitB, *]⟩
        case measure => simp [intOf]; omega
      · go_ret
        rw [HN.out (by unfold bitB; simp_all)]
        exact ⟨rfl, rfl⟩
      · go_round
        case rel => exact ⟨k + 1, by omega, rfl, by go_num, by rw [HS.out, HB.out]; unfold bitB; simp_all⟩
        case measure => simp [intOf]; omega
    · go_wp2
      go_ret
      have hb := HB.out
      rw [List.take_of_length_le (by omega)] at hb
      exact ⟨ret_bool (by rw [hb]; rfl), rfl⟩

/-- The same, asked for the list's own length. -/
theorem areBits_own (a : Option Addr) (cap : Nat) (l : List Int) (w : World) (B C : Nat) (h : RdI w B C a l) (hl : l.length ≤ maxLen) :
    Calls Try.prog 97 #[.slice a l.length cap, .int .i64 l.length] w fun e w' => e = .returned (.bool (bitsB l)) ∧ w = w' :=
  (areBits_any a cap l l.length w B C h hl).mono fun e w' ⟨he, hw⟩ => ⟨by rw [he]; simp, hw⟩

set_option maxHeartbeats 400000 in
theorem isStream_any (a1 a2 : Option Addr) (c1 c2 : Nat) (l1 l2 : List Int) (w : World) (B C B' C' : Nat) (h1 : RdI w B C a1 l1) (h2 : RdI w B' C' a2 l2) (hC : C ≤ w.heap.size) (hC' : C' ≤ w.heap.size)
    (hl1 : l1.length ≤ 1048576) (hl2 : l2.length ≤ 1048576) :
    Calls Try.prog 70 #[.agg #[.slice a1 l1.length c1, .slice a2 l2.length c2]] w fun e w' => e = .returned (.bool (streamB l1 l2)) ∧ Below w.heap.size w w' := by
  have hm1 : l1.length ≤ maxLen := by unfold maxLen; omega
  have hm2 : l2.length ≤ maxLen := by unfold maxLen; omega
  have F1 := Lib.hid h1
  have F2 := Lib.hid h2
  clear h1 h2
  have e1 : bitsB l1 = true ∨ bitsB l1 = false := by cases bitsB l1 <;> simp
  have e2 : bitsB l2 = true ∨ bitsB l2 = false := by cases bitsB l2 <;> simp
  rcases e1 with e1 | e1
  · go_enter Try.func70, Try.ntmps70
    go_wp2_with fail
    refine (areBits_own a1 c1 l1 _ B C (F1.out.below (below_alloc w _) hC) hm1).mono ?_
    rintro e w' ⟨rfl, rfl⟩
    go_wp2_with fail
    refine (areBits_own a2 c2 l2 _ B' C' (F2.out.below (below_alloc w _) hC') hm2).mono ?_
    rintro e w' ⟨rfl, rfl⟩
    rcases e2 with e2 | e2
    · by_cases h3 : 1 ≤ l2.length
      · by_cases h4 : l1.length + l2.length ≤ 12
        · go_wp2_with fail
          go_ret
          exact ⟨ret_bool (by unfold streamB; simp [*]; try omega), below_alloc w _⟩
        · go_wp2_with fail
          go_ret
          exact ⟨ret_bool (by unfold streamB; simp [*]; try omega), below_alloc w _⟩
      · go_wp2_with fail
        go_ret
        exact ⟨ret_bool (by unfold streamB; simp [*]; try omega), below_alloc w _⟩
    · go_wp2_with fail
      go_ret
      exact ⟨ret_bool (by unfold streamB; simp [*]; try omega), below_alloc w _⟩
  · go_enter Try.func70, Try.ntmps70
    go_wp2_with fail
    refine (areBits_own a1 c1 l1 _ B C (F1.out.below (below_alloc w _) hC) hm1).mono ?_
    rintro e w' ⟨rfl, rfl⟩
    go_wp2_with fail
    go_ret
    exact ⟨ret_bool (by unfold streamB; simp [*]; try omega), below_alloc w _⟩

set_option maxHeartbeats 400000 in
theorem implStreamOk_any (a1 a2 : Option Addr) (c1 c2 : Nat) (l1 l2 : List Int) (w : World) (B C B' C' : Nat) (h1 : RdI w B C a1 l1) (h2 : RdI w B' C' a2 l2) (hC : C ≤ w.heap.size) (hC' : C' ≤ w.heap.size)
    (hl1 : l1.length ≤ 1048576) (hl2 : l2.length ≤ 1048576) :
    Calls Try.prog 32 #[.agg #[.slice a1 l1.length c1, .slice a2 l2.length c2]] w fun e w' => e = .returned (.bool (streamB l1 l2)) ∧ Below w.heap.size w w' := by
  have F1 := Lib.hid h1
  have F2 := Lib.hid h2
  clear h1 h2
  go_enter Try.func32, Try.ntmps32
  go_wp2_with fail
  refine (isStream_any a1 a2 c1 c2 l1 l2 _ B C B' C' (F1.out.below (below_alloc w _) hC) (F2.out.below (below_alloc w _) hC') (by simp; omega) (by simp; omega) hl1 hl2).mono ?_
  rintro e w1 ⟨rfl, hb⟩
  go_wp2_with fail
  go_ret
  exact ⟨rfl, below_trans (below_alloc w _) hb⟩

set_option maxHeartbeats 400000 in
theorem szStream_any (a1 a2 : Option Addr) (c1 c2 n1 n2 : Nat) (w : World) (hl1 : n1 ≤ maxLen) (hl2 : n2 ≤ maxLen) :
    Calls Try.prog 20 #[.agg #[.slice a1 n1 c1, .slice a2 n2 c2], .int .i64 1048576] w fun e w' => e = .returned (.int .i64 (szI (szI 1048576 n1) n2)) ∧ Below w.heap.size w w' := by
  have S1 := Lib.hid (szI_cases 1048576 n1)
  have S2 := Lib.hid (szI_cases (szI 1048576 n1) n2)
  have hlo : szI 1048576 n1 ≤ 1048576 := by rcases S1.out with h | h <;> omega
  by_cases hn : szI 1048576 n1 < 0
  · go_enter Try.func20, Try.ntmps20
    go_wp2_with fail
    refine (szIntS_any a1 c1 n1 _ _ hl1 (by omega) (by omega)).mono ?_
    rintro e w' ⟨rfl, rfl⟩
    go_wp2_with fail
    go_ret
    exact ⟨ret_int (by rcases S1.out with h | h <;> rcases S2.out with h' | h' <;> omega), below_alloc w _⟩
  · by_cases hn' : szI (szI 1048576 n1) n2 < 0
    all_goals
      go_enter Try.func20, Try.ntmps20
      go_wp2_with fail
      refine (szIntS_any a1 c1 n1 _ _ hl1 (by omega) (by omega)).mono ?_
      rintro e w' ⟨rfl, rfl⟩
      go_wp2_with fail
      refine (szIntS_any a2 c2 n2 _ _ hl2 (by omega) (by omega)).mono ?_
      rintro e w' ⟨rfl, rfl⟩
      go_wp2_with fail
      go_ret
      exact ⟨ret_int (by rcases S1.out with h | h <;> rcases S2.out with h' | h' <;> omega), below_alloc w _⟩

set_option maxHeartbeats 400000 in
theorem toStream_any (a1 a2 : Option Addr) (c1 c2 : Nat) (l1 l2 : List Int) (w : World) (B C B' C' : Nat) (h1 : RdI w B C a1 l1) (h2 : RdI w B' C' a2 l2) (hC : C ≤ w.heap.size) (hC' : C' ≤ w.heap.size)
    (hl1 : l1.length ≤ 1048576) (hl2 : l2.length ≤ 1048576) :
    Calls Try.prog 22 #[.agg #[.slice a1 l1.length c1, .slice a2 l2.length c2]] w (RetS 3 l1 l2 w) := by
  have F1 := Lib.hid h1
  have F2 := Lib.hid h2
  clear h1 h2
  go_enter Try.func22, Try.ntmps22
  go_wp2_with fail
  refine (toIntS_any a1 c1 l1 _ B C (F1.out.below (below_alloc w _ |>.alloc (by simp) _ |>.alloc (by simp; omega) _) hC) (by simp; omega) hl1).mono ?_
  rintro e w1 ⟨a', c', rfl, ho, hb⟩
  have hz := hb.size
  have b1 : w1.heap[w.heap.size]? = some (.cells #[.slice a1 l1.length c1, .slice a2 l2.length c2] 31 (0, 0)) := hb.blk (alloc3 w _ _ _).1 (by simp; omega)
  have b2 : w1.heap[w.heap.size + 1]? = some (.cells #[.slice none 0 0, .slice none 0 0] 34 (0, 0)) := hb.blk (alloc3 w _ _ _).2.1 (by simp)
  have b3 : w1.heap[w.heap.size + 1 + 1]? = some (.cells #[.slice none 0 0, .slice none 0 0] 34 (0, 0)) := hb.blk (alloc3 w _ _ _).2.2 (by simp)
  obtain ⟨p1, p2, p3, p4⟩ := blk2 b1
  obtain ⟨q1, q2, q3, q4⟩ := blk2 b3
  simp at hz
  have HO := Lib.hid ho
  have HB := Lib.hid hb
  have B1 := Lib.hid b1
  have B2 := Lib.hid b2
  have B3 := Lib.hid b3
  clear ho hb b1 b2 b3
  go_wp2_with fail
  refine (toIntS_any a2 c2 l2 _ B' C' (((F2.out.below (below_alloc w _ |>.alloc (by simp) _ |>.alloc (by simp; omega) _) hC').below HB.out (by simp; omega)).below ((Below.refl (w.heap.size + 2) _).setCell (by simp) _) (by omega)) (by simp; omega) hl2).mono ?_
  rintro e w2 ⟨a'', c'', rfl, ho2, hb2⟩
  have hz2 := hb2.size
  have b2' := hb2.blk (blk_set_other _ B2.out (by omega)) (by simp; omega)
  have b3' : w2.heap[w.heap.size + 1 + 1]? = some (.cells #[.slice a' l1.length c', .slice none 0 0] 34 (0, 0)) := hb2.blk (blk_set _ B3.out) (by simp; omega)
  clear p1 p2 p3 p4 q1 q2 q3 q4
  obtain ⟨p1, p2, p3, p4⟩ := blk2 b2'
  obtain ⟨q1, q2, q3, q4⟩ := blk2 b3'
  simp at hz2
  have HO2 := Lib.hid ho2
  have HB2 := Lib.hid hb2
  have B2' := Lib.hid b2'
  have B3' := Lib.hid b3'
  clear ho2 hb2 b2' b3'
  go_wp2_with fail
  have r0 := blk_set (.slice a'' l2.length c'') (i := 1) (blk_set (.slice a' l1.length c') (i := 0) (blk_set_other (w := w2) (.slice a'' l2.length c'') (i := 1) (k := w.heap.size + 1 + 1) B2'.out (by omega)))
  obtain ⟨r1, r2, _, _⟩ := blk2 r0
  clear r0 p1 p2 p3 p4 q1 q2 q3 q4
  refine bodyPost_ret (v := .agg #[.slice a' l1.length c', .slice a'' l2.length c'']) (by simp [results, Try.results22, go_sem, r1, r2]) rfl ⟨a', c', a'', c'', rfl, ?_, ?_, ?_, ?_⟩
  · exact (HO.out.agr (((((Agr.refl _ _ _).set (by simp) _).below HB2.out (by simp)).set (by simp) _).set (by simp) _ |>.set (by simp) _)).mono (by simp; omega) (by simp; omega)
  · exact (HO2.out.agr (((Agr.refl _ _ _).set (by simp; omega) _).set (by simp; omega) _ |>.set (by simp; omega) _)).mono (by simp; omega) (by simp)
  · exact HO.out.dis HO2.out (by simp)
  · exact ((((((below_alloc w _ |>.alloc (by simp) _ |>.alloc (by simp; omega) _).trans (HB.out.mono (by simp; omega))).setCell (by simp; omega) _).trans (HB2.out.mono (by simp; omega))).setCell (by simp; omega) _).setCell (by simp) _).setCell (by simp) _

set_option maxHeartbeats 400000 in
theorem eqStream_any (a1 a2 b1 b2 : Option Addr) (c1 c2 d1 d2 : Nat) (l1 l2 m1 m2 : List Int) (w : World) (B : Nat) (h1 : RdI w B w.heap.size a1 l1) (h2 : RdI w B w.heap.size a2 l2) (h3 : RdI w B w.heap.size b1 m1) (h4 : RdI w B w.heap.size b2 m2)
    (hl1 : l1.length ≤ maxLen) (hl2 : l2.length ≤ maxLen) (hm1 : m1.length ≤ maxLen) (hm2 : m2.length ≤ maxLen) :
    Calls Try.prog 24 #[.agg #[.slice a1 l1.length c1, .slice a2 l2.length c2], .agg #[.slice b1 m1.length d1, .slice b2 m2.length d2]] w fun e w' =>
      e = .returned (.bool (decide (l1 = m1) && decide (l2 = m2))) ∧ Below w.heap.size w w' := by
  have F1 := Lib.hid h1
  have F2 := Lib.hid h2
  have F3 := Lib.hid h3
  have F4 := Lib.hid h4
  clear h1 h2 h3 h4
  have hbb := Lib.hid ((below_alloc w (.cells #[.slice a1 l1.length c1, .slice a2 l2.length c2] 34)).alloc (by simp) (.cells #[.slice b1 m1.length d1, .slice b2 m2.length d2] 34))
  have e1 : decide (l1 = m1) = true ∨ decide (l1 = m1) = false := by cases decide (l1 = m1) <;> simp
  have e2 : decide (l2 = m2) = true ∨ decide (l2 = m2) = false := by cases decide (l2 = m2) <;> simp
  generalize hx1 : decide (l1 = m1) = x1 at e1
  generalize hx2 : decide (l2 = m2) = x2 at e2
  have X1 := Lib.hid hx1
  have X2 := Lib.hid hx2
  clear hx1 hx2
  rcases e1 with rfl | rfl
  · rcases e2 with rfl | rfl
    all_goals
      go_enter Try.func24, Try.ntmps24
      go_wp2_with fail
      refine (eqIntS_any a1 b1 c1 d1 l1 m1 _ B _ B _ (F1.out.below hbb.out (by simp)) (F3.out.below hbb.out (by simp)) hl1 hm1).mono ?_
      rintro e w' ⟨rfl, n, rfl⟩
      rw [X1.out]
      go_wp2_with fail
      refine (eqIntS_any a2 b2 c2 d2 l2 m2 _ B _ B _ (F2.out.below (below_drewN hbb.out _) (by simp)) (F4.out.below (below_drewN hbb.out _) (by simp)) hl2 hm2).mono ?_
      rintro e w' ⟨rfl, n', rfl⟩
      rw [X2.out]
      go_wp2_with fail
      go_ret
      exact ⟨rfl, below_drewN hbb.out _⟩
  · go_enter Try.func24, Try.ntmps24
    go_wp2_with fail
    refine (eqIntS_any a1 b1 c1 d1 l1 m1 _ B _ B _ (F1.out.below hbb.out (by simp)) (F3.out.below hbb.out (by simp)) hl1 hm1).mono ?_
    rintro e w' ⟨rfl, n, rfl⟩
    rw [X1.out]
    go_wp2_with fail
    go_ret
    exact ⟨rfl, below_drewN hbb.out _⟩

set_option maxHeartbeats 400000 in
theorem l1In_any (n lo hi : Int) (w : World) : Calls Try.prog 64 #[.int .i64 n, .int .i64 lo, .int .i64 hi] w fun e w' => e = .returned (.bool (decide (lo ≤ n) && decide (n ≤ hi))) ∧ w = w' := by
  by_cases h1 : lo ≤ n
  · by_cases h2 : n ≤ hi
    all_goals
      go_enter Try.func64, Try.ntmps64
      go_wp2
      go_ret
      exact ⟨ret_bool (by simp [*]), rfl⟩
  · go_enter Try.func64, Try.ntmps64
    go_wp2
    go_ret
    exact ⟨ret_bool (by simp [*]; try omega), rfl⟩

/-- Asked whether a number is a bit. -/
theorem l1In_bit (n : Int) (w : World) : Calls Try.prog 64 #[.int .i64 n, .int .i64 0, .int .i64 1] w fun e w' => e = .returned (.bool (bitB n)) ∧ w = w' :=
  (l1In_any n 0 1 w).mono fun e w' ⟨he, hw⟩ => ⟨by rw [he, bitB_in], hw⟩

set_option maxHeartbeats 400000 in
theorem specStreamOk_any (a1 a2 : Option Addr) (c1 c2 : Nat) (l1 l2 : List Int) (w : World) (B C B' C' : Nat) (h1 : RdI w B C a1 l1) (h2 : RdI w B' C' a2 l2) (hC : C ≤ w.heap.size) (hC' : C' ≤ w.heap.size)
    (hl1 : l1.length ≤ 1048576) (hl2 : l2.length ≤ 1048576) :
    Calls Try.prog 29 #[.agg #[.slice a1 l1.length c1, .slice a2 l2.length c2]] w fun e w' => e = .returned (.bool (streamB l1 l2)) ∧ Below w.heap.size w w' := by
  have hb0 := below_alloc w (.cells #[.slice a1 l1.length c1, .slice a2 l2.length c2] 34)
  have F1 := h1.below hb0 hC
  have F2 := h2.below hb0 hC'
  have H0 := Lib.hid hb0
  clear h1 h2 hb0
  go_enter Try.func29, Try.ntmps29
  go_wp2_with fail
  go_loop [2, 3] (fun r i => ∃ k : Nat, k ≤ l1.length ∧ r = .bool false ∧ i = .int .i64 k ∧ bitsB (l1.take k) = true) (fun _ i => l1.length - (intOf i).toNat)
  case atStart => exact ⟨0, Nat.zero_le _, rfl, rfl, rfl⟩
  case round =>
    obtain ⟨k, hk, rfl, rfl, hb⟩ := hrel
    have HB := Lib.hid hb
    clear hb
    by_cases hlt : k < l1.length
    · obtain ⟨b, off, rfl, _, _, hc⟩ := F1.at k hlt
      have HS := Lib.hid (bitsB_succ l1 k hlt)
      have HN := Lib.hid (bitsB_no l1 k hlt)
      clear F1 F2
      have hx : bitB l1[k] = true ∨ bitB l1[k] = false := by cases bitB l1[k] <;> simp
      generalize hy : bitB l1[k] = y at hx
      have HY := Lib.hid hy
      clear hy
      rcases hx with rfl | rfl
      · go_wp2_with (go_at_call 64; refine (l1In_bit _ _).mono ?_; rintro e w' ⟨rfl, rfl⟩; rw [HY.out])
        go_round
        case rel => exact ⟨k + 1, by omega, rfl, by go_num, by rw [HS.out, HB.out, HY.out]; rfl⟩
        case measure => simp [intOf]; omega
      · go_wp2_with (go_at_call 64; refine (l1In_bit _ _).mono ?_; rintro e w' ⟨rfl, rfl⟩; rw [HY.out])
        go_ret
        exact ⟨ret_bool (by unfold streamB; rw [HN.out HY.out]; rfl), H0.out⟩
    · have E1 : Hid (bitsB l1 = true) := by have := HB.out; rwa [List.take_of_length_le (by omega)] at this
      clear HB
      go_wp2_with fail
      go_loop [2, 4] (fun r i => ∃ k : Nat, k ≤ l2.length ∧ r = .bool false ∧ i = .int .i64 k ∧ bitsB (l2.take k) = true) (fun _ i => l2.length - (intOf i).toNat)
      case atStart => exact ⟨0, Nat.zero_le _, rfl, rfl, rfl⟩
      case round =>
        obtain ⟨k', hk', rfl, rfl, hb⟩ := hrel
        have HB := Lib.hid hb
        clear hb
        by_cases hlt' : k' < l2.length
        · obtain ⟨b, off, rfl, _, _, hc⟩ := F2.at k' hlt'
          have HS := Lib.hid (bitsB_succ l2 k' hlt')
          have HN := Lib.hid (bitsB_no l2 k' hlt')
          clear F1 F2
          have hx : bitB l2[k'] = true ∨ bitB l2[k'] = false := by cases bitB l2[k'] <;> simp
          generalize hy : bitB l2[k'] = y at hx
          have HY := Lib.hid hy
          clear hy
          rcases hx with rfl | rfl
          · go_wp2_with (go_at_call 64; refine (l1In_bit _ _).mono ?_; rintro e w' ⟨rfl, rfl⟩; rw [HY.out])
            go_round
            case rel => exact ⟨k' + 1, by omega, rfl, by go_num, by rw [HS.out, HB.out, HY.out]; rfl⟩
            case measure => simp [intOf]; omega
          · go_wp2_with (go_at_call 64; refine (l1In_bit _ _).mono ?_; rintro e w' ⟨rfl, rfl⟩; rw [HY.out])
            go_ret
            exact ⟨ret_bool (by unfold streamB; rw [E1.out, HN.out HY.out]; rfl), H0.out⟩
        · have E2 : Hid (bitsB l2 = true) := by have := HB.out; rwa [List.take_of_length_le (by omega)] at this
          clear HB
          by_cases h3 : 1 ≤ l2.length
          · by_cases h4 : l1.length + l2.length ≤ 12
            all_goals
              go_wp2_with fail
              go_ret
              exact ⟨ret_bool (by unfold streamB; rw [E1.out, E2.out]; simp [*]; try omega), H0.out⟩
          · go_wp2_with fail
            go_ret
            exact ⟨ret_bool (by unfold streamB; rw [E1.out, E2.out]; simp [*]; try omega), H0.out⟩

end Go.Proofs.Ytgfoolneophkcaa
namespace Go.Hyp
open Go.RowKit Go.Deep

/-- k, k + 1 and so on, n of them. -/
def marks (k n : Nat) : List Int := (List.range n).map fun i => ((k + i : Nat) : Int)
theorem marks_len (k n : Nat) : (marks k n).length = n := by simp [marks]
theorem marks_get (k n i : Nat) (h : i < (marks k n).length) : (marks k n)[i] = ((k + i : Nat) : Int) := by simp [marks]
theorem OwI.setAt {w : World} {E B C g cap : Nat} {l : List Int} (h : OwI w E B C (some ⟨g, 0, none⟩) cap l) (i : Nat) (hi : i < l.length) (v : Int) : OwI (w.setCell ⟨g, i, none⟩ (.int .i64 v)) E B C (some ⟨g, 0, none⟩) cap (l.set i v) := by
  rcases h with ⟨e, _⟩ | ⟨g', f, e, h1, h2, hr, hl, hm, hf⟩
  · cases e
  · cases e
    refine .inr ⟨g, _, rfl, h1, h2, hr.set i _, by simpa using hl, hm, fun j hj => ?_⟩
    rw [List.length_set] at hj
    by_cases e : j = i
    · subst e; simp [List.getD, hj]
    · rw [if_neg e, hf j hj]
      have e' : ¬ i = j := fun h => e h.symm
      simp [List.getD, e']
theorem OwI.cells {w : World} {E B C cap : Nat} {a : Option Addr} {l : List Int} (h : OwI w E B C a cap l) (i : Nat) (hi : i < l.length) : ∃ g, a = some ⟨g, 0, none⟩ ∧ B ≤ g ∧ g < C ∧ w.cell? ⟨g, i, none⟩ = some (.int .i64 l[i]) ∧ w.frozen? ⟨g, i, none⟩ = false ∧ g < w.heap.size := by
  rcases h with ⟨_, rfl, _⟩ | ⟨g, f, e, h1, h2, hr, hl, hm, hf⟩
  · simp at hi
  · exact ⟨g, e, h1, h2, by rw [hr.cell (by omega), hf i hi]; simp [List.getD, hi], hr.frozen i, hr.lt⟩
/-- Owned memory stays where nothing turned in its block. -/
theorem OwI.keep {S : Nat → Prop} {w w' : World} {E B C cap : Nat} {a : Option Addr} {l : List Int} (h : OwI w E B C a cap l) (hc : Chg S w w') (hS : ∀ b, blockOf a = some b → ¬ S b) : OwI w' E B C a cap l := by
  rcases h with h | ⟨g, f, e, h1, h2, hr, r⟩
  · exact .inl h
  · subst e
    exact .inr ⟨g, f, rfl, h1, h2, hr.of_block (hc.block g hr.lt (hS g rfl)), r⟩
theorem Dis.blocks {a a' : Option Addr} (h : Dis a a') (b : Nat) (h1 : blockOf a = some b) (h2 : blockOf a' = some b) : False := by
  cases a with
  | none => simp [blockOf] at h1
  | some x =>
    cases a' with
    | none => simp [blockOf] at h2
    | some y =>
      simp [blockOf] at h1 h2
      exact h x y rfl rfl (h1.trans h2.symm)
theorem Chg.wide {S T : Nat → Prop} {w w' : World} (h : Chg S w w') (hT : ∀ k, S k → T k) : Chg T w w' := ⟨h.os, h.tape, h.output, h.size, fun k hk hn => h.block k hk (fun hs => hn (hT k hs))⟩
end Go.Hyp
namespace Go.Proofs.Ytgfoolneophkcaa
open Go.RowKit Go.Hyp Go.Deep

set_option maxHeartbeats 400000 in
theorem markIntS_any (a : Option Addr) (cap : Nat) (l : List Int) (K : Nat) (w : World) (B C : Nat) (h : OwI w 3 B C a cap l) (hl : l.length ≤ 1048576) (hK : K ≤ 1073741824) :
    Calls Try.prog 49 #[.slice a l.length cap, .int .i64 K] w fun e w' => e = .returned (.int .i64 ((K + l.length : Nat) : Int)) ∧ OwI w' 3 B C a cap (marks K l.length) ∧ Chg (fun b => blockOf a = some b) w w' ∧ w'.heap.size = w.heap.size := by
  have HO := Lib.hid h
  clear h
  go_enter Try.func49, Try.ntmps49
  go_wp2_with fail
  go_loopw [1, 5] (fun m i wr => ∃ (j : Nat) (L : List Int), j ≤ l.length ∧ i = .int .i64 j ∧ m = .int .i64 ((K + j : Nat) : Int) ∧ L.length = l.length ∧ (∀ i, i < j → L.getD i 0 = ((K + i : Nat) : Int)) ∧ OwI wr 3 B C a cap L ∧ Chg (fun b => blockOf a = some b) w wr ∧ wr.heap.size = w.heap.size) (fun _ i _ => l.length - (intOf i).toNat)
  case atStart => exact ⟨0, l, Nat.zero_le _, rfl, rfl, rfl, fun i hi => by omega, HO.out, Chg.refl _ _, rfl⟩
  case round =>
    obtain ⟨j, L, hj, rfl, rfl, hL, hm, ho, hc, hz⟩ := hrel
    have HL := Lib.hid hL
    have HM := Lib.hid hm
    have HO' := Lib.hid ho
    have HC := Lib.hid hc
    have HZ := Lib.hid hz
    clear hL hm ho hc hz HO
    by_cases hlt : j < l.length
    · have hlt' : j < L.length := by have := HL.out; omega
      obtain ⟨g, rfl, hg1, hg2, hd, hfz, hgl⟩ := HO'.out.cells j hlt'
      have hjz : (j : Int) < (l.length : Int) := by omega
      have e1 : ((K + j : Nat) : Int) + 1 = ((K + (j + 1) : Nat) : Int) := by omega
      go_wp2_with fail
      go_roundw
      case rel =>
        refine ⟨j + 1, L.set j ((K + j : Nat) : Int), by omega, by go_num, int_eq (by omega), by simp; exact HL.out, fun i hi => ?_, HO'.out.setAt j hlt' _, HC.out.set (.inl rfl) _, by simpa using HZ.out⟩
        by_cases e : i = j
        · subst e; simp [List.getD, hlt']
        · have e' : ¬ j = i := fun h => e h.symm
          have := HM.out i (by omega)
          simp only [List.getD] at this ⊢
          rw [List.getElem?_set_ne e']; exact this
      case measure => simp [intOf]; omega
    · obtain rfl : j = l.length := by omega
      go_wp2_with fail
      go_ret
      have e : L = marks K l.length := List.ext_getElem (by rw [marks_len]; exact HL.out) fun i h1 h2 => by
        have := HM.out i (by have := HL.out; omega)
        simp [List.getD, h1] at this
        rw [marks_get, this]; omega
      exact ⟨rfl, e ▸ HO'.out, HC.out, HZ.out⟩

set_option maxHeartbeats 400000 in
theorem heldIntS_any (a : Option Addr) (cap n : Nat) (K : Nat) (w : World) (B C : Nat) (h : RdI w B C a (marks K n)) (hl : n ≤ 1048576) (hK : K ≤ 1073741824) :
    Calls Try.prog 77 #[.slice a n cap, .int .i64 K] w fun e w' => e = .returned (.int .i64 ((K + n : Nat) : Int)) ∧ w = w' := by
  have HO := Lib.hid h
  clear h
  go_enter Try.func77, Try.ntmps77
  go_wp2_with fail
  go_loop [1, 4, 5] (fun m r i => ∃ j : Nat, j ≤ n ∧ i = .int .i64 j ∧ r = .int .i64 0 ∧ m = .int .i64 ((K + j : Nat) : Int)) (fun _ _ i => n - (intOf i).toNat)
  case atStart => exact ⟨0, Nat.zero_le _, rfl, rfl, rfl⟩
  case round =>
    obtain ⟨j, hj, rfl, rfl, rfl⟩ := hrel
    by_cases hlt : j < n
    · have hlt' : j < (marks K n).length := by rw [marks_len]; exact hlt
      obtain ⟨b, off, rfl, _, _, hd⟩ := HO.out.at j hlt'
      rw [marks_get] at hd
      have e1 : ((K + j : Nat) : Int) + 1 = ((K + (j + 1) : Nat) : Int) := by omega
      go_wp2_with fail
      go_round
      case rel => exact ⟨j + 1, by omega, by go_num, rfl, int_eq (by omega)⟩
      case measure => simp [intOf]; omega
    · obtain rfl : j = n := by omega
      go_wp2_with fail
      go_ret
      exact ⟨rfl, rfl⟩

set_option maxHeartbeats 400000 in
theorem markStream_any (a1 a2 : Option Addr) (c1 c2 : Nat) (l1 l2 : List Int) (K : Nat) (w : World) (B C : Nat) (h1 : OwI w 3 B C a1 c1 l1) (h2 : OwI w 3 B C a2 c2 l2) (hd : Dis a1 a2) (hC : C ≤ w.heap.size)
    (hl1 : l1.length ≤ 1048576) (hl2 : l2.length ≤ 1048576) (hK : K ≤ 1048576) :
    Calls Try.prog 33 #[.agg #[.slice a1 l1.length c1, .slice a2 l2.length c2], .int .i64 K] w fun e w' => e = .returned (.int .i64 ((K + l1.length + l2.length : Nat) : Int)) ∧
      OwI w' 3 B C a1 c1 (marks K l1.length) ∧ OwI w' 3 B C a2 c2 (marks (K + l1.length) l2.length) ∧ Chg (fun b => blockOf a1 = some b ∨ blockOf a2 = some b) w w' := by
  have hb0 := below_alloc w (.cells #[.slice a1 l1.length c1, .slice a2 l2.length c2] 34)
  have O1 := Lib.hid (h1.below hb0 hC)
  have O2 := Lib.hid (h2.below hb0 hC)
  have HC0 := Lib.hid ((Chg.refl (fun b => blockOf a1 = some b ∨ blockOf a2 = some b) w).alloc (.cells #[.slice a1 l1.length c1, .slice a2 l2.length c2] 34))
  have N1 := Lib.hid (h1.not_block (k := w.heap.size) (by omega))
  have N2 := Lib.hid (h2.not_block (k := w.heap.size) (by omega))
  have B0 := Lib.hid (alloc1 w (.cells #[.slice a1 l1.length c1, .slice a2 l2.length c2] 34))
  clear hb0 h1 h2
  go_enter Try.func33, Try.ntmps33
  go_wp2_with fail
  refine (markIntS_any a1 c1 l1 K _ B C O1.out hl1 (by omega)).mono ?_
  rintro e w1 ⟨rfl, o1, hc1, hz1⟩
  have hx := hc1.blk B0.out N1.out
  obtain ⟨p1, p2, _, _⟩ := blk2 hx
  have O1' := Lib.hid o1
  have O2' := Lib.hid (O2.out.keep hc1 (fun b hb hs => hd.blocks b hs hb))
  have HC1 := Lib.hid (HC0.out.trans (hc1.wide (fun k hk => .inl hk)))
  clear hx o1 hc1 hz1
  go_wp2_with fail
  refine (markIntS_any a2 c2 l2 (K + l1.length) _ B C O2'.out hl2 (by omega)).mono ?_
  rintro e w2 ⟨rfl, o2, hc2, hz2⟩
  have O1'' := Lib.hid (O1'.out.keep hc2 (fun b hb hs => hd.blocks b hb hs))
  have O2'' := Lib.hid o2
  have HC2 := Lib.hid (HC1.out.trans (hc2.wide (fun k hk => .inr hk)))
  clear o2 hc2 hz2
  go_wp2_with fail
  go_ret
  exact ⟨rfl, O1''.out, O2''.out, HC2.out⟩

set_option maxHeartbeats 400000 in
theorem heldStream_any (a1 a2 : Option Addr) (c1 c2 n1 n2 : Nat) (K : Nat) (w : World) (B C : Nat) (h1 : RdI w B C a1 (marks K n1)) (h2 : RdI w B C a2 (marks (K + n1) n2)) (hC : C ≤ w.heap.size)
    (hl1 : n1 ≤ 1048576) (hl2 : n2 ≤ 1048576) (hK : K ≤ 1048576) :
    Calls Try.prog 34 #[.agg #[.slice a1 n1 c1, .slice a2 n2 c2], .int .i64 K] w fun e w' => e = .returned (.int .i64 ((K + n1 + n2 : Nat) : Int)) ∧ Below w.heap.size w w' := by
  have hb0 := below_alloc w (.cells #[.slice a1 n1 c1, .slice a2 n2 c2] 34)
  have O1 := Lib.hid (h1.below hb0 hC)
  have O2 := Lib.hid (h2.below hb0 hC)
  have HB := Lib.hid hb0
  clear hb0 h1 h2
  have t1 : ¬ (((K + n1 : Nat) : Int) < 0) := by omega
  have t2 : ¬ (((K + n1 + n2 : Nat) : Int) < 0) := by omega
  go_enter Try.func34, Try.ntmps34
  go_wp2_with fail
  refine (heldIntS_any a1 c1 n1 K _ B C O1.out hl1 (by omega)).mono ?_
  rintro e w1 ⟨rfl, rfl⟩
  go_wp2_with fail
  refine (heldIntS_any a2 c2 n2 (K + n1) _ B C O2.out hl2 (by omega)).mono ?_
  rintro e w1 ⟨rfl, rfl⟩
  go_wp2_with fail
  go_ret
  exact ⟨rfl, HB.out⟩
end Go.Proofs.Ytgfoolneophkcaa
namespace Go.Proofs.Ytgfoolneophkcaa
open Go.RowKit Go.Hyp Go.Deep
set_option maxHeartbeats 400000 in
theorem alive1_any (w : World) : Calls Try.prog 31 #[] w fun e w' => e = .returned (.bool true) ∧ w = w' := by
  go_enter Try.func31, Try.ntmps31
  go_wp2
  go_ret
  exact ⟨ret_bool (by decide), rfl⟩
end Go.Proofs.Ytgfoolneophkcaa
namespace Go.Proofs.Ytgfoolneophkcaa
open Go.RowKit Go.Hyp Go.Deep

theorem Try.infoRow : (Try.prog.info? 29).map (fun i => (i.zero, i.size, i.bytes)) = some (some (.slice none 0 0), 1, 24) := by kernel_rfl

set_option maxHeartbeats 400000 in
theorem toIntSS_any (a : Option Addr) (cap : Nat) (p : List (List Int)) (w : World) (B C : Nat) (h : RdII w B C a p) (hC : C ≤ w.heap.size) (hl : p.length ≤ 1048576) (hls : lens p ≤ 1048576) :
    Calls Try.prog 39 #[.slice a p.length cap] w (RetII 3 29 p w) := by
  have hmk := run_make_row' (P := Try.prog) 48 29 _ _ Try.underlying48 Try.infoRow rfl .i64 .i64 p.length (by omega) (by omega)
  go_enter Try.func39, Try.ntmps39
  go_wp2_with fail
  go_loopw [4] (fun i wr => ∃ k : Nat, k ≤ p.length ∧ i = .int .i64 k ∧ PartII wr 3 29 (w.heap.size + 1) w.heap.size p.length p k ∧ Below w.heap.size w wr ∧ w.heap.size < wr.heap.size) (fun i _ => p.length - (intOf i).toNat)
  case atStart => exact ⟨0, Nat.zero_le _, rfl, .start ((World.rowIs_made w _ _ _).congr (fun i _ => rfl)), below_alloc _ _, by simp⟩
  case round =>
    obtain ⟨k, hk, rfl, hpart, hb, hz⟩ := hrel
    by_cases hlt : k < p.length
    · obtain ⟨b, off, a', c', rfl, h1, h2, hc, hr, hll⟩ := (h.below hb hC).at k hlt
      have hle : p[k].length ≤ 1048576 := Nat.le_trans (lens_at p k hlt) hls
      have HP := Lib.hid hpart
      have HB := Lib.hid hb
      have HR := Lib.hid hr
      clear hpart h hb hr
      go_wp2_with fail
      refine (toIntS_any a' c' p[k] _ B C HR.out (by have := HB.out.size; omega) hle).mono ?_
      rintro e w1 ⟨a'', c'', rfl, ho, hb1⟩
      obtain ⟨ra, rc, hrow, _, _⟩ := id HP.out
      have hrow1 := hrow.of_block (hb1.block _ hrow.lt)
      have hd := hrow1.cell hlt
      have hfz := hrow1.frozen k
      have HPS := Lib.hid (HP.out.step (k := k) hb1 ho (by simp [List.getD, hlt]) (by omega) (by omega))
      have HB1 := Lib.hid (HB.out.trans (hb1.mono (by omega)))
      have hz1 : w.heap.size < w1.heap.size := by have := hb1.size; omega
      clear hrow hrow1 ho hb1
      go_wp2_with fail
      go_roundw
      case rel => exact ⟨k + 1, by omega, by go_num, HPS.out, HB1.out.setCell (by simp) _, by simpa using hz1⟩
      case measure => simp [intOf]; omega
    · obtain rfl : k = p.length := by omega
      have HP := Lib.hid hpart
      clear hpart h
      go_wp2_with fail
      go_ret
      exact ⟨_, _, rfl, HP.out.done rfl (by unfold maxLen; omega), hb⟩

set_option maxHeartbeats 400000 in
theorem szIntSS_any (a : Option Addr) (cap : Nat) (p : List (List Int)) (n : Int) (w : World) (B C : Nat) (h : RdII w B C a p) (hl : p.length ≤ maxLen) (h0 : 0 ≤ n) (h1 : n ≤ 1048576) :
    Calls Try.prog 37 #[.slice a p.length cap, .int .i64 n] w fun e w' => e = .returned (.int .i64 (szII n p)) ∧ w = w' := by
  unfold maxLen at hl
  by_cases hlt : n < p.length
  · have hc : n - p.length < 0 := by omega
    go_enter Try.func37, Try.ntmps37
    go_wp2_with fail
    go_ret
    exact ⟨ret_int (by unfold szII; rw [if_pos (by omega)]), rfl⟩
  · have hc : ¬ (n - p.length < 0) := by omega
    go_enter Try.func37, Try.ntmps37
    go_wp2_with fail
    go_loop [1, 4, 5] (fun m r i => ∃ (k : Nat) (m' : Int), k ≤ p.length ∧ r = .int .i64 0 ∧ i = .int .i64 k ∧ m = .int .i64 m' ∧ 0 ≤ m' ∧ m' ≤ 1048576 ∧ m' = n - p.length - lens (p.take k)) (fun _ _ i => p.length - (intOf i).toNat)
    case atStart => exact ⟨0, _, Nat.zero_le _, rfl, rfl, rfl, by omega, by omega, by simp [lens]⟩
    case round =>
      obtain ⟨k, m', hk, rfl, rfl, rfl, hm0, hm1, hm⟩ := hrel
      have HM := Lib.hid hm
      clear hm
      by_cases hlt' : k < p.length
      · obtain ⟨b, off, a', c', rfl, _, _, hc, hr, hll⟩ := h.at k hlt'
        have HS := Lib.hid (lens_succ p k hlt')
        have HL := Lib.hid (lens_le p (k + 1))
        have HC := Lib.hid (szI_cases m' p[k].length)
        clear h hr
        by_cases hneg : szI m' p[k].length < 0
        · go_wp2_with fail
          refine (szIntS_any a' c' p[k].length m' _ hll hm0 hm1).mono ?_
          rintro e w' ⟨rfl, rfl⟩
          go_wp2_with fail
          go_ret
          exact ⟨ret_int (by unfold szII; rw [if_pos (by have := HM.out; have := HS.out; have := HL.out; rcases HC.out with hx | hx <;> omega)]), rfl⟩
        · go_wp2_with fail
          refine (szIntS_any a' c' p[k].length m' _ hll hm0 hm1).mono ?_
          rintro e w' ⟨rfl, rfl⟩
          go_wp2_with fail
          go_round
          case rel => exact ⟨k + 1, _, by omega, rfl, by go_num, rfl, by omega, by rcases HC.out with hx | hx <;> omega, by have := HM.out; have := HS.out; rcases HC.out with hx | hx <;> omega⟩
          case measure => simp [intOf]; omega
      · go_wp2_with fail
        go_ret
        exact ⟨ret_int (by have := HM.out; rw [List.take_of_length_le (by omega)] at this; unfold szII; rw [if_neg (by omega)]; omega), rfl⟩

set_option maxHeartbeats 400000 in
theorem eqIntSS_any (a a' : Option Addr) (cap cap' : Nat) (p p' : List (List Int)) (w : World) (B C B' C' : Nat) (h : RdII w B C a p) (h' : RdII w B' C' a' p') (hl : p.length ≤ maxLen) :
    Calls Try.prog 41 #[.slice a p.length cap, .slice a' p'.length cap'] w fun e w' => e = .returned (.bool (decide (p = p'))) ∧ Qt w w' := by
  unfold maxLen at hl
  by_cases hlen : p.length = p'.length
  · have hb : (((p.length : Nat) : Int) != ((p'.length : Nat) : Int)) = false := by simp [hlen]
    have Hlen := Lib.hid hlen
    clear hlen
    go_enter Try.func41, Try.ntmps41
    go_wp2_with fail
    go_loopw [4, 5] (fun r i wr => ∃ k : Nat, k ≤ p.length ∧ r = .bool false ∧ i = .int .i64 k ∧ p.take k = p'.take k ∧ Qt w wr) (fun _ i _ => p.length - (intOf i).toNat)
    case atStart => exact ⟨0, Nat.zero_le _, rfl, rfl, rfl, Qt.refl _⟩
    case round =>
      obtain ⟨k, hk, rfl, rfl, he, hq⟩ := hrel
      have HE := Lib.hid he
      have HQ := Lib.hid hq
      clear he hq
      by_cases hlt : k < p.length
      · have hlt' : k < p'.length := by have := Hlen.out; omega
        obtain ⟨b, off, x, c, rfl, _, _, hc, hr, hll⟩ := (h.agr HQ.out.agr).at k hlt
        obtain ⟨b', off', x', c', rfl, _, _, hc', hr', hll'⟩ := (h'.agr HQ.out.agr).at k hlt'
        have HR := Lib.hid hr
        have HR' := Lib.hid hr'
        clear h h' hr hr'
        by_cases hx : p[k] = p'[k]
        · have HX := Lib.hid hx
          have HC : Hid (∀ n, Calls Try.prog 48 #[.slice x p[k].length c, .slice x' p'[k].length c'] (wr.drewN n) fun e w' => e = .returned (.bool true) ∧ Qt (wr.drewN n) w') := fun n => by
            have h := eqIntS_any x x' c c' p[k] p'[k] (wr.drewN n) B C B' C' (HR.out.agr ((Qt.refl _).n n).agr) (HR'.out.agr ((Qt.refl _).n n).agr) hll hll'
            rwa [decide_eq_true hx] at h
          clear hx
          go_wp2_with fail
          go_quiet ((go_at_call 48; exact quietQ (HC.out _)))
          go_wp2_with fail
          go_roundw
          case rel => exact ⟨k + 1, by omega, rfl, by go_num, take_eq_succ hlt hlt' HE.out HX.out, HQ.out.n _⟩
          case measure => simp [intOf]; omega
        · have HX := Lib.hid hx
          have HC : Hid (∀ n, Calls Try.prog 48 #[.slice x p[k].length c, .slice x' p'[k].length c'] (wr.drewN n) fun e w' => e = .returned (.bool false) ∧ Qt (wr.drewN n) w') := fun n => by
            have h := eqIntS_any x x' c c' p[k] p'[k] (wr.drewN n) B C B' C' (HR.out.agr ((Qt.refl _).n n).agr) (HR'.out.agr ((Qt.refl _).n n).agr) hll hll'
            rwa [decide_eq_false hx] at h
          clear hx
          go_wp2_with fail
          go_quiet ((go_at_call 48; exact quietQ (HC.out _)))
          go_wp2_with fail
          go_ret
          exact ⟨ret_bool (by rw [decide_eq_false]; exact fun e => HX.out (by simp [e])), HQ.out.n _⟩
      · go_wp2_with fail
        go_ret
        exact ⟨ret_bool (by rw [decide_eq_true]; have e := HE.out; have := Hlen.out; rwa [List.take_of_length_le (by omega), List.take_of_length_le (by omega)] at e), HQ.out⟩
  · have hb : (((p.length : Nat) : Int) != ((p'.length : Nat) : Int)) = true := by simp; omega
    have hne : p ≠ p' := fun e => hlen (by rw [e])
    go_enter Try.func41, Try.ntmps41
    go_wp2_with fail
    go_ret
    exact ⟨ret_bool (by simp [hne]), Qt.refl _⟩

set_option maxHeartbeats 400000 in
theorem isPicture_any (a : Option Addr) (cap : Nat) (p : List (List Int)) (w : World) (B C : Nat) (h : RdII w B C a p) (hl : p.length ≤ maxLen) :
    Calls Try.prog 79 #[.slice a p.length cap] w fun e w' => e = .returned (.bool (picB p)) ∧ w = w' := by
  unfold maxLen at hl
  by_cases h1 : 1 ≤ p.length
  · by_cases h5 : p.length ≤ 5
    · go_enter Try.func79, Try.ntmps79
      go_wp2_with fail
      go_loop [2, 15] (fun r i => ∃ k : Nat, k ≤ p.length ∧ r = .bool false ∧ i = .int .i64 k ∧ rowsB p.length (p.take k) = true) (fun _ i => p.length - (intOf i).toNat)
      case atStart => exact ⟨0, Nat.zero_le _, rfl, rfl, rfl⟩
      case round =>
        obtain ⟨k, hk, rfl, rfl, hb⟩ := hrel
        have HB := Lib.hid hb
        clear hb
        by_cases hlt : k < p.length
        · obtain ⟨b, off, x, c, rfl, _, _, hc, hr, hll⟩ := h.at k hlt
          have HR := Lib.hid hr
          have HS := Lib.hid (rowsB_succ p.length p k hlt)
          have HN := Lib.hid (rowsB_no p.length p k hlt)
          clear h hr
          have hx : (bitsB p[k] && decide (p[k].length = p.length)) = true ∨ (bitsB p[k] && decide (p[k].length = p.length)) = false := by cases (bitsB p[k] && decide (p[k].length = p.length)) <;> simp
          generalize hy : (bitsB p[k] && decide (p[k].length = p.length)) = y at hx
          have HY := Lib.hid hy
          have HZ : Hid ((bitsB p[k] && ((p[k].length : Int) == (p.length : Int))) = y) := by rw [← hy]; exact congrArg (bitsB p[k] && ·) (by rw [Bool.eq_iff_iff]; simp; omega)
          clear hy
          rcases hx with rfl | rfl
          · go_wp2_with (go_at_call 97; refine (areBits_any _ _ _ _ _ B C HR.out hll).mono ?_; rintro e w' ⟨rfl, rfl⟩; rw [HZ.out])
            go_round
            case rel => exact ⟨k + 1, by omega, rfl, by go_num, by rw [HS.out, HB.out, HY.out]; rfl⟩
            case measure => simp [intOf]; omega
          · go_wp2_with (go_at_call 97; refine (areBits_any _ _ _ _ _ B C HR.out hll).mono ?_; rintro e w' ⟨rfl, rfl⟩; rw [HZ.out])
            go_ret
            exact ⟨ret_bool (by unfold picB; rw [HN.out HY.out]; simp), rfl⟩
        · have E1 : Hid (rowsB p.length p = true) := by have := HB.out; rwa [List.take_of_length_le (by omega)] at this
          go_wp2_with fail
          go_ret
          exact ⟨ret_bool (by unfold picB; rw [E1.out]; simp [h1, h5]), rfl⟩
    · go_enter Try.func79, Try.ntmps79
      go_wp2_with fail
      go_ret
      exact ⟨ret_bool (by unfold picB; simp [h1, h5]), rfl⟩
  · go_enter Try.func79, Try.ntmps79
    go_wp2_with fail
    go_ret
    exact ⟨ret_bool (by unfold picB; simp [h1]), rfl⟩

set_option maxHeartbeats 400000 in
theorem hasNode_any (a : Option Addr) (cap : Nat) (p : List (List Int)) (n : Int) (w : World) (B C : Nat) (h : RdII w B C a p) (hl : p.length ≤ maxLen) :
    Calls Try.prog 85 #[.slice a p.length cap, .int .i64 n] w fun e w' => e = .returned (.bool (nodeB p n)) ∧ w = w' := by
  have H := Lib.hid h
  have HL := Lib.hid hl
  clear h hl
  have hx : picB p = true ∨ picB p = false := by cases picB p <;> simp
  generalize hy : picB p = y at hx
  have HY := Lib.hid hy
  clear hy
  rcases hx with rfl | rfl
  · by_cases h0 : 0 ≤ n
    · by_cases h1 : n < p.length
      all_goals
        go_enter Try.func85, Try.ntmps85
        go_wp2_with (go_at_call 79; refine (isPicture_any _ _ _ _ B C H.out HL.out).mono ?_; rintro e w' ⟨rfl, rfl⟩; rw [HY.out])
        go_ret
        exact ⟨ret_bool (by unfold nodeB; rw [HY.out]; simp [h0, h1]), rfl⟩
    · go_enter Try.func85, Try.ntmps85
      go_wp2_with (go_at_call 79; refine (isPicture_any _ _ _ _ B C H.out HL.out).mono ?_; rintro e w' ⟨rfl, rfl⟩; rw [HY.out])
      go_ret
      exact ⟨ret_bool (by unfold nodeB; rw [HY.out, decide_eq_false (p := 0 ≤ n) (by omega)]; rfl), rfl⟩
  · go_enter Try.func85, Try.ntmps85
    go_wp2_with (go_at_call 79; refine (isPicture_any _ _ _ _ B C H.out HL.out).mono ?_; rintro e w' ⟨rfl, rfl⟩; rw [HY.out])
    go_ret
    exact ⟨ret_bool (by unfold nodeB; rw [HY.out]; simp), rfl⟩

set_option maxHeartbeats 800000 in
theorem specPictureOk_any (a : Option Addr) (cap : Nat) (p : List (List Int)) (w : World) (B C : Nat) (h : RdII w B C a p) (hl : p.length ≤ maxLen) :
    Calls Try.prog 78 #[.slice a p.length cap] w fun e w' => e = .returned (.bool (picB p)) ∧ w = w' := by
  unfold maxLen at hl
  go_enter Try.func78, Try.ntmps78
  go_wp2_with fail
  go_loop [2, 3] (fun r i => ∃ k : Nat, k ≤ p.length ∧ r = .bool false ∧ i = .int .i64 k ∧ rowsB p.length (p.take k) = true) (fun _ i => p.length - (intOf i).toNat)
  case atStart => exact ⟨0, Nat.zero_le _, rfl, rfl, rfl⟩
  case round =>
    obtain ⟨k, hk, rfl, rfl, hb⟩ := hrel
    have HB := Lib.hid hb
    clear hb
    by_cases hlt : k < p.length
    · obtain ⟨b, off, x, c, rfl, _, _, hc, hr, hll⟩ := h.at k hlt
      have HS := Lib.hid (rowsB_succ p.length p k hlt)
      have HN := Lib.hid (rowsB_no p.length p k hlt)
      clear h
      by_cases hlen : p[k].length = p.length
      · have hne : (((p[k].length : Nat) : Int) != ((p.length : Nat) : Int)) = false := by simp [hlen]
        have Hlen := Lib.hid hlen
        clear hlen
        go_wp2_with fail
        go_loop [2, 4] (fun r i => ∃ j : Nat, j ≤ p.length ∧ r = .bool false ∧ i = .int .i64 j ∧ bitsB (p[k].take j) = true) (fun _ i => p.length - (intOf i).toNat)
        case atStart => exact ⟨0, Nat.zero_le _, rfl, rfl, rfl⟩
        case round =>
          obtain ⟨j, hj, rfl, rfl, hb'⟩ := hrel
          have HB' := Lib.hid hb'
          clear hb'
          by_cases hlt' : j < p.length
          · have hlt2 : j < p[k].length := by rw [Hlen.out]; exact hlt'
            obtain ⟨b', off', rfl, _, _, hc'⟩ := hr.at j hlt2
            have HS' := Lib.hid (bitsB_succ p[k] j hlt2)
            have HN' := Lib.hid (bitsB_no p[k] j hlt2)
            clear hr
            have hx : bitB p[k][j] = true ∨ bitB p[k][j] = false := by cases bitB p[k][j] <;> simp
            generalize hy : bitB p[k][j] = y at hx
            have HY := Lib.hid hy
            clear hy
            rcases hx with rfl | rfl
            · go_wp2_with (go_at_call 64; refine (l1In_bit _ _).mono ?_; rintro e w' ⟨rfl, rfl⟩; rw [HY.out])
              go_round
              case rel => exact ⟨j + 1, by omega, rfl, by go_num, by rw [HS'.out, HB'.out, HY.out]; rfl⟩
              case measure => simp [intOf]; omega
            · go_wp2_with (go_at_call 64; refine (l1In_bit _ _).mono ?_; rintro e w' ⟨rfl, rfl⟩; rw [HY.out])
              go_ret
              exact ⟨ret_bool (by unfold picB; rw [HN.out (by rw [HN'.out HY.out]; rfl)]; simp), rfl⟩
          · have E1 : Hid (bitsB p[k] = true) := by have := HB'.out; rwa [List.take_of_length_le (by have := Hlen.out; omega)] at this
            clear HB'
            go_wp2_with fail
            go_round
            case rel => exact ⟨k + 1, by omega, rfl, by go_num, by rw [HS.out, HB.out, E1.out, decide_eq_true Hlen.out]; rfl⟩
            case measure => simp [intOf]; omega
      · have hne : (((p[k].length : Nat) : Int) != ((p.length : Nat) : Int)) = true := by simp; omega
        go_wp2_with fail
        go_ret
        exact ⟨ret_bool (by unfold picB; rw [HN.out (by rw [decide_eq_false hlen]; simp)]; simp), rfl⟩
    · have E1 : Hid (rowsB p.length p = true) := by have := HB.out; rwa [List.take_of_length_le (by omega)] at this
      go_wp2_with (go_at_call 64; refine (l1In_any _ _ _ _).mono ?_; rintro e w' ⟨rfl, rfl⟩)
      go_ret
      exact ⟨ret_bool (by unfold picB; rw [E1.out, Bool.and_true]; congr 1 <;> (rw [Bool.eq_iff_iff]; simp; omega)), rfl⟩

set_option maxHeartbeats 400000 in
theorem specNodeOk_any (a : Option Addr) (cap : Nat) (p : List (List Int)) (n : Int) (w : World) (B C : Nat) (h : RdII w B C a p) (hl : p.length ≤ maxLen) :
    Calls Try.prog 83 #[.slice a p.length cap, .int .i64 n] w fun e w' => e = .returned (.bool (nodeB p n)) ∧ w = w' := by
  have H := Lib.hid h
  have HL := Lib.hid hl
  have hl' := hl
  unfold maxLen at hl'
  clear h hl
  have hx : picB p = true ∨ picB p = false := by cases picB p <;> simp
  generalize hy : picB p = y at hx
  have HY := Lib.hid hy
  clear hy
  rcases hx with rfl | rfl
  · go_enter Try.func83, Try.ntmps83
    go_wp2_with (first | (go_at_call 78; refine (specPictureOk_any _ _ _ _ B C H.out HL.out).mono ?_; rintro e w' ⟨rfl, rfl⟩; rw [HY.out]) | (go_at_call 64; refine (l1In_any _ _ _ _).mono ?_; rintro e w' ⟨rfl, rfl⟩))
    go_ret
    exact ⟨ret_bool (by unfold nodeB; rw [HY.out]; congr 1; rw [Bool.eq_iff_iff]; simp; omega), rfl⟩
  · go_enter Try.func83, Try.ntmps83
    go_wp2_with (first | (go_at_call 78; refine (specPictureOk_any _ _ _ _ B C H.out HL.out).mono ?_; rintro e w' ⟨rfl, rfl⟩; rw [HY.out]) | (go_at_call 64; refine (l1In_any _ _ _ _).mono ?_; rintro e w' ⟨rfl, rfl⟩))
    go_ret
    exact ⟨ret_bool (by unfold nodeB; rw [HY.out]; simp), rfl⟩

end Go.Proofs.Ytgfoolneophkcaa
namespace Go.Proofs.Ytgfoolneophkcaa
open Go.RowKit Go.Hyp Go.Deep

set_option maxHeartbeats 400000 in
theorem sameInts_any (a a' : Option Addr) (cap cap' : Nat) (l l' : List Int) (w : World) (B C B' C' : Nat) (h : RdI w B C a l) (h' : RdI w B' C' a' l') (hl : l.length ≤ maxLen) (_hl' : l'.length ≤ maxLen) :
    Calls Try.prog 75 #[.slice a l.length cap, .slice a' l'.length cap'] w fun e w' => e = .returned (.bool (decide (l = l'))) ∧ ∃ n, w' = w.drewN n := by
  unfold maxLen at hl
  by_cases hlen : l.length = l'.length
  · have hb : (((l.length : Nat) : Int) != ((l'.length : Nat) : Int)) = false := by simp [hlen]
    have Hlen := Lib.hid hlen
    clear hlen
    go_enter Try.func75, Try.ntmps75
    go_wp2
    go_loopw [4, 5] (fun r i wr => ∃ k n : Nat, k ≤ l.length ∧ r = .bool false ∧ i = .int .i64 k ∧ l.take k = l'.take k ∧ wr = w.drewN n) (fun _ i _ => l.length - (intOf i).toNat)
    case atStart => exact ⟨0, 0, Nat.zero_le _, rfl, rfl, rfl, rfl⟩
    case round =>
      obtain ⟨k, n, hk, rfl, rfl, he, rfl⟩ := hrel
      have HE := Lib.hid he
      clear he
      by_cases hlt : k < l.length
      · have hlt' : k < l'.length := by have := Hlen.out; omega
        obtain ⟨b, off, rfl, h1, h2, hc⟩ := h.at k hlt
        obtain ⟨b', off', rfl, h1', h2', hc'⟩ := h'.at k hlt'
        clear h h'
        by_cases hx : l[k] = l'[k]
        · have hxb : (l[k] != l'[k]) = false := by simp [hx]
          have HX := Lib.hid hx
          clear hx
          go_wp2_with fail
          go_quiet (fail)
          go_wp2
          go_roundw
          case rel => exact ⟨k + 1, _, by omega, rfl, by go_num, take_eq_succ hlt hlt' HE.out HX.out, rfl⟩
          case measure => simp [intOf]; omega
        · have hxb : (l[k] != l'[k]) = true := by simp [hx]
          have HX := Lib.hid hx
          clear hx
          go_wp2_with fail
          go_quiet (fail)
          go_wp2
          go_ret
          exact ⟨ret_bool (by rw [decide_eq_false]; exact fun e => HX.out (by simp [e])), _, by rw [World.drewN_drewN]⟩
      · go_wp2
        go_ret
        exact ⟨ret_bool (by rw [decide_eq_true]; have e := HE.out; have := Hlen.out; rwa [List.take_of_length_le (by omega), List.take_of_length_le (by omega)] at e), _, rfl⟩
  · have hb : (((l.length : Nat) : Int) != ((l'.length : Nat) : Int)) = true := by simp; omega
    have hne : l ≠ l' := fun e => hlen (by rw [e])
    go_enter Try.func75, Try.ntmps75
    go_wp2
    go_ret
    exact ⟨ret_bool (by simp [hne]), 0, rfl⟩

set_option maxHeartbeats 400000 in
theorem sameRows_any (a a' : Option Addr) (cap cap' : Nat) (p p' : List (List Int)) (w : World) (B C B' C' : Nat) (h : RdII w B C a p) (h' : RdII w B' C' a' p') (hl : p.length ≤ maxLen) :
    Calls Try.prog 60 #[.slice a p.length cap, .slice a' p'.length cap'] w fun e w' => e = .returned (.bool (decide (p = p'))) ∧ Qt w w' := by
  unfold maxLen at hl
  by_cases hlen : p.length = p'.length
  · have hb : (((p.length : Nat) : Int) != ((p'.length : Nat) : Int)) = false := by simp [hlen]
    have Hlen := Lib.hid hlen
    clear hlen
    go_enter Try.func60, Try.ntmps60
    go_wp2_with fail
    go_loopw [4, 5] (fun r i wr => ∃ k : Nat, k ≤ p.length ∧ r = .bool false ∧ i = .int .i64 k ∧ p.take k = p'.take k ∧ Qt w wr) (fun _ i _ => p.length - (intOf i).toNat)
    case atStart => exact ⟨0, Nat.zero_le _, rfl, rfl, rfl, Qt.refl _⟩
    case round =>
      obtain ⟨k, hk, rfl, rfl, he, hq⟩ := hrel
      have HE := Lib.hid he
      have HQ := Lib.hid hq
      clear he hq
      by_cases hlt : k < p.length
      · have hlt' : k < p'.length := by have := Hlen.out; omega
        obtain ⟨b, off, x, c, rfl, _, _, hc, hr, hll⟩ := (h.agr HQ.out.agr).at k hlt
        obtain ⟨b', off', x', c', rfl, _, _, hc', hr', hll'⟩ := (h'.agr HQ.out.agr).at k hlt'
        have HR := Lib.hid hr
        have HR' := Lib.hid hr'
        clear h h' hr hr'
        by_cases hx : p[k] = p'[k]
        · have HX := Lib.hid hx
          have HC : Hid (∀ n, Calls Try.prog 75 #[.slice x p[k].length c, .slice x' p'[k].length c'] (wr.drewN n) fun e w' => e = .returned (.bool true) ∧ Qt (wr.drewN n) w') := fun n => by
            have h := sameInts_any x x' c c' p[k] p'[k] (wr.drewN n) B C B' C' (HR.out.agr ((Qt.refl _).n n).agr) (HR'.out.agr ((Qt.refl _).n n).agr) hll hll'
            rwa [decide_eq_true hx] at h
          clear hx
          go_wp2_with fail
          go_quiet ((go_at_call 75; exact quietQ (HC.out _)))
          go_wp2_with fail
          go_roundw
          case rel => exact ⟨k + 1, by omega, rfl, by go_num, take_eq_succ hlt hlt' HE.out HX.out, HQ.out.n _⟩
          case measure => simp [intOf]; omega
        · have HX := Lib.hid hx
          have HC : Hid (∀ n, Calls Try.prog 75 #[.slice x p[k].length c, .slice x' p'[k].length c'] (wr.drewN n) fun e w' => e = .returned (.bool false) ∧ Qt (wr.drewN n) w') := fun n => by
            have h := sameInts_any x x' c c' p[k] p'[k] (wr.drewN n) B C B' C' (HR.out.agr ((Qt.refl _).n n).agr) (HR'.out.agr ((Qt.refl _).n n).agr) hll hll'
            rwa [decide_eq_false hx] at h
          clear hx
          go_wp2_with fail
          go_quiet ((go_at_call 75; exact quietQ (HC.out _)))
          go_wp2_with fail
          go_ret
          exact ⟨ret_bool (by rw [decide_eq_false]; exact fun e => HX.out (by simp [e])), HQ.out.n _⟩
      · go_wp2_with fail
        go_ret
        exact ⟨ret_bool (by rw [decide_eq_true]; have e := HE.out; have := Hlen.out; rwa [List.take_of_length_le (by omega), List.take_of_length_le (by omega)] at e), HQ.out⟩
  · have hb : (((p.length : Nat) : Int) != ((p'.length : Nat) : Int)) = true := by simp; omega
    have hne : p ≠ p' := fun e => hlen (by rw [e])
    go_enter Try.func60, Try.ntmps60
    go_wp2_with fail
    go_ret
    exact ⟨ret_bool (by simp [hne]), Qt.refl _⟩

end Go.Proofs.Ytgfoolneophkcaa
namespace Go.Proofs.Ytgfoolneophkcaa
open Go.RowKit Go.Hyp Go.Deep

set_option maxHeartbeats 400000 in
theorem szStreamN_any (a1 a2 : Option Addr) (c1 c2 n1 n2 : Nat) (left : Int) (w : World) (hl1 : n1 ≤ maxLen) (hl2 : n2 ≤ maxLen) (h0 : 0 ≤ left) (hx : left ≤ 1048576) :
    Calls Try.prog 20 #[.agg #[.slice a1 n1 c1, .slice a2 n2 c2], .int .i64 left] w fun e w' => e = .returned (.int .i64 (szI (szI left n1) n2)) ∧ Below w.heap.size w w' := by
  have S1 := Lib.hid (szI_cases left n1)
  have S2 := Lib.hid (szI_cases (szI left n1) n2)
  have hlo : szI left n1 ≤ 1048576 := by rcases S1.out with h | h <;> omega
  by_cases hn : szI left n1 < 0
  · go_enter Try.func20, Try.ntmps20
    go_wp2_with fail
    refine (szIntS_any a1 c1 n1 _ _ hl1 (by omega) (by omega)).mono ?_
    rintro e w' ⟨rfl, rfl⟩
    go_wp2_with fail
    go_ret
    exact ⟨ret_int (by rcases S1.out with h | h <;> rcases S2.out with h' | h' <;> omega), below_alloc w _⟩
  · by_cases hn' : szI (szI left n1) n2 < 0
    all_goals
      go_enter Try.func20, Try.ntmps20
      go_wp2_with fail
      refine (szIntS_any a1 c1 n1 _ _ hl1 (by omega) (by omega)).mono ?_
      rintro e w' ⟨rfl, rfl⟩
      go_wp2_with fail
      refine (szIntS_any a2 c2 n2 _ _ hl2 (by omega) (by omega)).mono ?_
      rintro e w' ⟨rfl, rfl⟩
      go_wp2_with fail
      go_ret
      exact ⟨ret_int (by rcases S1.out with h | h <;> rcases S2.out with h' | h' <;> omega), below_alloc w _⟩
end Go.Proofs.Ytgfoolneophkcaa
