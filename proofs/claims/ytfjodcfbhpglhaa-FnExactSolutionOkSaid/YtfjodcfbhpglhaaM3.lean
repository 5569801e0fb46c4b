/- Walks of the small functions on slices of numbers that the laws use: what each computes. Walks of the functions on streams: what each computes. Walks of the functions on rows of numbers and on pictures: what each computes. The laws' marks: numbers written into owned memory, and found there again. Owned rows of bits: what a cell of theirs is, what a store makes of them, and append of a row. The laws' marks over rows of numbers. Walks of the functions on systems: what each computes. strconv.Itoa of one digit. The laws' alive. The laws' sameInts and sameRows. -/
import Derived.Test.YtfjodcfbhpglhaaRows
import Derived.BigQuiet
import Derived.Deep.QuietTactic
import Derived.Test.YtfjodcfbhpglhaaM1
namespace Go.Proofs.Ytfjodcfbhpglhaa
open Go.RowKit Go.Hyp Go.Deep

theorem Try.infoInt : (Try.prog.info? 3).map (fun i => (i.zero, i.size, i.bytes)) = some (some (.int .i64 0), 1, 8) := by kernel_rfl

set_option maxHeartbeats 400000 in
theorem toIntS_any (a : Option Addr) (cap : Nat) (l : List Int) (w : World) (B C : Nat) (h : RdI w B C a l) (hC : C ≤ w.heap.size) (hl : l.length ≤ 1048576) :
    Calls Try.prog 10 #[.slice a l.length cap] w (RetI 3 l w) := by
  have hmk := run_make_row' (P := Try.prog) 24 3 _ _ Try.underlying24 Try.infoInt rfl .i64 .i64 l.length (by omega) (by omega)
  go_enter Try.func10, Try.ntmps10
  go_wp2
  go_loopw [4] (fun i wr => ∃ k : Nat, k ≤ l.length ∧ i = .int .i64 k ∧ wr.rowIs w.heap.size 3 l.length (upTo l k) ∧ Below w.heap.size w wr ∧ w.heap.size < wr.heap.size) (fun i _ => l.length - (intOf i).toNat)
  case atStart => exact ⟨0, Nat.zero_le _, rfl, (World.rowIs_made w _ _ _).congr (fun i _ => rfl), below_alloc _ _, by simp⟩
  case round =>
    obtain ⟨k, hk, rfl, hrow, hb, hz⟩ := hrel
    by_cases hlt : k < l.length
    · obtain ⟨b, off, rfl, h1, h2, hc⟩ := (h.below hb hC).at k hlt
      have hd := hrow.cell hlt
      have hfz := hrow.frozen k
      have Hrow := Lib.hid hrow
      clear hrow h
      go_wp2
      go_roundw
      case rel => exact ⟨k + 1, by omega, by go_num, by have := upTo_succ Hrow.out; rwa [getD_lt hlt] at this, hb.setCell (by simp) _, by simpa using hz⟩
      case measure => simp [intOf]; omega
    · obtain rfl : k = l.length := by omega
      have Hrow := Lib.hid hrow
      clear hrow h
      go_wp2
      go_ret
      exact ⟨_, _, rfl, .inr ⟨_, _, rfl, Nat.le_refl _, hz, Hrow.out, Nat.le_refl _, by simp [maxLen]; omega, fun i hi => by simp [upTo, hi]⟩, hb⟩

set_option maxHeartbeats 400000 in
theorem szIntS_any (a : Option Addr) (cap n : Nat) (k : Int) (w : World) (hl : n ≤ maxLen) (h0 : 0 ≤ k) (h1 : k ≤ 1048576) :
    Calls Try.prog 41 #[.slice a n cap, .int .i64 k] w fun e w' => e = .returned (.int .i64 (szI k n)) ∧ w = w' := by
  unfold maxLen at hl
  by_cases hlt : k < n
  · have hc : k - n < 0 := by omega
    go_enter Try.func41, Try.ntmps41
    go_wp2
    go_ret
    exact ⟨ret_int (by unfold szI; rw [if_pos (by omega)]), rfl⟩
  · have hc : ¬ (k - n < 0) := by omega
    go_enter Try.func41, Try.ntmps41
    go_wp2
    go_ret
    exact ⟨ret_int (by unfold szI; rw [if_neg (by omega)]), rfl⟩

set_option maxHeartbeats 400000 in
theorem eqIntS_any (a a' : Option Addr) (cap cap' : Nat) (l l' : List Int) (w : World) (B C B' C' : Nat) (h : RdI w B C a l) (h' : RdI w B' C' a' l') (hl : l.length ≤ maxLen) (_hl' : l'.length ≤ maxLen) :
    Calls Try.prog 14 #[.slice a l.length cap, .slice a' l'.length cap'] w fun e w' => e = .returned (.bool (decide (l = l'))) ∧ ∃ n, w' = w.drewN n := by
  unfold maxLen at hl
  by_cases hlen : l.length = l'.length
  · have hb : (((l.length : Nat) : Int) != ((l'.length : Nat) : Int)) = false := by simp [hlen]
    have Hlen := Lib.hid hlen
    clear hlen
    go_enter Try.func14, Try.ntmps14
    go_wp2
    go_loopw [4, 5] (fun r i wr => ∃ k n : Nat, k ≤ l.length ∧ r = .bool false ∧ i = .int .i64 k ∧ l.take k = l'.take k ∧ wr = w.drewN n) (fun _ i _ => l.length - (intOf i).toNat)
    case atStart => exact ⟨0, 0, Nat.zero_le _, rfl, rfl, rfl, rfl⟩
    case round =>
      obtain ⟨k, n, hk, rfl, rfl, he, rfl⟩ := hrel
      have HE := Lib.hid he
      clear he
      by_cases hlt : k < l.length
      · have hlt' : k < l'.length := by have := Hlen.out; omega
        obtain ⟨b, off, rfl, h1, h2, hc⟩ := h.at k hlt
        obtain ⟨b', off', rfl, h1', h2', hc'⟩ := h'.at k hlt'
        clear h h'
        by_cases hx : l[k] = l'[k]
        · have hxb : (l[k] != l'[k]) = false := by simp [hx]
          have HX := Lib.hid hx
          clear hx
          go_wp2_with fail
          go_quiet (fail)
          go_wp2
          go_roundw
          case rel => exact ⟨k + 1, _, by omega, rfl, by go_num, take_eq_succ hlt hlt' HE.out HX.out, rfl⟩
          case measure => simp [intOf]; omega
        · have hxb : (l[k] != l'[k]) = true := by simp [hx]
          have HX := Lib.hid hx
          clear hx
          go_wp2_with fail
          go_quiet (fail)
          go_wp2
          go_ret
          exact ⟨ret_bool (by rw [decide_eq_false]; exact fun e => HX.out (by simp [e])), _, by rw [World.drewN_drewN]⟩
      · go_wp2
        go_ret
        exact ⟨ret_bool (by rw [decide_eq_true]; have e := HE.out; have := Hlen.out; rwa [List.take_of_length_le (by omega), List.take_of_length_le (by omega)] at e), _, rfl⟩
  · have hb : (((l.length : Nat) : Int) != ((l'.length : Nat) : Int)) = true := by simp; omega
    have hne : l ≠ l' := fun e => hlen (by rw [e])
    go_enter Try.func14, Try.ntmps14
    go_wp2
    go_ret
    exact ⟨ret_bool (by simp [hne]), 0, rfl⟩
end Go.Proofs.Ytfjodcfbhpglhaa
namespace Go.Proofs.Ytfjodcfbhpglhaa
open Go.RowKit Go.Hyp Go.Deep

set_option maxHeartbeats 400000 in
theorem areBits_any (a : Option Addr) (cap : Nat) (l : List Int) (n : Int) (w : World) (B C : Nat) (h : RdI w B C a l) (hl : l.length ≤ maxLen) :
    Calls Try.prog 44 #[.slice a l.length cap, .int .i64 n] w fun e w' => e = .returned (.bool (bitsB l && ((l.length : Int) == n))) ∧ w = w' := by
  unfold maxLen at hl
  go_enter Try.func44, Try.ntmps44
  go_wp2
  go_loop [4, 6, 9] (fun r _ i => ∃ k : Nat, k ≤ l.length ∧ r = .bool false ∧ i = .int .i64 k ∧ bitsB (l.take k) = true) (fun _ _ i => l.length - (intOf i).toNat)
  case atStart => exact ⟨0, Nat.zero_le _, rfl, rfl, rfl⟩
  case round =>
    obtain ⟨k, hk, rfl, rfl, hb⟩ := hrel
    have HB := Lib.hid hb
    clear hb
    by_cases hlt : k < l.length
    · obtain ⟨b, off, rfl, h1, h2, hc⟩ := h.at k hlt
      have HS := Lib.hid (bitsB_succ l k hlt)
      have HN := Lib.hid (bitsB_no l k hlt)
      clear h
      go_wp2
      · go_round
        case rel => exact ⟨k + 1, by omega, rfl, by go_num, by rw [HS.out, HB.out]; simp [bitB, *]⟩
        case measure => simp [intOf]; omega
      · go_ret
        rw [HN.out (by unfold bitB; simp_all)]
        exact ⟨rfl, rfl⟩
      · go_round
        case rel => exact ⟨k + 1, by omega, rfl, by go_num, by rw [HS.out, HB.out]; unfold bitB; simp_all⟩
        case measure => simp [intOf]; omega
    · go_wp2
      go_ret
      have hb := HB.out
      rw [List.take_of_length_le (by omega)] at hb
      exact ⟨ret_bool (by rw [hb]; rfl), rfl⟩

/-- The same, asked for the list's own length. -/
theorem areBits_own (a : Option Addr) (cap : Nat) (l : List Int) (w : World) (B C : Nat) (h : RdI w B C a l) (hl : l.length ≤ maxLen) :
    Calls Try.prog 44 #[.slice a l.length cap, .int .i64 l.length] w fun e w' => e = .returned (.bool (bitsB l)) ∧ w = w' :=
  (areBits_any a cap l l.length w B C h hl).mono fun e w' ⟨he, hw⟩ => ⟨by rw [he]; simp, hw⟩

set_option maxHeartbeats 400000 in
theorem l1In_any (n lo hi : Int) (w : World) : Calls Try.prog 26 #[.int .i64 n, .int .i64 lo, .int .i64 hi] w fun e w' => e = .returned (.bool (decide (lo ≤ n) && decide (n ≤ hi))) ∧ w = w' := by
  by_cases h1 : lo ≤ n
  · by_cases h2 : n ≤ hi
    all_goals
      go_enter Try.func26, Try.ntmps26
      go_wp2
      go_ret
      exact ⟨ret_bool (by simp [*]), rfl⟩
  · go_enter Try.func26, Try.ntmps26
    go_wp2
    go_ret
    exact ⟨ret_bool (by simp [*]; try omega), rfl⟩

/-- Asked whether a number is a bit. -/
theorem l1In_bit (n : Int) (w : World) : Calls Try.prog 26 #[.int .i64 n, .int .i64 0, .int .i64 1] w fun e w' => e = .returned (.bool (bitB n)) ∧ w = w' :=
  (l1In_any n 0 1 w).mono fun e w' ⟨he, hw⟩ => ⟨by rw [he, bitB_in], hw⟩

end Go.Proofs.Ytfjodcfbhpglhaa
namespace Go.Proofs.Ytfjodcfbhpglhaa
open Go.RowKit Go.Hyp Go.Deep

theorem Try.infoRow : (Try.prog.info? 24).map (fun i => (i.zero, i.size, i.bytes)) = some (some (.slice none 0 0), 1, 24) := by kernel_rfl

set_option maxHeartbeats 400000 in
theorem toIntSS_any (a : Option Addr) (cap : Nat) (p : List (List Int)) (w : World) (B C : Nat) (h : RdII w B C a p) (hC : C ≤ w.heap.size) (hl : p.length ≤ 1048576) (hls : lens p ≤ 1048576) :
    Calls Try.prog 29 #[.slice a p.length cap] w (RetII 3 24 p w) := by
  have hmk := run_make_row' (P := Try.prog) 38 24 _ _ Try.underlying38 Try.infoRow rfl .i64 .i64 p.length (by omega) (by omega)
  go_enter Try.func29, Try.ntmps29
  go_wp2_with fail
  go_loopw [4] (fun i wr => ∃ k : Nat, k ≤ p.length ∧ i = .int .i64 k ∧ PartII wr 3 24 (w.heap.size + 1) w.heap.size p.length p k ∧ Below w.heap.size w wr ∧ w.heap.size < wr.heap.size) (fun i _ => p.length - (intOf i).toNat)
  case atStart => exact ⟨0, Nat.zero_le _, rfl, .start ((World.rowIs_made w _ _ _).congr (fun i _ => rfl)), below_alloc _ _, by simp⟩
  case round =>
    obtain ⟨k, hk, rfl, hpart, hb, hz⟩ := hrel
    by_cases hlt : k < p.length
    · obtain ⟨b, off, a', c', rfl, h1, h2, hc, hr, hll⟩ := (h.below hb hC).at k hlt
      have hle : p[k].length ≤ 1048576 := Nat.le_trans (lens_at p k hlt) hls
      have HP := Lib.hid hpart
      have HB := Lib.hid hb
      have HR := Lib.hid hr
      clear hpart h hb hr
      go_wp2_with fail
      refine (toIntS_any a' c' p[k] _ B C HR.out (by have := HB.out.size; omega) hle).mono ?_
      rintro e w1 ⟨a'', c'', rfl, ho, hb1⟩
      obtain ⟨ra, rc, hrow, _, _⟩ := id HP.out
      have hrow1 := hrow.of_block (hb1.block _ hrow.lt)
      have hd := hrow1.cell hlt
      have hfz := hrow1.frozen k
      have HPS := Lib.hid (HP.out.step (k := k) hb1 ho (by simp [List.getD, hlt]) (by omega) (by omega))
      have HB1 := Lib.hid (HB.out.trans (hb1.mono (by omega)))
      have hz1 : w.heap.size < w1.heap.size := by have := hb1.size; omega
      clear hrow hrow1 ho hb1
      go_wp2_with fail
      go_roundw
      case rel => exact ⟨k + 1, by omega, by go_num, HPS.out, HB1.out.setCell (by simp) _, by simpa using hz1⟩
      case measure => simp [intOf]; omega
    · obtain rfl : k = p.length := by omega
      have HP := Lib.hid hpart
      clear hpart h
      go_wp2_with fail
      go_ret
      exact ⟨_, _, rfl, HP.out.done rfl (by unfold maxLen; omega), hb⟩

set_option maxHeartbeats 400000 in
theorem szIntSS_any (a : Option Addr) (cap : Nat) (p : List (List Int)) (n : Int) (w : World) (B C : Nat) (h : RdII w B C a p) (hl : p.length ≤ maxLen) (h0 : 0 ≤ n) (h1 : n ≤ 1048576) :
    Calls Try.prog 23 #[.slice a p.length cap, .int .i64 n] w fun e w' => e = .returned (.int .i64 (szII n p)) ∧ w = w' := by
  unfold maxLen at hl
  by_cases hlt : n < p.length
  · have hc : n - p.length < 0 := by omega
    go_enter Try.func23, Try.ntmps23
    go_wp2_with fail
    go_ret
    exact ⟨ret_int (by unfold szII; rw [if_pos (by omega)]), rfl⟩
  · have hc : ¬ (n - p.length < 0) := by omega
    go_enter Try.func23, Try.ntmps23
    go_wp2_with fail
    go_loop [1, 4, 5] (fun m r i => ∃ (k : Nat) (m' : Int), k ≤ p.length ∧ r = .int .i64 0 ∧ i = .int .i64 k ∧ m = .int .i64 m' ∧ 0 ≤ m' ∧ m' ≤ 1048576 ∧ m' = n - p.length - lens (p.take k)) (fun _ _ i => p.length - (intOf i).toNat)
    case atStart => exact ⟨0, _, Nat.zero_le _, rfl, rfl, rfl, by omega, by omega, by simp [lens]⟩
    case round =>
      obtain ⟨k, m', hk, rfl, rfl, rfl, hm0, hm1, hm⟩ := hrel
      have HM := Lib.hid hm
      clear hm
      by_cases hlt' : k < p.length
      · obtain ⟨b, off, a', c', rfl, _, _, hc, hr, hll⟩ := h.at k hlt'
        have HS := Lib.hid (lens_succ p k hlt')
        have HL := Lib.hid (lens_le p (k + 1))
        have HC := Lib.hid (szI_cases m' p[k].length)
        clear h hr
        by_cases hneg : szI m' p[k].length < 0
        · go_wp2_with fail
          refine (szIntS_any a' c' p[k].length m' _ hll hm0 hm1).mono ?_
          rintro e w' ⟨rfl, rfl⟩
          go_wp2_with fail
          go_ret
          exact ⟨ret_int (by unfold szII; rw [if_pos (by have := HM.out; have := HS.out; have := HL.out; rcases HC.out with hx | hx <;> omega)]), rfl⟩
        · go_wp2_with fail
          refine (szIntS_any a' c' p[k].length m' _ hll hm0 hm1).mono ?_
          rintro e w' ⟨rfl, rfl⟩
          go_wp2_with fail
          go_round
          case rel => exact ⟨k + 1, _, by omega, rfl, by go_num, rfl, by omega, by rcases HC.out with hx | hx <;> omega, by have := HM.out; have := HS.out; rcases HC.out with hx | hx <;> omega⟩
          case measure => simp [intOf]; omega
      · go_wp2_with fail
        go_ret
        exact ⟨ret_int (by have := HM.out; rw [List.take_of_length_le (by omega)] at this; unfold szII; rw [if_neg (by omega)]; omega), rfl⟩

set_option maxHeartbeats 400000 in
theorem eqIntSS_any (a a' : Option Addr) (cap cap' : Nat) (p p' : List (List Int)) (w : World) (B C B' C' : Nat) (h : RdII w B C a p) (h' : RdII w B' C' a' p') (hl : p.length ≤ maxLen) :
    Calls Try.prog 34 #[.slice a p.length cap, .slice a' p'.length cap'] w fun e w' => e = .returned (.bool (decide (p = p'))) ∧ Qt w w' := by
  unfold maxLen at hl
  by_cases hlen : p.length = p'.length
  · have hb : (((p.length : Nat) : Int) != ((p'.length : Nat) : Int)) = false := by simp [hlen]
    have Hlen := Lib.hid hlen
    clear hlen
    go_enter Try.func34, Try.ntmps34
    go_wp2_with fail
    go_loopw [4, 5] (fun r i wr => ∃ k : Nat, k ≤ p.length ∧ r = .bool false ∧ i = .int .i64 k ∧ p.take k = p'.take k ∧ Qt w wr) (fun _ i _ => p.length - (intOf i).toNat)
    case atStart => exact ⟨0, Nat.zero_le _, rfl, rfl, rfl, Qt.refl _⟩
    case round =>
      obtain ⟨k, hk, rfl, rfl, he, hq⟩ := hrel
      have HE := Lib.hid he
      have HQ := Lib.hid hq
      clear he hq
      by_cases hlt : k < p.length
      · have hlt' : k < p'.length := by have := Hlen.out; omega
        obtain ⟨b, off, x, c, rfl, _, _, hc, hr, hll⟩ := (h.agr HQ.out.agr).at k hlt
        obtain ⟨b', off', x', c', rfl, _, _, hc', hr', hll'⟩ := (h'.agr HQ.out.agr).at k hlt'
        have HR := Lib.hid hr
        have HR' := Lib.hid hr'
        clear h h' hr hr'
        by_cases hx : p[k] = p'[k]
        · have HX := Lib.hid hx
          have HC : Hid (∀ n, Calls Try.prog 14 #[.slice x p[k].length c, .slice x' p'[k].length c'] (wr.drewN n) fun e w' => e = .returned (.bool true) ∧ Qt (wr.drewN n) w') := fun n => by
            have h := eqIntS_any x x' c c' p[k] p'[k] (wr.drewN n) B C B' C' (HR.out.agr ((Qt.refl _).n n).agr) (HR'.out.agr ((Qt.refl _).n n).agr) hll hll'
            rwa [decide_eq_true hx] at h
          clear hx
          go_wp2_with fail
          go_quiet ((go_at_call 14; exact quietQ (HC.out _)))
          go_wp2_with fail
          go_roundw
          case rel => exact ⟨k + 1, by omega, rfl, by go_num, take_eq_succ hlt hlt' HE.out HX.out, HQ.out.n _⟩
          case measure => simp [intOf]; omega
        · have HX := Lib.hid hx
          have HC : Hid (∀ n, Calls Try.prog 14 #[.slice x p[k].length c, .slice x' p'[k].length c'] (wr.drewN n) fun e w' => e = .returned (.bool false) ∧ Qt (wr.drewN n) w') := fun n => by
            have h := eqIntS_any x x' c c' p[k] p'[k] (wr.drewN n) B C B' C' (HR.out.agr ((Qt.refl _).n n).agr) (HR'.out.agr ((Qt.refl _).n n).agr) hll hll'
            rwa [decide_eq_false hx] at h
          clear hx
          go_wp2_with fail
          go_quiet ((go_at_call 14; exact quietQ (HC.out _)))
          go_wp2_with fail
          go_ret
          exact ⟨ret_bool (by rw [decide_eq_false]; exact fun e => HX.out (by simp [e])), HQ.out.n _⟩
      · go_wp2_with fail
        go_ret
        exact ⟨ret_bool (by rw [decide_eq_true]; have e := HE.out; have := Hlen.out; rwa [List.take_of_length_le (by omega), List.take_of_length_le (by omega)] at e), HQ.out⟩
  · have hb : (((p.length : Nat) : Int) != ((p'.length : Nat) : Int)) = true := by simp; omega
    have hne : p ≠ p' := fun e => hlen (by rw [e])
    go_enter Try.func34, Try.ntmps34
    go_wp2_with fail
    go_ret
    exact ⟨ret_bool (by simp [hne]), Qt.refl _⟩

set_option maxHeartbeats 400000 in
theorem isPicture_any (a : Option Addr) (cap : Nat) (p : List (List Int)) (w : World) (B C : Nat) (h : RdII w B C a p) (hl : p.length ≤ maxLen) :
    Calls Try.prog 40 #[.slice a p.length cap] w fun e w' => e = .returned (.bool (picB p)) ∧ w = w' := by
  unfold maxLen at hl
  by_cases h1 : 1 ≤ p.length
  · by_cases h5 : p.length ≤ 5
    · go_enter Try.func40, Try.ntmps40
      go_wp2_with fail
      go_loop [2, 15] (fun r i => ∃ k : Nat, k ≤ p.length ∧ r = .bool false ∧ i = .int .i64 k ∧ rowsB p.length (p.take k) = true) (fun _ i => p.length - (intOf i).toNat)
      case atStart => exact ⟨0, Nat.zero_le _, rfl, rfl, rfl⟩
      case round =>
        obtain ⟨k, hk, rfl, rfl, hb⟩ := hrel
        have HB := Lib.hid hb
        clear hb
        by_cases hlt : k < p.length
        · obtain ⟨b, off, x, c, rfl, _, _, hc, hr, hll⟩ := h.at k hlt
          have HR := Lib.hid hr
          have HS := Lib.hid (rowsB_succ p.length p k hlt)
          have HN := Lib.hid (rowsB_no p.length p k hlt)
          clear h hr
          have hx : (bitsB p[k] && decide (p[k].length = p.length)) = true ∨ (bitsB p[k] && decide (p[k].length = p.length)) = false := by cases (bitsB p[k] && decide (p[k].length = p.length)) <;> simp
          generalize hy : (bitsB p[k] && decide (p[k].length = p.length)) = y at hx
          have HY := Lib.hid hy
          have HZ : Hid ((bitsB p[k] && ((p[k].length : Int) == (p.length : Int))) = y) := by rw [← hy]; exact congrArg (bitsB p[k] && ·) (by rw [Bool.eq_iff_iff]; simp; omega)
          clear hy
          rcases hx with rfl | rfl
          · go_wp2_with (go_at_call 44; refine (areBits_any _ _ _ _ _ B C HR.out hll).mono ?_; rintro e w' ⟨rfl, rfl⟩; rw [HZ.out])
            go_round
            case rel => exact ⟨k + 1, by omega, rfl, by go_num, by rw [HS.out, HB.out, HY.out]; rfl⟩
            case measure => simp [intOf]; omega
          · go_wp2_with (go_at_call 44; refine (areBits_any _ _ _ _ _ B C HR.out hll).mono ?_; rintro e w' ⟨rfl, rfl⟩; rw [HZ.out])
            go_ret
            exact ⟨ret_bool (by unfold picB; rw [HN.out HY.out]; simp), rfl⟩
        · have E1 : Hid (rowsB p.length p = true) := by have := HB.out; rwa [List.take_of_length_le (by omega)] at this
          go_wp2_with fail
          go_ret
          exact ⟨ret_bool (by unfold picB; rw [E1.out]; simp [h1, h5]), rfl⟩
    · go_enter Try.func40, Try.ntmps40
      go_wp2_with fail
      go_ret
      exact ⟨ret_bool (by unfold picB; simp [h1, h5]), rfl⟩
  · go_enter Try.func40, Try.ntmps40
    go_wp2_with fail
    go_ret
    exact ⟨ret_bool (by unfold picB; simp [h1]), rfl⟩

set_option maxHeartbeats 400000 in
theorem hasNode_any (a : Option Addr) (cap : Nat) (p : List (List Int)) (n : Int) (w : World) (B C : Nat) (h : RdII w B C a p) (hl : p.length ≤ maxLen) :
    Calls Try.prog 31 #[.slice a p.length cap, .int .i64 n] w fun e w' => e = .returned (.bool (nodeB p n)) ∧ w = w' := by
  have H := Lib.hid h
  have HL := Lib.hid hl
  clear h hl
  have hx : picB p = true ∨ picB p = false := by cases picB p <;> simp
  generalize hy : picB p = y at hx
  have HY := Lib.hid hy
  clear hy
  rcases hx with rfl | rfl
  · by_cases h0 : 0 ≤ n
    · by_cases h1 : n < p.length
      all_goals
        go_enter Try.func31, Try.ntmps31
        go_wp2_with (go_at_call 40; refine (isPicture_any _ _ _ _ B C H.out HL.out).mono ?_; rintro e w' ⟨rfl, rfl⟩; rw [HY.out])
        go_ret
        exact ⟨ret_bool (by unfold nodeB; rw [HY.out]; simp [h0, h1]), rfl⟩
    · go_enter Try.func31, Try.ntmps31
      go_wp2_with (go_at_call 40; refine (isPicture_any _ _ _ _ B C H.out HL.out).mono ?_; rintro e w' ⟨rfl, rfl⟩; rw [HY.out])
      go_ret
      exact ⟨ret_bool (by unfold nodeB; rw [HY.out, decide_eq_false (p := 0 ≤ n) (by omega)]; rfl), rfl⟩
  · go_enter Try.func31, Try.ntmps31
    go_wp2_with (go_at_call 40; refine (isPicture_any _ _ _ _ B C H.out HL.out).mono ?_; rintro e w' ⟨rfl, rfl⟩; rw [HY.out])
    go_ret
    exact ⟨ret_bool (by unfold nodeB; rw [HY.out]; simp), rfl⟩

set_option maxHeartbeats 800000 in
theorem specPictureOk_any (a : Option Addr) (cap : Nat) (p : List (List Int)) (w : World) (B C : Nat) (h : RdII w B C a p) (hl : p.length ≤ maxLen) :
    Calls Try.prog 25 #[.slice a p.length cap] w fun e w' => e = .returned (.bool (picB p)) ∧ w = w' := by
  unfold maxLen at hl
  go_enter Try.func25, Try.ntmps25
  go_wp2_with fail
  go_loop [2, 3] (fun r i => ∃ k : Nat, k ≤ p.length ∧ r = .bool false ∧ i = .int .i64 k ∧ rowsB p.length (p.take k) = true) (fun _ i => p.length - (intOf i).toNat)
  case atStart => exact ⟨0, Nat.zero_le _, rfl, rfl, rfl⟩
  case round =>
    obtain ⟨k, hk, rfl, rfl, hb⟩ := hrel
    have HB := Lib.hid hb
    clear hb
    by_cases hlt : k < p.length
    · obtain ⟨b, off, x, c, rfl, _, _, hc, hr, hll⟩ := h.at k hlt
      have HS := Lib.hid (rowsB_succ p.length p k hlt)
      have HN := Lib.hid (rowsB_no p.length p k hlt)
      clear h
      by_cases hlen : p[k].length = p.length
      · have hne : (((p[k].length : Nat) : Int) != ((p.length : Nat) : Int)) = false := by simp [hlen]
        have Hlen := Lib.hid hlen
        clear hlen
        go_wp2_with fail
        go_loop [2, 4] (fun r i => ∃ j : Nat, j ≤ p.length ∧ r = .bool false ∧ i = .int .i64 j ∧ bitsB (p[k].take j) = true) (fun _ i => p.length - (intOf i).toNat)
        case atStart => exact ⟨0, Nat.zero_le _, rfl, rfl, rfl⟩
        case round =>
          obtain ⟨j, hj, rfl, rfl, hb'⟩ := hrel
          have HB' := Lib.hid hb'
          clear hb'
          by_cases hlt' : j < p.length
          · have hlt2 : j < p[k].length := by rw [Hlen.out]; exact hlt'
            obtain ⟨b', off', rfl, _, _, hc'⟩ := hr.at j hlt2
            have HS' := Lib.hid (bitsB_succ p[k] j hlt2)
            have HN' := Lib.hid (bitsB_no p[k] j hlt2)
            clear hr
            have hx : bitB p[k][j] = true ∨ bitB p[k][j] = false := by cases bitB p[k][j] <;> simp
            generalize hy : bitB p[k][j] = y at hx
            have HY := Lib.hid hy
            clear hy
            rcases hx with rfl | rfl
            · go_wp2_with (go_at_call 26; refine (l1In_bit _ _).mono ?_; rintro e w' ⟨rfl, rfl⟩; rw [HY.out])
              go_round
              case rel => exact ⟨j + 1, by omega, rfl, by go_num, by rw [HS'.out, HB'.out, HY.out]; rfl⟩
              case measure => simp [intOf]; omega
            · go_wp2_with (go_at_call 26; refine (l1In_bit _ _).mono ?_; rintro e w' ⟨rfl, rfl⟩; rw [HY.out])
              go_ret
              exact ⟨ret_bool (by unfold picB; rw [HN.out (by rw [HN'.out HY.out]; rfl)]; simp), rfl⟩
          · have E1 : Hid (bitsB p[k] = true) := by have := HB'.out; rwa [List.take_of_length_le (by have := Hlen.out; omega)] at this
            clear HB'
            go_wp2_with fail
            go_round
            case rel => exact ⟨k + 1, by omega, rfl, by go_num, by rw [HS.out, HB.out, E1.out, decide_eq_true Hlen.out]; rfl⟩
            case measure => simp [intOf]; omega
      · have hne : (((p[k].length : Nat) : Int) != ((p.length : Nat) : Int)) = true := by simp; omega
        go_wp2_with fail
        go_ret
        exact ⟨ret_bool (by unfold picB; rw [HN.out (by rw [decide_eq_false hlen]; simp)]; simp), rfl⟩
    · have E1 : Hid (rowsB p.length p = true) := by have := HB.out; rwa [List.take_of_length_le (by omega)] at this
      go_wp2_with (go_at_call 26; refine (l1In_any _ _ _ _).mono ?_; rintro e w' ⟨rfl, rfl⟩)
      go_ret
      exact ⟨ret_bool (by unfold picB; rw [E1.out, Bool.and_true]; congr 1 <;> (rw [Bool.eq_iff_iff]; simp; omega)), rfl⟩

end Go.Proofs.Ytfjodcfbhpglhaa
namespace Go.Hyp
open Go.RowKit Go.Deep

/-- k, k + 1 and so on, n of them. -/
def marks (k n : Nat) : List Int := (List.range n).map fun i => ((k + i : Nat) : Int)
theorem marks_len (k n : Nat) : (marks k n).length = n := by simp [marks]
theorem marks_get (k n i : Nat) (h : i < (marks k n).length) : (marks k n)[i] = ((k + i : Nat) : Int) := by simp [marks]
theorem OwI.setAt {w : World} {E B C g cap : Nat} {l : List Int} (h : OwI w E B C (some ⟨g, 0, none⟩) cap l) (i : Nat) (hi : i < l.length) (v : Int) : OwI (w.setCell ⟨g, i, none⟩ (.int .i64 v)) E B C (some ⟨g, 0, none⟩) cap (l.set i v) := by
  rcases h with ⟨e, _⟩ | ⟨g', f, e, h1, h2, hr, hl, hm, hf⟩
  · cases e
  · cases e
    refine .inr ⟨g, _, rfl, h1, h2, hr.set i _, by simpa using hl, hm, fun j hj => ?_⟩
    rw [List.length_set] at hj
    by_cases e : j = i
    · subst e; simp [List.getD, hj]
    · rw [if_neg e, hf j hj]
      have e' : ¬ i = j := fun h => e h.symm
      simp [List.getD, e']
theorem OwI.cells {w : World} {E B C cap : Nat} {a : Option Addr} {l : List Int} (h : OwI w E B C a cap l) (i : Nat) (hi : i < l.length) : ∃ g, a = some ⟨g, 0, none⟩ ∧ B ≤ g ∧ g < C ∧ w.cell? ⟨g, i, none⟩ = some (.int .i64 l[i]) ∧ w.frozen? ⟨g, i, none⟩ = false ∧ g < w.heap.size := by
  rcases h with ⟨_, rfl, _⟩ | ⟨g, f, e, h1, h2, hr, hl, hm, hf⟩
  · simp at hi
  · exact ⟨g, e, h1, h2, by rw [hr.cell (by omega), hf i hi]; simp [List.getD, hi], hr.frozen i, hr.lt⟩
/-- Owned memory stays where nothing turned in its block. -/
theorem OwI.keep {S : Nat → Prop} {w w' : World} {E B C cap : Nat} {a : Option Addr} {l : List Int} (h : OwI w E B C a cap l) (hc : Chg S w w') (hS : ∀ b, blockOf a = some b → ¬ S b) : OwI w' E B C a cap l := by
  rcases h with h | ⟨g, f, e, h1, h2, hr, r⟩
  · exact .inl h
  · subst e
    exact .inr ⟨g, f, rfl, h1, h2, hr.of_block (hc.block g hr.lt (hS g rfl)), r⟩
theorem Dis.blocks {a a' : Option Addr} (h : Dis a a') (b : Nat) (h1 : blockOf a = some b) (h2 : blockOf a' = some b) : False := by
  cases a with
  | none => simp [blockOf] at h1
  | some x =>
    cases a' with
    | none => simp [blockOf] at h2
    | some y =>
      simp [blockOf] at h1 h2
      exact h x y rfl rfl (h1.trans h2.symm)
theorem Chg.wide {S T : Nat → Prop} {w w' : World} (h : Chg S w w') (hT : ∀ k, S k → T k) : Chg T w w' := ⟨h.os, h.tape, h.output, h.size, fun k hk hn => h.block k hk (fun hs => hn (hT k hs))⟩
end Go.Hyp
namespace Go.Proofs.Ytfjodcfbhpglhaa
open Go.RowKit Go.Hyp Go.Deep


end Go.Proofs.Ytfjodcfbhpglhaa
namespace Go.Hyp
open Go.RowKit Go.Deep

/-! ### rows -/
/-- A row of bits. -/
def rowOf (m : Nat) (f : Nat → Bool) : List Int := (List.range m).map fun j => if f j then 1 else 0
theorem rowOf_len (m : Nat) (f : Nat → Bool) : (rowOf m f).length = m := by simp [rowOf]
theorem rowOf_get (m : Nat) (f : Nat → Bool) (j : Nat) (h : j < (rowOf m f).length) : (rowOf m f)[j] = if f j then 1 else 0 := by simp [rowOf]
theorem rowOf_take (m : Nat) (f : Nat → Bool) (j : Nat) (h : j < m) : (rowOf m f).take (j + 1) = (rowOf m f).take j ++ [if f j then 1 else 0] := by
  rw [List.take_succ_eq_append_getElem (by rw [rowOf_len]; exact h), rowOf_get]
theorem rowOf_all (m : Nat) (f : Nat → Bool) : (rowOf m f).take m = rowOf m f := List.take_of_length_le (by rw [rowOf_len]; exact Nat.le_refl _)
theorem rowOf_congr {m : Nat} {f g : Nat → Bool} (h : ∀ j, j < m → f j = g j) : rowOf m f = rowOf m g := by
  unfold rowOf
  apply List.map_congr_left
  intro j hj
  rw [h j (by simpa using hj)]
theorem mat_get (n m : Nat) (f : Nat → Nat → Bool) (i : Nat) (h : i < (mat n m f).length) : (mat n m f)[i] = rowOf m (f i) := by simp [mat, rowOf]
theorem mat_get? (n m : Nat) (f : Nat → Nat → Bool) (i : Nat) (h : i < n) : (mat n m f).getD i [] = rowOf m (f i) := mat_getD n m f i h
theorem mat_take (n m : Nat) (f : Nat → Nat → Bool) (i : Nat) (h : i < n) : (mat n m f).take (i + 1) = (mat n m f).take i ++ [rowOf m (f i)] := by
  rw [List.take_succ_eq_append_getElem (by rw [mat_len]; exact h), mat_get]
theorem mat_all (n m : Nat) (f : Nat → Nat → Bool) : (mat n m f).take n = mat n m f := List.take_of_length_le (by rw [mat_len]; exact Nat.le_refl _)

/-! ### reading square rows of bits -/
theorem RdII.bit {w : World} {B C : Nat} {a : Option Addr} {p : List (List Int)} (h : RdII w B C a p) (hs : Sq p) (i j : Nat) (hi : i < p.length) (hj : j < p.length) :
    ∃ b off b' off' cap, a = some ⟨b, off, none⟩ ∧ B ≤ b ∧ b < C ∧ w.cell? ⟨b, off + i, none⟩ = some (.slice (some ⟨b', off', none⟩) p.length cap) ∧ B ≤ b' ∧ b' < C ∧ w.cell? ⟨b', off' + j, none⟩ = some (.int .i64 (if arr p i j then 1 else 0)) := by
  obtain ⟨b, off, a', cap, e, h1, h2, hc, hr, hl⟩ := h i hi
  have hrow := hs.row i hi
  have e' : p.getD i [] = p[i] := by simp [List.getD, hi]
  rw [e', hrow.1] at hc
  obtain ⟨b', off', ea, h1', h2', hc'⟩ := hr j (by rw [e', hrow.1]; exact hj)
  rw [hs.bit i j hi hj] at hc'
  subst ea
  exact ⟨b, off, b', off', cap, e, h1, h2, hc, h1', h2', hc'⟩
theorem RdII.rowAt {w : World} {B C : Nat} {a : Option Addr} {p : List (List Int)} (h : RdII w B C a p) (hs : Sq p) (i : Nat) (hi : i < p.length) :
    ∃ b off a' cap, a = some ⟨b, off, none⟩ ∧ B ≤ b ∧ b < C ∧ w.cell? ⟨b, off + i, none⟩ = some (.slice a' p.length cap) ∧ RdI w B C a' (rowOf p.length (arr p i)) := by
  obtain ⟨b, off, a', cap, e, h1, h2, hc, hr, hl⟩ := h i hi
  have hrow := hs.row i hi
  have e' : p.getD i [] = p[i] := by simp [List.getD, hi]
  rw [e', hrow.1] at hc
  have er : p[i] = rowOf p.length (arr p i) := by
    have := hs.eq_mat
    have h2 : p[i] = (mat p.length p.length (arr p))[i]'(by rw [mat_len]; exact hi) := by congr 1
    rw [h2, mat_get]
  rw [e', er] at hr
  exact ⟨b, off, a', cap, e, h1, h2, hc, hr⟩

/-! ### owned rows -/
theorem OwII.len {w : World} {E R B C : Nat} {a : Option Addr} {cap : Nat} {p : List (List Int)} (h : OwII w E R B C a cap p) : p.length ≤ maxLen := by
  obtain ⟨ra, rc, h1, _⟩ := h
  rcases h1 with ⟨_, h0, _⟩ | ⟨g, F, _, _, _, _, h5, h6, _⟩ <;> omega
theorem OwII.nilcap {w : World} {E R B C : Nat} {a : Option Addr} {cap : Nat} {p : List (List Int)} (h : OwII w E R B C a cap p) : a = none → cap = 0 := by
  intro e
  obtain ⟨ra, rc, h1, _⟩ := h
  rcases h1 with ⟨_, _, h⟩ | ⟨g, F, h, _⟩
  · exact h
  · rw [h] at e; cases e
theorem OwII.block_in {w : World} {E R B C k : Nat} {a : Option Addr} {cap : Nat} {p : List (List Int)} (h : OwII w E R B C a cap p) (hk : blockOf a = some k) : B ≤ k ∧ k < C := by
  obtain ⟨ra, rc, h1, _⟩ := h
  rcases h1 with ⟨rfl, _⟩ | ⟨g, F, rfl, h1, h2, _⟩
  · simp [blockOf] at hk
  · simp [blockOf] at hk; omega
theorem OwII_nil (w : World) (E R B C : Nat) : OwII w E R B C none 0 [] := ⟨fun _ => none, fun _ => 0, .inl ⟨rfl, rfl, rfl⟩, fun i hi => by simp at hi, fun i j _ hj => by simp at hj, fun i hi => by simp at hi⟩
theorem OwII_empty (w : World) (E R : Nat) : OwII (w.alloc (.cells #[] R)) E R w.heap.size (w.heap.size + 1) (some ⟨w.heap.size, 0, none⟩) 0 [] :=
  ⟨fun _ => none, fun _ => 0, .inr ⟨w.heap.size, fun _ => undef, rfl, Nat.le_refl _, Nat.lt_succ_self _, ⟨#[], alloc1 _ _, rfl, fun i hi => by omega⟩, Nat.le_refl _, by simp, fun i hi => by simp at hi⟩, fun i hi => by simp at hi, fun i j _ hj => by simp at hj, fun i hi => by simp at hi⟩
theorem OwI_nil (w : World) (E B C : Nat) : OwI w E B C none 0 [] := .inl ⟨rfl, rfl, rfl⟩

/-- A cell of owned rows, and what a store there makes of them. -/
theorem OwII.at2 {w : World} {E R B C : Nat} {a : Option Addr} {cap : Nat} {p : List (List Int)} (h : OwII w E R B C a cap p) (i j : Nat) (hi : i < p.length) (hj : j < (p.getD i []).length) :
    ∃ g f ci, a = some ⟨g, 0, none⟩ ∧ B ≤ g ∧ g < C ∧ g < w.heap.size ∧ w.cell? ⟨g, i, none⟩ = some (.slice (some ⟨f, 0, none⟩) (p.getD i []).length ci) ∧ B ≤ f ∧ f < C ∧ f < w.heap.size ∧
      w.cell? ⟨f, j, none⟩ = some (.int .i64 ((p.getD i []).getD j 0)) ∧ w.frozen? ⟨f, j, none⟩ = false ∧ g ≠ f ∧
      ∀ x, OwII (w.setCell ⟨f, j, none⟩ (.int .i64 x)) E R B C a cap (p.set i ((p.getD i []).set j x)) := by
  obtain ⟨ra, rc, h1, h2, h3, h4⟩ := h
  rcases h1 with ⟨_, h0, _⟩ | ⟨g, F, e, g1, g2, hr, hl, hm, hf⟩
  · omega
  · have hi2 := h2 i hi
    rcases id hi2 with ⟨_, hn, _⟩ | ⟨f, G, ef, f1, f2, fr, fl, fm, ff⟩
    · rw [hn] at hj; simp at hj
    · have hgf : g ≠ f := h4 i hi _ _ e ef
      refine ⟨g, f, rc i, e, g1, g2, hr.lt, by rw [hr.cell (by omega), hf i hi]; show some (Value.slice (ra i) _ _) = _; rw [ef], f1, f2, fr.lt, by rw [fr.cell (by omega), ff j hj], fr.frozen j, hgf, fun x => ?_⟩
      have hls : (p.set i ((p.getD i []).set j x)).length = p.length := by simp
      have eg : ∀ k, k < p.length → (p.set i ((p.getD i []).set j x)).getD k [] = if k = i then (p.getD i []).set j x else p.getD k [] := fun k hk => by
        unfold List.getD
        rw [List.getElem?_set]
        by_cases e : i = k
        · subst e; simp [hk]
        · rw [if_neg e, if_neg (fun h => e h.symm)]
      refine ⟨ra, rc, .inr ⟨g, F, e, g1, g2, hr.setOther (a := ⟨f, j, none⟩) hgf _, by omega, hm, fun k hk => ?_⟩, fun k hk => ?_, fun k m hkm hm' => h3 k m hkm (by omega), fun k hk => h4 k (by omega)⟩
      · rw [hls] at hk
        rw [hf k hk]
        show Value.slice (ra k) (p.getD k []).length (rc k) = Value.slice (ra k) (List.getD _ k []).length (rc k)
        rw [eg k hk]
        by_cases e : k = i
        · subst e; rw [if_pos rfl]; simp
        · rw [if_neg e]
      · rw [hls] at hk
        rw [eg k hk]
        by_cases ek : k = i
        · subst ek
          rw [if_pos rfl]
          have := OwI.setAt (ef ▸ hi2) j hj x
          rw [ef]; exact this
        · rw [if_neg ek]
          rcases h2 k hk with hn | ⟨gk, Gk, ek', q1, q2, qr, qq⟩
          · exact .inl hn
          · have hd : gk ≠ f := by
              rcases Nat.lt_or_gt_of_ne ek with hlt | hlt
              · exact h3 k i hlt hi _ _ ek' ef
              · exact fun e => (h3 i k hlt hk _ _ ef ek') e.symm
            exact .inr ⟨gk, Gk, ek', q1, q2, qr.setOther (a := ⟨f, j, none⟩) hd _, qq⟩
theorem mat_set (n m : Nat) (f g : Nat → Nat → Bool) (i j : Nat) (hi : i < n) (b : Bool) (hg : ∀ x y, x < n → y < m → g x y = if x = i ∧ y = j then b else f x y) :
    (mat n m f).set i ((rowOf m (f i)).set j (if b then 1 else 0)) = mat n m g := by
  apply List.ext_getElem (by simp [mat_len])
  intro x h1 h2
  have hx : x < n := by rw [mat_len] at h2; exact h2
  rw [mat_get, List.getElem_set]
  by_cases e : i = x
  · subst e
    rw [if_pos rfl]
    apply List.ext_getElem (by simp [rowOf_len])
    intro y k1 k2
    have hy : y < m := by rw [rowOf_len] at k2; exact k2
    rw [List.getElem_set, rowOf_get m (g i) y k2, hg i y hx hy]
    by_cases e : j = y
    · subst e; simp
    · have e2 : ¬ (i = i ∧ y = j) := fun h => e h.2.symm
      rw [if_neg e, rowOf_get, if_neg e2]
  · rw [if_neg e, mat_get]
    refine rowOf_congr fun y hy => ?_
    rw [hg x y hx hy, if_neg (fun h => e h.1.symm)]
/-- The same of bits. -/
theorem OwII.bitAt {w : World} {E R B C : Nat} {a : Option Addr} {cap n m : Nat} {f : Nat → Nat → Bool} (h : OwII w E R B C a cap (mat n m f)) (i j : Nat) (hi : i < n) (hj : j < m) :
    ∃ g r ci, a = some ⟨g, 0, none⟩ ∧ B ≤ g ∧ g < C ∧ g < w.heap.size ∧ w.cell? ⟨g, i, none⟩ = some (.slice (some ⟨r, 0, none⟩) m ci) ∧ B ≤ r ∧ r < C ∧ r < w.heap.size ∧
      w.cell? ⟨r, j, none⟩ = some (.int .i64 (if f i j then 1 else 0)) ∧ w.frozen? ⟨r, j, none⟩ = false ∧ g ≠ r ∧
      ∀ (b : Bool) (g' : Nat → Nat → Bool), (∀ x y, x < n → y < m → g' x y = if x = i ∧ y = j then b else f x y) → OwII (w.setCell ⟨r, j, none⟩ (.int .i64 (if b then 1 else 0))) E R B C a cap (mat n m g') := by
  have e := mat_get? n m f i hi
  obtain ⟨g, r, ci, h1, h2, h3, h4, h5, h6, h7, h8, h9, h10, h11, h12⟩ := h.at2 i j (by rw [mat_len]; exact hi) (by rw [e, rowOf_len]; exact hj)
  rw [e, rowOf_len] at h5
  rw [e] at h9 h12
  have e2 : (rowOf m (f i)).getD j 0 = if f i j then 1 else 0 := by
    rw [getD_lt (by rw [rowOf_len]; exact hj), rowOf_get]
  rw [e2] at h9
  refine ⟨g, r, ci, h1, h2, h3, h4, h5, h6, h7, h8, h9, h10, h11, fun b g' hg => ?_⟩
  have := h12 (if b then 1 else 0)
  rwa [mat_set n m f g' i j hi b hg] at this

section
variable {P : Program}
/-- append of one row, which lies in a block of its own, to rows that the call owns. -/
theorem appII_of {E R B C : Nat} {w w' : World} {a0 a1 : Option Addr} {cap cap' : Nat} {p : List (List Int)} {l : List Int} {ar : Option Addr} {cr Br Cr : Nat} {ra : Nat → Option Addr} {rc : Nat → Nat}
    (h1 : OwV w R B C a0 cap p.length (fun i => .slice (ra i) (p.getD i []).length (rc i))) (h2 : ∀ i, i < p.length → OwI w E B C (ra i) (rc i) (p.getD i [])) (h3 : ∀ i j, i < j → j < p.length → Dis (ra i) (ra j)) (h4 : ∀ i, i < p.length → Dis a0 (ra i))
    (hC : C ≤ w.heap.size) (hrow : OwI w E Br Cr ar cr l) (hBr : C ≤ Br) (hBB : B ≤ Br) (hCr : Cr ≤ w.heap.size)
    (hv : OwV w' R B w'.heap.size a1 cap' (p.length + 1) (fun i => if i < p.length then .slice (ra i) (p.getD i []).length (rc i) else [Value.slice ar l.length cr].getD (i - p.length) undef))
    (hg : w.grownBy w' (blockOf a0)) (hb : blockOf a1 = blockOf a0 ∨ blockOf a1 = some w.heap.size) : OwII w' E R B w'.heap.size a1 cap' (p ++ [l]) := by
  have h : OwII w E R B C a0 cap p := ⟨ra, rc, h1, h2, h3, h4⟩
  have hkeep : ∀ k, k < w.heap.size → blockOf a0 ≠ some k → w'.heap[k]? = w.heap[k]? := fun k hk hne => hg.block k hk (fun e => hne e.symm)
  have hlen : (p ++ [l]).length = p.length + 1 := by simp
  have eg : ∀ i, i < p.length → (p ++ [l]).getD i [] = p.getD i [] := fun i hi => by simp [List.getD, List.getElem?_append_left hi]
  have el : (p ++ [l]).getD p.length [] = l := by simp [List.getD]
  refine ⟨fun j => if j = p.length then ar else ra j, fun j => if j = p.length then cr else rc j, ?_, ?_, ?_, ?_⟩
  · rw [hlen]
    refine hv.congr fun i hi => ?_
    by_cases e : i = p.length
    · subst e; simp
    · have hi' : i < p.length := by omega
      rw [if_pos hi', eg i hi']; simp only [if_neg e]
  · intro i hi
    rw [hlen] at hi
    by_cases e : i = p.length
    · subst e
      simp only [if_true, el]
      exact (hrow.agr (fun k k1 k2 => hkeep k (by omega) (fun e => by have := h.block_in e; omega))).mono (by omega) (Nat.le_trans hCr hg.size)
    · have hi' : i < p.length := by omega
      simp only [if_neg e]
      rw [eg i hi']
      rcases h2 i hi' with hn | ⟨gi, Gi, ei, q1, q2, qr, qq⟩
      · exact .inl hn
      · refine .inr ⟨gi, Gi, ei, q1, Nat.lt_of_lt_of_le q2 (Nat.le_trans hC hg.size), qr.of_block (hkeep gi (by omega) (fun e => ?_)), qq⟩
        cases a0 with
        | none => simp [blockOf] at e
        | some x0 =>
          have hd := h4 i hi' x0 ⟨gi, 0, none⟩ rfl ei
          simp [blockOf] at e
          exact hd e
  · intro i j hij hj
    rw [hlen] at hj
    by_cases e : j = p.length
    · subst e
      simp only [if_true, if_neg (show i ≠ p.length by omega)]
      exact (h2 i (by omega)).dis hrow hBr
    · simp only [if_neg e, if_neg (show i ≠ p.length by omega)]
      exact h3 i j hij (by omega)
  · intro i hi x y hx hy
    rw [hlen] at hi
    have hx' : blockOf a1 = some x.block := by rw [hx]; rfl
    have key : ∀ k, k < w.heap.size → (blockOf a0 = some k → False) → x.block ≠ k := by
      intro k hk hn e
      rcases hb with hb | hb
      · rw [hb, e] at hx'; exact hn hx'
      · rw [hb] at hx'; simp at hx'; omega
    by_cases e : i = p.length
    · subst e
      simp only [if_true] at hy
      rcases hrow with ⟨e, _⟩ | ⟨gn, Gn, en, n1, n2, _⟩
      · rw [e] at hy; cases hy
      · rw [en] at hy; cases hy
        exact key gn (by omega) (fun e => by have := h.block_in e; omega)
    · simp only [if_neg e] at hy
      rcases h2 i (by omega) with ⟨e, _⟩ | ⟨gi, Gi, ei, q1, q2, _⟩
      · rw [e] at hy; cases hy
      · have hd := h4 i (by omega)
        rw [ei] at hy; cases hy
        refine key gi (by omega) (fun e => ?_)
        cases a0 with
        | none => simp [blockOf] at e
        | some x0 =>
          simp [blockOf] at e
          exact hd x0 ⟨gi, 0, none⟩ rfl ei e
theorem blockOf_some {a1 : Option Addr} {k : Nat} (h : blockOf a1 = some k) : ∃ o s, a1 = some ⟨k, o, s⟩ := by
  cases a1 with
  | none => simp [blockOf] at h
  | some x => obtain ⟨b, o, s⟩ := x; simp [blockOf] at h; subst h; exact ⟨o, s, rfl⟩
theorem wpList_appII {E R S : Nat} (hT : P.underlying S = some (.slice R)) (hE : (P.info? R).map (fun i => (i.zero, i.size, i.bytes)) = some (some (.slice none 0 0), 1, 24))
    (w : World) {ops : Array Oper} {rest : List Oper} {o : Oper} {a : Act} {Q : Exit → Act → World → Prop} (hgd : o.guard = none) (s x : Operand)
    (ho : o.op = .call { callee := .builtin .append, args := #[s, x], argTypes := #[S, S] }) (B C : Nat) (a0 : Option Addr) (cap : Nat) (p : List (List Int)) (hs : a.eval s = .slice a0 p.length cap) (hown : OwII w E R B C a0 cap p)
    (hB : B ≤ w.heap.size) (hC : C ≤ w.heap.size) (ad : Addr) (ar : Option Addr) (cr : Nat) (l : List Int) (hx : a.eval x = .slice (some ad) 1 1) (hnew : w.cell? (ad.add 0) = some (.slice ar l.length cr))
    (Br Cr : Nat) (hrow : OwI w E Br Cr ar cr l) (hBr : C ≤ Br) (hBB : B ≤ Br) (hCr : Cr ≤ w.heap.size) (hl : p.length ≤ 1048576)
    (h : ∀ a1 cap' (w' : World), OwII w' E R B w'.heap.size a1 cap' (p ++ [l]) → w.grownBy w' (blockOf a0) → (blockOf a1 = blockOf a0 ∨ blockOf a1 = some w.heap.size) →
      wpList P ops Q rest (a.put o.dst (.slice a1 (p.length + 1) cap')) w') : wpList P ops Q (o :: rest) a w := by
  obtain ⟨ra, rc, h1, h2, h3, h4⟩ := id hown
  refine wpList_plain hgd fun K hK => wp_appVs hT hE rfl (by omega) w s x ho B C a0 cap p.length (fun i => .slice (ra i) (p.getD i []).length (rc i)) hs h1 hB (some ad) 1 1 [.slice ar l.length cr] hx rfl ?_ (fun e => by cases e) (by simp [Value.oneCell']) (by omega) ?_
  · intro ad' e j u hu
    cases e
    match j, hu with
    | 0, hu => simp at hu; subst hu; exact hnew
  · intro a1 cap' w' hv hg hb
    exact hK _ _ (h a1 cap' w' (appII_of h1 h2 h3 h4 hC hrow hBr hBB hCr hv hg hb) hg hb)
end
theorem retII_of {E R : Nat} {p q : List (List Int)} {w w' : World} {a : Option Addr} {c : Nat} (e : p = q) (h : OwII w' E R w.heap.size w'.heap.size a c p) (hb : Below w.heap.size w w') : RetII E R q w (.returned (.slice a p.length c)) w' := by
  subst e; exact ⟨a, c, rfl, h, hb⟩
/-- A call that hands back new rows and a truth. -/
def RetIIB (E R : Nat) (p : List (List Int)) (b : Bool) (w : World) (e : Ending) (w' : World) : Prop :=
  ∃ a c, e = .returned (.tuple #[.slice a p.length c, .bool b]) ∧ OwII w' E R w.heap.size w'.heap.size a c p ∧ Below w.heap.size w w'
theorem retIIB_of {E R : Nat} {p q : List (List Int)} {b : Bool} {w w' : World} {a : Option Addr} {c : Nat} (e : p = q) (h : OwII w' E R w.heap.size w'.heap.size a c p) (hb : Below w.heap.size w w') : RetIIB E R q b w (.returned (.tuple #[.slice a p.length c, .bool b])) w' := by
  subst e; exact ⟨a, c, rfl, h, hb⟩
theorem retI_of {E : Nat} {l m : List Int} {w w' : World} {a : Option Addr} {c : Nat} (e : l = m) (h : OwI w' E w.heap.size w'.heap.size a c l) (hb : Below w.heap.size w w') : RetI E m w (.returned (.slice a l.length c)) w' := by
  subst e; exact ⟨a, c, rfl, h, hb⟩
/-- A new row of zeros. -/
theorem OwI_zeros (w : World) (E n : Nat) (hn : n ≤ maxLen) : OwI (w.alloc (.cells (madeCells #[.int .i64 0] n) E)) E w.heap.size (w.heap.size + 1) (some ⟨w.heap.size, 0, none⟩) n (rowOf n fun _ => false) :=
  .inr ⟨_, _, rfl, Nat.le_refl _, Nat.lt_succ_self _, World.rowIs_made w _ _ _, by rw [rowOf_len]; exact Nat.le_refl _, hn, fun i hi => by rw [getD_lt hi, rowOf_get]; rfl⟩
theorem new_cellE {k : Nat} (w : World) (v : Value) (E : Nat) (hk : k = w.heap.size) : (w.alloc (.cells #[v] E)).cell? ((⟨k, 0, none⟩ : Addr).add 0) = some v := by subst hk; exact new_cell w v E
/-- A call that hands back new rows of bits, n of m. -/
def RetM (E R n m : Nat) (f : Nat → Nat → Bool) (w : World) (e : Ending) (w' : World) : Prop :=
  ∃ a cap, e = .returned (.slice a n cap) ∧ OwII w' E R w.heap.size w'.heap.size a cap (mat n m f) ∧ Below w.heap.size w w'
theorem retM_of {E R n m : Nat} {f g : Nat → Nat → Bool} {w w' : World} {a : Option Addr} {c : Nat} (h : OwII w' E R w.heap.size w'.heap.size a c (mat n m g)) (hb : Below w.heap.size w w') (e : ∀ x y, x < n → y < m → g x y = f x y) : RetM E R n m f w (.returned (.slice a n c)) w' :=
  ⟨a, c, rfl, mat_congr e ▸ h, hb⟩
theorem RetII.toM {E R n m : Nat} {f : Nat → Nat → Bool} {w w' : World} {e : Ending} (h : RetII E R (mat n m f) w e w') : RetM E R n m f w e w' := by
  obtain ⟨a, c, h1, h2, h3⟩ := h
  rw [mat_len] at h1
  exact ⟨a, c, h1, h2, h3⟩
theorem OwII.matCongr {w : World} {E R B C : Nat} {a : Option Addr} {cap n m : Nat} {f g : Nat → Nat → Bool} (h : OwII w E R B C a cap (mat n m f)) (e : ∀ x y, x < n → y < m → f x y = g x y) : OwII w E R B C a cap (mat n m g) := mat_congr e ▸ h
/-- A cell of a row whose place is known. -/
theorem OwII.bitHead {w : World} {E R B C g r ci : Nat} {cap n m : Nat} {f : Nat → Nat → Bool} (h : OwII w E R B C (some ⟨g, 0, none⟩) cap (mat n m f)) (i j : Nat) (hi : i < n) (hj : j < m) (hc : w.cell? ⟨g, i, none⟩ = some (.slice (some ⟨r, 0, none⟩) m ci)) :
    w.cell? ⟨r, j, none⟩ = some (.int .i64 (if f i j then 1 else 0)) ∧ w.frozen? ⟨r, j, none⟩ = false ∧ B ≤ g ∧ g < C ∧ B ≤ r ∧ r < C ∧ g < w.heap.size ∧ r < w.heap.size ∧ g ≠ r ∧ (∀ v, (w.setCell ⟨r, j, none⟩ v).cell? ⟨g, i, none⟩ = some (.slice (some ⟨r, 0, none⟩) m ci)) ∧
      ∀ (b : Bool) (g' : Nat → Nat → Bool), (∀ x y, x < n → y < m → g' x y = if x = i ∧ y = j then b else f x y) → OwII (w.setCell ⟨r, j, none⟩ (.int .i64 (if b then 1 else 0))) E R B C (some ⟨g, 0, none⟩) cap (mat n m g') := by
  obtain ⟨g', r', ci', e, h2, h3, h4, h5, h6, h7, h8, h9, h10, h11, h12⟩ := h.bitAt i j hi hj
  cases e
  rw [h5] at hc
  cases hc
  refine ⟨h9, h10, h2, h3, h6, h7, h4, h8, h11, fun v => ?_, h12⟩
  rw [World.cell?_of_block (w := w) (Below.heap_setCell _ _ _ _ h11)]
  exact h5
/-- How far rows are filled. -/
def upB (k j : Nat) (h : Nat → Nat → Bool) (x y : Nat) : Bool := (decide (x < k) || (decide (x = k) && decide (y < j))) && h x y
theorem upB_step {k j : Nat} {h : Nat → Nat → Bool} (x y : Nat) : upB k (j + 1) h x y = if x = k ∧ y = j then h k j else upB k j h x y := by
  unfold upB
  by_cases e : x = k ∧ y = j
  · obtain ⟨rfl, rfl⟩ := e; simp
  · rw [if_neg e]
    congr 1
    rw [Bool.eq_iff_iff]; simp; omega
theorem upB_stay {k j : Nat} {h : Nat → Nat → Bool} (x y : Nat) (hn : h k j = false) : upB k j h x y = upB k (j + 1) h x y := by
  rw [upB_step]
  by_cases e : x = k ∧ y = j
  · obtain ⟨rfl, rfl⟩ := e; rw [if_pos ⟨rfl, rfl⟩, hn]; simp [upB]
  · rw [if_neg e]
theorem upB_row {k m : Nat} {h : Nat → Nat → Bool} (x y : Nat) (hy : y < m) : upB k m h x y = upB (k + 1) 0 h x y := by
  unfold upB
  congr 1
  rw [Bool.eq_iff_iff]; simp; omega
theorem upB_start {h : Nat → Nat → Bool} (x y : Nat) : upB 0 0 h x y = false := by unfold upB; simp
theorem upB_end {n : Nat} {h : Nat → Nat → Bool} (x y : Nat) (hx : x < n) : upB n 0 h x y = h x y := by unfold upB; simp [hx]
theorem OwI.lecap {w : World} {E B C : Nat} {a : Option Addr} {cap : Nat} {l : List Int} (h : OwI w E B C a cap l) : l.length ≤ cap := by
  rcases h with ⟨_, rfl, _⟩ | ⟨g, f, e, h1, h2, hr, hl, _⟩
  · simp
  · exact hl
theorem OwI.capmax {w : World} {E B C : Nat} {a : Option Addr} {cap : Nat} {l : List Int} (h : OwI w E B C a cap l) : cap ≤ maxLen := by
  rcases h with ⟨_, _, rfl⟩ | ⟨g, f, e, h1, h2, hr, hl, hm, _⟩
  · simp
  · exact hm
theorem lens_mat (n m : Nat) (f : Nat → Nat → Bool) : lens (mat n m f) = n * m := by
  have key : ∀ k, k ≤ n → lens ((mat n m f).take k) = k * m := by
    intro k
    induction k with
    | zero => intro _; simp [lens]
    | succ k ih =>
      intro hk
      have h1 := lens_succ (mat n m f) k (by rw [mat_len]; omega)
      rw [h1, ih (by omega), mat_get, rowOf_len, Nat.succ_mul]
  have := key n (Nat.le_refl _)
  rwa [mat_all] at this
theorem mat_small {n : Nat} (f : Nat → Nat → Bool) (hn : n ≤ 5) : (mat n n f).length ≤ 1048576 ∧ lens (mat n n f) ≤ 1048576 := by
  rw [mat_len, lens_mat]
  have := Nat.mul_le_mul hn hn
  omega
theorem OwI.app_in {w : World} {E B C D : Nat} {a : Option Addr} {cap : Nat} {l : List Int} (h : OwI w E B C a cap l) (hD : D ≤ B) : ∀ k, blockOf a = some k → D ≤ k := fun k hk => Nat.le_trans hD (h.block_in hk).1
theorem OwII.app_in {w : World} {E R B C D : Nat} {a : Option Addr} {cap : Nat} {p : List (List Int)} (h : OwII w E R B C a cap p) (hD : D ≤ B) : ∀ k, blockOf a = some k → D ≤ k := fun k hk => Nat.le_trans hD (h.block_in hk).1
theorem grown_undrew {w w' : World} {r : Option Nat} (h : w.drew.grownBy w' r) : w.grownBy w' r := ⟨h.os, h.tape, h.output, h.size, h.block⟩
/-- A world in which something may be appended to the call's own. -/
theorem below_app {B D : Nat} {W w w1 : World} {o : Obj} {r : Option Nat} (h : Below B W w) (hg : (w.alloc o).grownBy w1 r) (hr : ∀ k, r = some k → D ≤ k) (hD : B ≤ D) (hB : B ≤ W.heap.size) : Below B W w1 :=
  (h.alloc (Nat.le_trans hB h.size) o).grown hg (by have := h.size; simp; omega) (fun k hk => Nat.le_trans hD (hr k hk))
end Go.Hyp
namespace Go.Hyp
open Go.RowKit Go.Deep
/-- Rows of marks, as long as those of p. -/
def marksII (K : Nat) (p : List (List Int)) : List (List Int) := (List.range p.length).map fun i => marks (K + lens (p.take i)) (p.getD i []).length
theorem marksII_len (K : Nat) (p : List (List Int)) : (marksII K p).length = p.length := by simp [marksII]
theorem marksII_get (K : Nat) (p : List (List Int)) (i : Nat) (h : i < (marksII K p).length) : (marksII K p)[i] = marks (K + lens (p.take i)) (p.getD i []).length := by simp [marksII]
/-- The first k rows marked. -/
def markUp (K : Nat) (p : List (List Int)) (k : Nat) : List (List Int) := (List.range p.length).map fun i => if i < k then marks (K + lens (p.take i)) (p.getD i []).length else p.getD i []
theorem markUp_len (K : Nat) (p : List (List Int)) (k : Nat) : (markUp K p k).length = p.length := by simp [markUp]
theorem markUp_getD (K : Nat) (p : List (List Int)) (k i : Nat) (h : i < p.length) : (markUp K p k).getD i [] = if i < k then marks (K + lens (p.take i)) (p.getD i []).length else p.getD i [] := by simp [markUp, List.getD, h]
theorem markUp_zero (K : Nat) (p : List (List Int)) : markUp K p 0 = p := by
  apply List.ext_getElem (by rw [markUp_len])
  intro i h1 h2
  simp [markUp, List.getD, h2]
theorem markUp_all (K : Nat) (p : List (List Int)) : markUp K p p.length = marksII K p := by
  unfold markUp marksII
  apply List.map_congr_left
  intro i hi
  rw [if_pos (by simpa using hi)]
theorem markUp_set (K : Nat) (p : List (List Int)) (k : Nat) (_h : k < p.length) : (markUp K p k).set k (marks (K + lens (p.take k)) (p.getD k []).length) = markUp K p (k + 1) := by
  apply List.ext_getElem (by simp [markUp_len])
  intro i h1 h2
  rw [List.getElem_set]
  have hi : i < p.length := by rw [markUp_len] at h2; exact h2
  have e1 := markUp_getD K p k i hi
  have e2 := markUp_getD K p (k + 1) i hi
  rw [List.getD, List.getElem?_eq_getElem (by rw [markUp_len]; exact hi)] at e1
  rw [List.getD, List.getElem?_eq_getElem h2] at e2
  simp only [Option.getD_some] at e1 e2
  rw [e1, e2]
  by_cases e : k = i
  · subst e; rw [if_pos rfl, if_pos (by omega)]
  · rw [if_neg e]
    by_cases h : i < k
    · rw [if_pos h, if_pos (by omega)]
    · rw [if_neg h, if_neg (by omega)]
/-- One row of owned rows rewritten in place. -/
theorem OwII.rowNew {w : World} {E R B C : Nat} {a : Option Addr} {cap : Nat} {p : List (List Int)} (h : OwII w E R B C a cap p) (i : Nat) (hi : i < p.length) :
    ∃ g ar cr, a = some ⟨g, 0, none⟩ ∧ g < w.heap.size ∧ w.cell? ⟨g, i, none⟩ = some (.slice ar (p.getD i []).length cr) ∧ OwI w E B C ar cr (p.getD i []) ∧
      ∀ w' l, OwI w' E B C ar cr l → l.length = (p.getD i []).length → Chg (fun b => blockOf ar = some b) w w' → OwII w' E R B C a cap (p.set i l) := by
  obtain ⟨ra, rc, h1, h2, h3, h4⟩ := h
  rcases h1 with ⟨_, h0, _⟩ | ⟨g, F, e, g1, g2, hr, hl, hm, hf⟩
  · omega
  · refine ⟨g, ra i, rc i, e, hr.lt, by rw [hr.cell (by omega), hf i hi], h2 i hi, fun w' l hl' hll hc => ?_⟩
    have hls : (p.set i l).length = p.length := by simp
    have eg : ∀ k, k < p.length → (p.set i l).getD k [] = if k = i then l else p.getD k [] := fun k hk => by
      unfold List.getD
      rw [List.getElem?_set]
      by_cases e : i = k
      · subst e; simp [hk]
      · rw [if_neg e, if_neg (fun h => e h.symm)]
    have hgb : ¬ blockOf (ra i) = some g := fun hb => (h4 i hi).blocks g (by rw [e]; rfl) hb
    refine ⟨ra, rc, .inr ⟨g, F, e, g1, g2, hr.of_block (hc.block g hr.lt hgb), by omega, hm, fun k hk => ?_⟩, fun k hk => ?_, fun k m hkm hm' => h3 k m hkm (by omega), fun k hk => h4 k (by omega)⟩
    · rw [hls] at hk
      rw [hf k hk]
      show Value.slice (ra k) (p.getD k []).length (rc k) = Value.slice (ra k) (List.getD _ k []).length (rc k)
      rw [eg k hk]
      by_cases e : k = i
      · subst e; rw [if_pos rfl, hll]
      · rw [if_neg e]
    · rw [hls] at hk
      rw [eg k hk]
      by_cases ek : k = i
      · subst ek; rw [if_pos rfl]; exact hl'
      · rw [if_neg ek]
        refine (h2 k hk).keep hc (fun b hb hs => ?_)
        rcases Nat.lt_or_gt_of_ne ek with hlt | hlt
        · exact (h3 k i hlt hi).blocks b hb hs
        · exact (h3 i k hlt hk).blocks b hs hb
theorem lens_take_succ (p : List (List Int)) (k : Nat) (h : k < p.length) : lens (p.take (k + 1)) = lens (p.take k) + (p.getD k []).length := by
  rw [lens_succ p k h]; simp [List.getD, h]
end Go.Hyp
namespace Go.Proofs.Ytfjodcfbhpglhaa
open Go.RowKit Go.Hyp Go.Deep

end Go.Proofs.Ytfjodcfbhpglhaa
namespace Go.Proofs.Ytfjodcfbhpglhaa
open Go.RowKit Go.Hyp Go.Deep

set_option maxHeartbeats 400000 in
theorem isSystem_any (a : Option Addr) (cap : Nat) (s : List (List Int × Int)) (w : World) (B C : Nat) (h : RdY w B C a s) (hC : C ≤ w.heap.size) (hl : s.length ≤ maxLen) :
    Calls Try.prog 30 #[.slice a s.length cap] w fun e w' => e = .returned (.bool (sysB s)) ∧ Below w.heap.size w w' := by
  unfold maxLen at hl
  go_enter Try.func30, Try.ntmps30
  go_wp2_with fail
  go_loopw [2, 7] (fun r i wr => ∃ k : Nat, k ≤ s.length ∧ r = .bool false ∧ i = .int .i64 k ∧ saidsB s.length (s.take k) = true ∧ Below w.heap.size w wr) (fun _ i _ => s.length - (intOf i).toNat)
  case atStart => exact ⟨0, Nat.zero_le _, rfl, rfl, rfl, Below.refl _ _⟩
  case round =>
    obtain ⟨k, hk, rfl, rfl, hb, hw⟩ := hrel
    have HB := Lib.hid hb
    have HW := Lib.hid hw
    clear hb hw
    by_cases hlt : k < s.length
    · obtain ⟨b, off, x, c, rfl, _, hbC, hc, hd, hr, hll⟩ := (h.below HW.out hC).at k hlt
      have HS := Lib.hid (saidsB_succ s.length s k hlt)
      have HN := Lib.hid (saidsB_no s.length s k hlt)
      have HR := Lib.hid (hr.below (below_alloc wr (.cells #[.slice x s[k].1.length c, .int .i64 s[k].2] 50)) (by have := HW.out.size; omega))
      clear h hr
      have hx : (bitsB s[k].1 && decide (s[k].1.length = s.length)) = true ∨ (bitsB s[k].1 && decide (s[k].1.length = s.length)) = false := by cases (bitsB s[k].1 && decide (s[k].1.length = s.length)) <;> simp
      generalize hy : (bitsB s[k].1 && decide (s[k].1.length = s.length)) = y at hx
      have HY := Lib.hid hy
      have HZ : Hid ((bitsB s[k].1 && ((s[k].1.length : Int) == (s.length : Int))) = y) := by rw [← hy]; exact congrArg (bitsB s[k].1 && ·) (by rw [Bool.eq_iff_iff]; simp; omega)
      clear hy
      rcases hx with rfl | rfl
      · by_cases c0 : 0 ≤ s[k].2
        · by_cases c3 : s[k].2 ≤ 3
          · go_wp2_with (go_at_call 44; refine (areBits_any _ _ _ _ _ B C HR.out hll).mono ?_; rintro e w' ⟨rfl, rfl⟩; rw [HZ.out])
            go_roundw
            case rel => exact ⟨k + 1, by omega, rfl, by go_num, by rw [HS.out, HB.out]; unfold saidB; rw [HY.out]; simp [c0, c3], HW.out.alloc HW.out.size _⟩
            case measure => simp [intOf]; omega
          · go_wp2_with (go_at_call 44; refine (areBits_any _ _ _ _ _ B C HR.out hll).mono ?_; rintro e w' ⟨rfl, rfl⟩; rw [HZ.out])
            go_ret
            exact ⟨ret_bool (by unfold sysB; rw [HN.out (by unfold saidB; rw [decide_eq_false (p := s[k].2 ≤ 3) (by omega)]; simp)]; rfl), HW.out.alloc HW.out.size _⟩
        · go_wp2_with (go_at_call 44; refine (areBits_any _ _ _ _ _ B C HR.out hll).mono ?_; rintro e w' ⟨rfl, rfl⟩; rw [HZ.out])
          go_ret
          exact ⟨ret_bool (by unfold sysB; rw [HN.out (by unfold saidB; rw [decide_eq_false (p := 0 ≤ s[k].2) (by omega)]; simp)]; rfl), HW.out.alloc HW.out.size _⟩
      · go_wp2_with (go_at_call 44; refine (areBits_any _ _ _ _ _ B C HR.out hll).mono ?_; rintro e w' ⟨rfl, rfl⟩; rw [HZ.out])
        go_ret
        exact ⟨ret_bool (by unfold sysB; rw [HN.out (by unfold saidB; rw [HY.out]; rfl)]; rfl), HW.out.alloc HW.out.size _⟩
    · have E1 : Hid (saidsB s.length s = true) := by have := HB.out; rwa [List.take_of_length_le (by omega)] at this
      by_cases h1 : 1 ≤ s.length
      · by_cases h3 : s.length ≤ 3
        all_goals
          go_wp2_with fail
          go_ret
          exact ⟨ret_bool (by unfold sysB; rw [E1.out]; simp [h1, h3]; try omega), HW.out⟩
      · go_wp2_with fail
        go_ret
        exact ⟨ret_bool (by unfold sysB; rw [E1.out, decide_eq_false (p := 1 ≤ s.length) (by omega)]; rfl), HW.out⟩

theorem implSystemOk_any (a : Option Addr) (cap : Nat) (s : List (List Int × Int)) (w : World) (B C : Nat) (h : RdY w B C a s) (hC : C ≤ w.heap.size) (hl : s.length ≤ maxLen) :
    Calls Try.prog 19 #[.slice a s.length cap] w fun e w' => e = .returned (.bool (sysB s)) ∧ Below w.heap.size w w' := by
  have H := Lib.hid h
  have HL := Lib.hid hl
  clear h hl
  go_enter Try.func19, Try.ntmps19
  go_wp2_with fail
  refine (isSystem_any _ _ _ _ B C H.out hC HL.out).mono ?_
  rintro e w1 ⟨rfl, hb⟩
  go_wp2_with fail
  go_ret
  exact ⟨rfl, hb⟩

set_option maxHeartbeats 800000 in
theorem specSystemOk_any (a : Option Addr) (cap : Nat) (s : List (List Int × Int)) (w : World) (B C : Nat) (h : RdY w B C a s) (hl : s.length ≤ maxLen) :
    Calls Try.prog 24 #[.slice a s.length cap] w fun e w' => e = .returned (.bool (sysB s)) ∧ w = w' := by
  unfold maxLen at hl
  go_enter Try.func24, Try.ntmps24
  go_wp2_with fail
  go_loop [2, 3] (fun r i => ∃ k : Nat, k ≤ s.length ∧ r = .bool false ∧ i = .int .i64 k ∧ saidsB s.length (s.take k) = true) (fun _ i => s.length - (intOf i).toNat)
  case atStart => exact ⟨0, Nat.zero_le _, rfl, rfl, rfl⟩
  case round =>
    obtain ⟨k, hk, rfl, rfl, hb⟩ := hrel
    have HB := Lib.hid hb
    clear hb
    by_cases hlt : k < s.length
    · obtain ⟨b, off, x, c, rfl, _, _, hc, hd, hr, hll⟩ := h.at k hlt
      have HS := Lib.hid (saidsB_succ s.length s k hlt)
      have HN := Lib.hid (saidsB_no s.length s k hlt)
      clear h
      by_cases hlen : s[k].1.length = s.length
      · have hne : (((s[k].1.length : Nat) : Int) != ((s.length : Nat) : Int)) = false := by simp [hlen]
        have Hlen := Lib.hid hlen
        clear hlen
        have hx : (decide (0 ≤ s[k].2) && decide (s[k].2 ≤ 3)) = true ∨ (decide (0 ≤ s[k].2) && decide (s[k].2 ≤ 3)) = false := by cases (decide (0 ≤ s[k].2) && decide (s[k].2 ≤ 3)) <;> simp
        generalize hy : (decide (0 ≤ s[k].2) && decide (s[k].2 ≤ 3)) = y at hx
        have HY := Lib.hid hy
        clear hy
        rcases hx with rfl | rfl
        · go_wp2_with (go_at_call 26; refine (l1In_any _ _ _ _).mono ?_; rintro e w' ⟨rfl, rfl⟩; rw [HY.out])
          go_loop [2, 4] (fun r i => ∃ j : Nat, j ≤ s.length ∧ r = .bool false ∧ i = .int .i64 j ∧ bitsB (s[k].1.take j) = true) (fun _ i => s.length - (intOf i).toNat)
          case atStart => exact ⟨0, Nat.zero_le _, rfl, rfl, rfl⟩
          case round =>
            obtain ⟨j, hj, rfl, rfl, hb'⟩ := hrel
            have HB' := Lib.hid hb'
            clear hb'
            by_cases hlt' : j < s.length
            · have hlt2 : j < s[k].1.length := by rw [Hlen.out]; exact hlt'
              obtain ⟨b', off', rfl, _, _, hc'⟩ := hr.at j hlt2
              have HS' := Lib.hid (bitsB_succ s[k].1 j hlt2)
              have HN' := Lib.hid (bitsB_no s[k].1 j hlt2)
              clear hr
              have hx : bitB s[k].1[j] = true ∨ bitB s[k].1[j] = false := by cases bitB s[k].1[j] <;> simp
              generalize hy : bitB s[k].1[j] = y at hx
              have HY' := Lib.hid hy
              clear hy
              rcases hx with rfl | rfl
              · go_wp2_with (go_at_call 26; refine (l1In_bit _ _).mono ?_; rintro e w' ⟨rfl, rfl⟩; rw [HY'.out])
                go_round
                case rel => exact ⟨j + 1, by omega, rfl, by go_num, by rw [HS'.out, HB'.out, HY'.out]; rfl⟩
                case measure => simp [intOf]; omega
              · go_wp2_with (go_at_call 26; refine (l1In_bit _ _).mono ?_; rintro e w' ⟨rfl, rfl⟩; rw [HY'.out])
                go_ret
                exact ⟨ret_bool (by unfold sysB; rw [HN.out (by unfold saidB; rw [HN'.out HY'.out]; rfl)]; rfl), rfl⟩
            · have E1 : Hid (bitsB s[k].1 = true) := by have := HB'.out; rwa [List.take_of_length_le (by have := Hlen.out; omega)] at this
              clear HB'
              go_wp2_with fail
              go_round
              case rel => exact ⟨k + 1, by omega, rfl, by go_num, by rw [HS.out, HB.out]; unfold saidB; rw [E1.out, decide_eq_true Hlen.out, HY.out]; rfl⟩
              case measure => simp [intOf]; omega
        · go_wp2_with (go_at_call 26; refine (l1In_any _ _ _ _).mono ?_; rintro e w' ⟨rfl, rfl⟩; rw [HY.out])
          go_ret
          exact ⟨ret_bool (by unfold sysB; rw [HN.out (by unfold saidB; rw [HY.out]; simp)]; rfl), rfl⟩
      · have hne : (((s[k].1.length : Nat) : Int) != ((s.length : Nat) : Int)) = true := by simp; omega
        go_wp2_with fail
        go_ret
        exact ⟨ret_bool (by unfold sysB; rw [HN.out (by unfold saidB; rw [decide_eq_false hlen]; simp)]; rfl), rfl⟩
    · have E1 : Hid (saidsB s.length s = true) := by have := HB.out; rwa [List.take_of_length_le (by omega)] at this
      go_wp2_with (go_at_call 26; refine (l1In_any _ _ _ _).mono ?_; rintro e w' ⟨rfl, rfl⟩)
      go_ret
      exact ⟨ret_bool (by unfold sysB; rw [E1.out, Bool.true_and]; congr 1 <;> (rw [Bool.eq_iff_iff]; simp; omega)), rfl⟩
end Go.Proofs.Ytfjodcfbhpglhaa
namespace Go.Proofs.Ytfjodcfbhpglhaa
open Go.RowKit Go.Hyp Go.Deep

end Go.Proofs.Ytfjodcfbhpglhaa
namespace Go.Proofs.Ytfjodcfbhpglhaa
open Go.RowKit Go.Hyp Go.Deep
set_option maxHeartbeats 400000 in
theorem alive1_any (w : World) : Calls Try.prog 20 #[] w fun e w' => e = .returned (.bool true) ∧ w = w' := by
  go_enter Try.func20, Try.ntmps20
  go_wp2
  go_ret
  exact ⟨ret_bool (by decide), rfl⟩
end Go.Proofs.Ytfjodcfbhpglhaa
namespace Go.Proofs.Ytfjodcfbhpglhaa
open Go.RowKit Go.Hyp Go.Deep

set_option maxHeartbeats 400000 in
theorem sameInts_any (a a' : Option Addr) (cap cap' : Nat) (l l' : List Int) (w : World) (B C B' C' : Nat) (h : RdI w B C a l) (h' : RdI w B' C' a' l') (hl : l.length ≤ maxLen) (_hl' : l'.length ≤ maxLen) :
    Calls Try.prog 38 #[.slice a l.length cap, .slice a' l'.length cap'] w fun e w' => e = .returned (.bool (decide (l = l'))) ∧ ∃ n, w' = w.drewN n := by
  unfold maxLen at hl
  by_cases hlen : l.length = l'.length
  · have hb : (((l.length : Nat) : Int) != ((l'.length : Nat) : Int)) = false := by simp [hlen]
    have Hlen := Lib.hid hlen
    clear hlen
    go_enter Try.func38, Try.ntmps38
    go_wp2
    go_loopw [4, 5] (fun r i wr => ∃ k n : Nat, k ≤ l.length ∧ r = .bool false ∧ i = .int .i64 k ∧ l.take k = l'.take k ∧ wr = w.drewN n) (fun _ i _ => l.length - (intOf i).toNat)
    case atStart => exact ⟨0, 0, Nat.zero_le _, rfl, rfl, rfl, rfl⟩
    case round =>
      obtain ⟨k, n, hk, rfl, rfl, he, rfl⟩ := hrel
      have HE := Lib.hid he
      clear he
      by_cases hlt : k < l.length
      · have hlt' : k < l'.length := by have := Hlen.out; omega
        obtain ⟨b, off, rfl, h1, h2, hc⟩ := h.at k hlt
        obtain ⟨b', off', rfl, h1', h2', hc'⟩ := h'.at k hlt'
        clear h h'
        by_cases hx : l[k] = l'[k]
        · have hxb : (l[k] != l'[k]) = false := by simp [hx]
          have HX := Lib.hid hx
          clear hx
          go_wp2_with fail
          go_quiet (fail)
          go_wp2
          go_roundw
          case rel => exact ⟨k + 1, _, by omega, rfl, by go_num, take_eq_succ hlt hlt' HE.out HX.out, rfl⟩
          case measure => simp [intOf]; omega
        · have hxb : (l[k] != l'[k]) = true := by simp [hx]
          have HX := Lib.hid hx
          clear hx
          go_wp2_with fail
          go_quiet (fail)
          go_wp2
          go_ret
          exact ⟨ret_bool (by rw [decide_eq_false]; exact fun e => HX.out (by simp [e])), _, by rw [World.drewN_drewN]⟩
      · go_wp2
        go_ret
        exact ⟨ret_bool (by rw [decide_eq_true]; have e := HE.out; have := Hlen.out; rwa [List.take_of_length_le (by omega), List.take_of_length_le (by omega)] at e), _, rfl⟩
  · have hb : (((l.length : Nat) : Int) != ((l'.length : Nat) : Int)) = true := by simp; omega
    have hne : l ≠ l' := fun e => hlen (by rw [e])
    go_enter Try.func38, Try.ntmps38
    go_wp2
    go_ret
    exact ⟨ret_bool (by simp [hne]), 0, rfl⟩

set_option maxHeartbeats 400000 in
theorem sameRows_any (a a' : Option Addr) (cap cap' : Nat) (p p' : List (List Int)) (w : World) (B C B' C' : Nat) (h : RdII w B C a p) (h' : RdII w B' C' a' p') (hl : p.length ≤ maxLen) :
    Calls Try.prog 17 #[.slice a p.length cap, .slice a' p'.length cap'] w fun e w' => e = .returned (.bool (decide (p = p'))) ∧ Qt w w' := by
  unfold maxLen at hl
  by_cases hlen : p.length = p'.length
  · have hb : (((p.length : Nat) : Int) != ((p'.length : Nat) : Int)) = false := by simp [hlen]
    have Hlen := Lib.hid hlen
    clear hlen
    go_enter Try.func17, Try.ntmps17
    go_wp2_with fail
    go_loopw [4, 5] (fun r i wr => ∃ k : Nat, k ≤ p.length ∧ r = .bool false ∧ i = .int .i64 k ∧ p.take k = p'.take k ∧ Qt w wr) (fun _ i _ => p.length - (intOf i).toNat)
    case atStart => exact ⟨0, Nat.zero_le _, rfl, rfl, rfl, Qt.refl _⟩
    case round =>
      obtain ⟨k, hk, rfl, rfl, he, hq⟩ := hrel
      have HE := Lib.hid he
      have HQ := Lib.hid hq
      clear he hq
      by_cases hlt : k < p.length
      · have hlt' : k < p'.length := by have := Hlen.out; omega
        obtain ⟨b, off, x, c, rfl, _, _, hc, hr, hll⟩ := (h.agr HQ.out.agr).at k hlt
        obtain ⟨b', off', x', c', rfl, _, _, hc', hr', hll'⟩ := (h'.agr HQ.out.agr).at k hlt'
        have HR := Lib.hid hr
        have HR' := Lib.hid hr'
        clear h h' hr hr'
        by_cases hx : p[k] = p'[k]
        · have HX := Lib.hid hx
          have HC : Hid (∀ n, Calls Try.prog 38 #[.slice x p[k].length c, .slice x' p'[k].length c'] (wr.drewN n) fun e w' => e = .returned (.bool true) ∧ Qt (wr.drewN n) w') := fun n => by
            have h := sameInts_any x x' c c' p[k] p'[k] (wr.drewN n) B C B' C' (HR.out.agr ((Qt.refl _).n n).agr) (HR'.out.agr ((Qt.refl _).n n).agr) hll hll'
            rwa [decide_eq_true hx] at h
          clear hx
          go_wp2_with fail
          go_quiet ((go_at_call 38; exact quietQ (HC.out _)))
          go_wp2_with fail
          go_roundw
          case rel => exact ⟨k + 1, by omega, rfl, by go_num, take_eq_succ hlt hlt' HE.out HX.out, HQ.out.n _⟩
          case measure => simp [intOf]; omega
        · have HX := Lib.hid hx
          have HC : Hid (∀ n, Calls Try.prog 38 #[.slice x p[k].length c, .slice x' p'[k].length c'] (wr.drewN n) fun e w' => e = .returned (.bool false) ∧ Qt (wr.drewN n) w') := fun n => by
            have h := sameInts_any x x' c c' p[k] p'[k] (wr.drewN n) B C B' C' (HR.out.agr ((Qt.refl _).n n).agr) (HR'.out.agr ((Qt.refl _).n n).agr) hll hll'
            rwa [decide_eq_false hx] at h
          clear hx
          go_wp2_with fail
          go_quiet ((go_at_call 38; exact quietQ (HC.out _)))
          go_wp2_with fail
          go_ret
          exact ⟨ret_bool (by rw [decide_eq_false]; exact fun e => HX.out (by simp [e])), HQ.out.n _⟩
      · go_wp2_with fail
        go_ret
        exact ⟨ret_bool (by rw [decide_eq_true]; have e := HE.out; have := Hlen.out; rwa [List.take_of_length_le (by omega), List.take_of_length_le (by omega)] at e), HQ.out⟩
  · have hb : (((p.length : Nat) : Int) != ((p'.length : Nat) : Int)) = true := by simp; omega
    have hne : p ≠ p' := fun e => hlen (by rw [e])
    go_enter Try.func17, Try.ntmps17
    go_wp2_with fail
    go_ret
    exact ⟨ret_bool (by simp [hne]), Qt.refl _⟩

end Go.Proofs.Ytfjodcfbhpglhaa
