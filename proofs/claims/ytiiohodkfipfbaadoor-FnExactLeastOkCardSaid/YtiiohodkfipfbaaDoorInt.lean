/- Walks of the small functions on slices of numbers that the laws use: what each computes. -/
import Derived.Test.YtiiohodkfipfbaaDoorRows
import Derived.Test.YtiiohodkfipfbaaDoorLib
import Derived.BigQuiet
import Derived.Deep.QuietTactic
namespace Go.Proofs.YtiiohodkfipfbaaDoor
open Go.RowKit Go.Hyp Go.Deep

theorem Tryd.infoInt : (Tryd.prog.info? 3).map (fun i => (i.zero, i.size, i.bytes)) = some (some (.int .i64 0), 1, 8) := by kernel_rfl

set_option maxHeartbeats 400000 in
theorem toIntS_any (a : Option Addr) (cap : Nat) (l : List Int) (w : World) (B C : Nat) (h : RdI w B C a l) (hC : C ≤ w.heap.size) (hl : l.length ≤ 1048576) :
    Calls Tryd.prog 65 #[.slice a l.length cap] w (RetI 3 l w) := by
  have hmk := run_make_row' (P := Tryd.prog) 38 3 _ _ Tryd.underlying38 Tryd.infoInt rfl .i64 .i64 l.length (by omega) (by omega)
  go_enter Tryd.func65, Tryd.ntmps65
  go_wp2
  go_loopw [4] (fun i wr => ∃ k : Nat, k ≤ l.length ∧ i = .int .i64 k ∧ wr.rowIs w.heap.size 3 l.length (upTo l k) ∧ Below w.heap.size w wr ∧ w.heap.size < wr.heap.size) (fun i _ => l.length - (intOf i).toNat)
  case atStart => exact ⟨0, Nat.zero_le _, rfl, (World.rowIs_made w _ _ _).congr (fun i _ => rfl), below_alloc _ _, by simp⟩
  case round =>
    obtain ⟨k, hk, rfl, hrow, hb, hz⟩ := hrel
    by_cases hlt : k < l.length
    · obtain ⟨b, off, rfl, h1, h2, hc⟩ := (h.below hb hC).at k hlt
      have hd := hrow.cell hlt
      have hfz := hrow.frozen k
      have Hrow := Lib.hid hrow
      clear hrow h
      go_wp2
      go_roundw
      case rel => exact ⟨k + 1, by omega, by go_num, by have := upTo_succ Hrow.out; rwa [getD_lt hlt] at this, hb.setCell (by simp) _, by simpa using hz⟩
      case measure => simp [intOf]; omega
    · obtain rfl : k = l.length := by omega
      have Hrow := Lib.hid hrow
      clear hrow h
      go_wp2
      go_ret
      exact ⟨_, _, rfl, .inr ⟨_, _, rfl, Nat.le_refl _, hz, Hrow.out, Nat.le_refl _, by simp [maxLen]; omega, fun i hi => by simp [upTo, hi]⟩, hb⟩

set_option maxHeartbeats 400000 in
theorem szIntS_any (a : Option Addr) (cap n : Nat) (k : Int) (w : World) (hl : n ≤ maxLen) (h0 : 0 ≤ k) (h1 : k ≤ 1048576) :
    Calls Tryd.prog 63 #[.slice a n cap, .int .i64 k] w fun e w' => e = .returned (.int .i64 (szI k n)) ∧ w = w' := by
  unfold maxLen at hl
  by_cases hlt : k < n
  · have hc : k - n < 0 := by omega
    go_enter Tryd.func63, Tryd.ntmps63
    go_wp2
    go_ret
    exact ⟨ret_int (by unfold szI; rw [if_pos (by omega)]), rfl⟩
  · have hc : ¬ (k - n < 0) := by omega
    go_enter Tryd.func63, Tryd.ntmps63
    go_wp2
    go_ret
    exact ⟨ret_int (by unfold szI; rw [if_neg (by omega)]), rfl⟩

set_option maxHeartbeats 400000 in
theorem eqIntS_any (a a' : Option Addr) (cap cap' : Nat) (l l' : List Int) (w : World) (B C B' C' : Nat) (h : RdI w B C a l) (h' : RdI w B' C' a' l') (hl : l.length ≤ maxLen) (_hl' : l'.length ≤ maxLen) :
    Calls Tryd.prog 67 #[.slice a l.length cap, .slice a' l'.length cap'] w fun e w' => e = .returned (.bool (decide (l = l'))) ∧ ∃ n, w' = w.drewN n := by
  unfold maxLen at hl
  by_cases hlen : l.length = l'.length
  · have hb : (((l.length : Nat) : Int) != ((l'.length : Nat) : Int)) = false := by simp [hlen]
    have Hlen := Lib.hid hlen
    clear hlen
    go_enter Tryd.func67, Tryd.ntmps67
    go_wp2
    go_loopw [4, 5] (fun r i wr => ∃ k n : Nat, k ≤ l.length ∧ r = .bool false ∧ i = .int .i64 k ∧ l.take k = l'.take k ∧ wr = w.drewN n) (fun _ i _ => l.length - (intOf i).toNat)
    case atStart => exact ⟨0, 0, Nat.zero_le _, rfl, rfl, rfl, rfl⟩
    case round =>
      obtain ⟨k, n, hk, rfl, rfl, he, rfl⟩ := hrel
      have HE := Lib.hid he
      clear he
      by_cases hlt : k < l.length
      · have hlt' : k < l'.length := by have := Hlen.out; omega
        obtain ⟨b, off, rfl, h1, h2, hc⟩ := h.at k hlt
        obtain ⟨b', off', rfl, h1', h2', hc'⟩ := h'.at k hlt'
        clear h h'
        by_cases hx : l[k] = l'[k]
        · have hxb : (l[k] != l'[k]) = false := by simp [hx]
          have HX := Lib.hid hx
          clear hx
          go_wp2_with fail
          go_quiet (fail)
          go_wp2
          go_roundw
          case rel => exact ⟨k + 1, _, by omega, rfl, by go_num, take_eq_succ hlt hlt' HE.out HX.out, rfl⟩
          case measure => simp [intOf]; omega
        · have hxb : (l[k] != l'[k]) = true := by simp [hx]
          have HX := Lib.hid hx
          clear hx
          go_wp2_with fail
          go_quiet (fail)
          go_wp2
          go_ret
          exact ⟨ret_bool (by rw [decide_eq_false]; exact fun e => HX.out (by simp [e])), _, by rw [World.drewN_drewN]⟩
      · go_wp2
        go_ret
        exact ⟨ret_bool (by rw [decide_eq_true]; have e := HE.out; have := Hlen.out; rwa [List.take_of_length_le (by omega), List.take_of_length_le (by omega)] at e), _, rfl⟩
  · have hb : (((l.length : Nat) : Int) != ((l'.length : Nat) : Int)) = true := by simp; omega
    have hne : l ≠ l' := fun e => hlen (by rw [e])
    go_enter Tryd.func67, Tryd.ntmps67
    go_wp2
    go_ret
    exact ⟨ret_bool (by simp [hne]), 0, rfl⟩
end Go.Proofs.YtiiohodkfipfbaaDoor
