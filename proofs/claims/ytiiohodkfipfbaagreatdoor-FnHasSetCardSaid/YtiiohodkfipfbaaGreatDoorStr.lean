/- Walks of the functions on streams: what each computes. -/
import Derived.Test.YtiiohodkfipfbaaGreatDoorInt
namespace Go.Proofs.YtiiohodkfipfbaaGreatDoor
open Go.RowKit Go.Hyp Go.Deep

set_option maxHeartbeats 400000 in
theorem areBits_any (a : Option Addr) (cap : Nat) (l : List Int) (n : Int) (w : World) (B C : Nat) (h : RdI w B C a l) (hl : l.length ≤ maxLen) :
    Calls Tryz.prog 42 #[.slice a l.length cap, .int .i64 n] w fun e w' => e = .returned (.bool (bitsB l && ((l.length : Int) == n))) ∧ w = w' := by
  unfold maxLen at hl
  go_enter Tryz.func42, Tryz.ntmps42
  go_wp2
  go_loop [4, 6, 9] (fun r _ i => ∃ k : Nat, k ≤ l.length ∧ r = .bool false ∧ i = .int .i64 k ∧ bitsB (l.take k) = true) (fun _ _ i => l.length - (intOf i).toNat)
  case atStart => exact ⟨0, Nat.zero_le _, rfl, rfl, rfl⟩
  case round =>
    obtain ⟨k, hk, rfl, rfl, hb⟩ := hrel
    have HB := Lib.hid hb
    clear hb
    by_cases hlt : k < l.length
    · obtain ⟨b, off, rfl, h1, h2, hc⟩ := h.at k hlt
      have HS := Lib.hid (bitsB_succ l k hlt)
      have HN := Lib.hid (bitsB_no l k hlt)
      clear h
      go_wp2
      · go_round
        case rel => exact ⟨k + 1, by omega, rfl, by go_num, by rw [HS.out, HB.out]; simp [bitB, *]⟩
        case measure => simp [intOf]; omega
      · go_ret
        rw [HN.out (by unfold bitB; simp_all)]
        exact ⟨rfl, rfl⟩
      · go_round
        case rel => exact ⟨k + 1, by omega, rfl, by go_num, by rw [HS.out, HB.out]; unfold bitB; simp_all⟩
        case measure => simp [intOf]; omega
    · go_wp2
      go_ret
      have hb := HB.out
      rw [List.take_of_length_le (by omega)] at hb
      exact ⟨ret_bool (by rw [hb]; rfl), rfl⟩

/-- The same, asked for the list's own length. -/
theorem areBits_own (a : Option Addr) (cap : Nat) (l : List Int) (w : World) (B C : Nat) (h : RdI w B C a l) (hl : l.length ≤ maxLen) :
    Calls Tryz.prog 42 #[.slice a l.length cap, .int .i64 l.length] w fun e w' => e = .returned (.bool (bitsB l)) ∧ w = w' :=
  (areBits_any a cap l l.length w B C h hl).mono fun e w' ⟨he, hw⟩ => ⟨by rw [he]; simp, hw⟩

set_option maxHeartbeats 400000 in
theorem l1In_any (n lo hi : Int) (w : World) : Calls Tryz.prog 22 #[.int .i64 n, .int .i64 lo, .int .i64 hi] w fun e w' => e = .returned (.bool (decide (lo ≤ n) && decide (n ≤ hi))) ∧ w = w' := by
  by_cases h1 : lo ≤ n
  · by_cases h2 : n ≤ hi
    all_goals
      go_enter Tryz.func22, Tryz.ntmps22
      go_wp2
      go_ret
      exact ⟨ret_bool (by simp [*]), rfl⟩
  · go_enter Tryz.func22, Tryz.ntmps22
    go_wp2
    go_ret
    exact ⟨ret_bool (by simp [*]; try omega), rfl⟩

/-- Asked whether a number is a bit. -/
theorem l1In_bit (n : Int) (w : World) : Calls Tryz.prog 22 #[.int .i64 n, .int .i64 0, .int .i64 1] w fun e w' => e = .returned (.bool (bitB n)) ∧ w = w' :=
  (l1In_any n 0 1 w).mono fun e w' ⟨he, hw⟩ => ⟨by rw [he, bitB_in], hw⟩

end Go.Proofs.YtiiohodkfipfbaaGreatDoor
