/- strconv.Itoa of one digit. -/
import Derived.Test.YtiiohodkfipfbaaGreatDoorInt
namespace Go.Proofs.YtiiohodkfipfbaaGreatDoor
open Go.RowKit Go.Hyp Go.Deep

set_option maxHeartbeats 400000 in
theorem small_any (i : Nat) (hi : i < 10) (w : World) : Calls Tryz.prog 94 #[.int .i64 i] w fun e w' => e = .returned (.string ⟨#[UInt8.ofNat (48 + i)]⟩) ∧ w' = w := by
  have hii : (i : Int) < 10 := by omega
  have h0 : ¬ (i : Int) < 0 := by omega
  go_enter Tryz.func94, Tryz.ntmps94
  match i, hi with
  | 0, _ | 1, _ | 2, _ | 3, _ | 4, _ | 5, _ | 6, _ | 7, _ | 8, _ | 9, _ =>
    clear hii h0
    go_wp2_with fail
    go_ret
    exact ⟨rfl, rfl⟩

theorem formatInt_any (i : Nat) (hi : i < 10) (w : World) : Calls Tryz.prog 84 #[.int .i64 i, .int .i64 10] w fun e w' => e = .returned (.string ⟨#[UInt8.ofNat (48 + i)]⟩) ∧ w' = w := by
  have hs := small_any i hi w
  obtain ⟨D, hD⟩ : ∃ D, D = UInt8.ofNat (48 + i) := ⟨_, rfl⟩
  rw [← hD] at hs ⊢
  have HS := Lib.hid hs
  clear hs hD
  have hii : (0 : Int) ≤ (i : Int) := by omega
  have hi2 : (i : Int) < 100 := by omega
  go_enter Tryz.func84, Tryz.ntmps84
  go_wp2_with fail
  refine HS.out.mono ?_
  rintro e w' ⟨rfl, rfl⟩
  go_wp2_with fail
  go_ret
  exact ⟨rfl, rfl⟩

theorem itoa1_any (i : Nat) (hi : i < 10) (w : World) : Calls Tryz.prog 65 #[.int .i64 i] w fun e w' => e = .returned (.string ⟨#[UInt8.ofNat (48 + i)]⟩) ∧ w' = w := by
  have hs := formatInt_any i hi w
  obtain ⟨D, hD⟩ : ∃ D, D = UInt8.ofNat (48 + i) := ⟨_, rfl⟩
  rw [← hD] at hs ⊢
  have HS := Lib.hid hs
  clear hs hD
  go_enter Tryz.func65, Tryz.ntmps65
  go_wp2_with fail
  refine HS.out.mono ?_
  rintro e w' ⟨rfl, rfl⟩
  go_wp2_with fail
  go_ret
  exact ⟨rfl, rfl⟩

theorem itoa_any (i : Nat) (hi : i < 10) (w : World) : Calls Tryz.prog 56 #[.int .i64 i] w fun e w' => e = .returned (.string ⟨#[UInt8.ofNat (48 + i)]⟩) ∧ w' = w := by
  have hs := itoa1_any i hi w
  obtain ⟨D, hD⟩ : ∃ D, D = UInt8.ofNat (48 + i) := ⟨_, rfl⟩
  rw [← hD] at hs ⊢
  have HS := Lib.hid hs
  clear hs hD
  go_enter Tryz.func56, Tryz.ntmps56
  go_wp2_with fail
  refine HS.out.mono ?_
  rintro e w' ⟨rfl, rfl⟩
  go_wp2_with fail
  go_ret
  exact ⟨rfl, rfl⟩
end Go.Proofs.YtiiohodkfipfbaaGreatDoor
