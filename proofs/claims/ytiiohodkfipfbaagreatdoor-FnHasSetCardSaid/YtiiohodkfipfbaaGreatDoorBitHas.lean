/- impl.Has, walked. -/
import Derived.Test.YtiiohodkfipfbaaGreatDoorBits
import Derived.Test.YtiiohodkfipfbaaGreatDoorCodeI
namespace Go.Hyp
open Go.RowKit
theorem and_one (a : Nat) (ha : a < 65536) : bits .and .i64 (a : Int) 1 = ((a % 2 : Nat) : Int) := by
  have e1 : (BitVec.ofInt 64 (1 : Int)).toNat = 1 := by decide
  show IntKind.i64.wrap ((BitVec.ofInt 64 (a : Int) &&& BitVec.ofInt 64 (1 : Int)).toNat : Int) = _
  rw [BitVec.toNat_and, ofInt_64 a (by omega), e1, Nat.and_one_is_mod, IntWalk.i64_in _ (by omega)]
theorem bit_shr {n m : Nat} (hn : n ≤ 65535) : (bits .and .i64 ((n : Int) / 2 ^ m) 1 == 1) = n.testBit m := by
  have e : ((n : Int) / 2 ^ m) = ((n / 2 ^ m : Nat) : Int) := by rw [Int.natCast_ediv, Int.natCast_pow]; rfl
  have hle : n / 2 ^ m ≤ n := Nat.div_le_self _ _
  rw [e, and_one _ (by omega), Nat.testBit_eq_decide_div_mod_eq, Bool.eq_iff_iff]
  simp
  omega
end Go.Hyp
namespace Go.Proofs.YtiiohodkfipfbaaGreatDoor
open Go.RowKit Go.Hyp Go.Deep

theorem isCode_any (n : Nat) (w : World) (hn : n ≤ 65535) : Calls Tryz.prog 20 #[.int .i64 n] w fun e w' => e = .returned (.bool true) ∧ w = w' := by
  have h1 : (n : Int) ≤ 65535 := by omega
  go_enter Tryz.func20, Tryz.ntmps20
  go_wp2_with fail
  go_ret
  exact ⟨rfl, rfl⟩
set_option maxHeartbeats 400000 in
theorem implHas_nat (n m : Nat) (w : World) (hn : n ≤ 65535) (hm : m ≤ 65535) : Calls Tryz.prog 8 #[.int .i64 n, .int .i64 m] w fun e w' => e = .returned (.bool (n.testBit m)) ∧ w = w' := by
  by_cases h15 : m ≤ 15
  · have h15i : (m : Int) ≤ 15 := by omega
    go_enter Tryz.func8, Tryz.ntmps8
    go_wp2_with (go_at_call 20; refine (isCode_any _ _ (by omega)).mono ?_; rintro e w' ⟨rfl, rfl⟩)
    go_ret
    exact ⟨ret_bool (bit_shr hn), rfl⟩
  · have h15i : ¬ (m : Int) ≤ 15 := by omega
    have HT : Hid (n.testBit m = false) := Lib.hid (Nat.testBit_lt_two_pow (Nat.lt_of_lt_of_le (show n < 2 ^ 16 by omega) (Nat.pow_le_pow_right (by omega) (by omega))))
    go_enter Tryz.func8, Tryz.ntmps8
    go_wp2_with (go_at_call 20; refine (isCode_any _ _ (by omega)).mono ?_; rintro e w' ⟨rfl, rfl⟩)
    go_ret
    exact ⟨ret_bool HT.out.symm, rfl⟩
end Go.Proofs.YtiiohodkfipfbaaGreatDoor
