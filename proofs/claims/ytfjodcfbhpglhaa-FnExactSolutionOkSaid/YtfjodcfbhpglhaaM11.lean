/- Numbers as sets of bits, and orders as lists that miss no number. No program in sight. -/
import Derived.IntWalk
import Derived.Test.YtfjodcfbhpglhaaM1
namespace Go.Hyp
open Go.RowKit

theorem ofInt_64 (a : Nat) (ha : a < 18446744073709551616) : (BitVec.ofInt 64 (a : Int)).toNat = a := by
  rw [BitVec.ofInt_natCast, BitVec.toNat_ofNat]; exact Nat.mod_eq_of_lt (by omega)
theorem or_64 (a b : Nat) (ha : a < 65536) (hb : b < 65536) : bits .or .i64 (a : Int) (b : Int) = ((a ||| b : Nat) : Int) := by
  have hx : a ||| b < 2 ^ 16 := Nat.or_lt_two_pow (by omega) (by omega)
  show IntKind.i64.wrap ((BitVec.ofInt 64 (a : Int) ||| BitVec.ofInt 64 (b : Int)).toNat : Int) = _
  rw [BitVec.toNat_or, ofInt_64 a (by omega), ofInt_64 b (by omega), IntWalk.i64_in _ (by omega)]
theorem pow_lt16 {u : Nat} (h : u < 16) : 2 ^ u < 65536 := Nat.pow_lt_pow_of_lt (by omega) h
theorem wrap_pow {u : Nat} (h : u < 16) : wrap64 ((2 : Int) ^ u) = ((2 ^ u : Nat) : Int) := by
  have h1 := pow_lt16 h
  have e : ((2 : Int) ^ u) = ((2 ^ u : Nat) : Int) := by rw [Int.natCast_pow]; rfl
  rw [e]
  generalize 2 ^ u = x at h1
  unfold wrap64
  omega
theorem wrap_pred {n : Nat} (h : n < 16) : wrap64 ((2 : Int) ^ n - 1) = ((2 ^ n - 1 : Nat) : Int) := by
  have h1 := pow_lt16 h
  have h2 : 1 ≤ 2 ^ n := Nat.two_pow_pos _
  have e : ((2 : Int) ^ n) = ((2 ^ n : Nat) : Int) := by rw [Int.natCast_pow]; rfl
  rw [e]
  generalize 2 ^ n = x at h1 h2
  unfold wrap64
  omega
/-- A bit put to a number. -/
theorem or_bit {M u : Nat} (hM : M < 65536) (hu : u < 16) : bits .or .i64 (M : Int) (wrap64 ((2 : Int) ^ u)) = ((M ||| 2 ^ u : Nat) : Int) := by
  rw [wrap_pow hu, or_64 _ _ hM (pow_lt16 hu)]
theorem testBit_put (M u x : Nat) : (M ||| 2 ^ u).testBit x = (M.testBit x || decide (u = x)) := by
  rw [Nat.testBit_or, Nat.testBit_two_pow]
theorem full_iff {M n : Nat} (hM : M < 2 ^ n) : M = 2 ^ n - 1 ↔ ∀ x, x < n → M.testBit x = true := by
  constructor
  · rintro rfl x hx
    rw [Nat.testBit_two_pow_sub_one]; simpa using hx
  · intro h
    apply Nat.eq_of_testBit_eq
    intro x
    rw [Nat.testBit_two_pow_sub_one]
    by_cases hx : x < n
    · rw [h x hx]; simp [hx]
    · rw [Nat.testBit_lt_two_pow (Nat.lt_of_lt_of_le hM (Nat.pow_le_pow_right (by omega) (by omega)))]; simp [hx]

/-- A list that misses none of n numbers has n at least. -/
theorem cover_le : ∀ (n : Nat) (l : List Int), (∀ x : Nat, x < n → (x : Int) ∈ l) → n ≤ l.length := by
  intro n
  induction n with
  | zero => intro l _; omega
  | succ n ih =>
    intro l h
    have hn := h n (by omega)
    have h2 := ih (l.erase (n : Int)) (fun x hx => (List.mem_erase_of_ne (by omega)).2 (h x (by omega)))
    rw [List.length_erase_of_mem hn] at h2
    have := List.length_pos_of_mem hn
    omega
end Go.Hyp
