/- Codes at nodes, as the program finds them: impl.onLoop, comesBack, codeAt, CodeAt. impl.Has, walked. -/
import Derived.Deep.RegionLaw
import Derived.Deep.RegionHeld3
import Derived.Test.YtfjodcfbhpglhaaM14
import Derived.Test.YtfjodcfbhpglhaaM9
import Derived.Test.YtfjodcfbhpglhaaM11
namespace Go.Hyp
open Go.RowKit Go.Deep
/-- Some arrow of n leads back to n. -/
def onLoopB (p : List (List Int)) (n : Nat) : Bool := (arrL p n p.length).any fun x => decide (((n : Nat) : Int) ∈ natL (reachL p x.toNat))
/-- Some node that is reached from n lies on a loop. -/
def backB (p : List (List Int)) (n : Nat) : Bool := (natL (reachL p n)).any fun x => onLoopB p x.toNat
theorem mem_natL {l : List Nat} {n : Nat} : ((n : Nat) : Int) ∈ natL l ↔ n ∈ l := by
  unfold natL
  rw [List.mem_map]
  constructor
  · rintro ⟨x, hx, e⟩
    have : x = n := Int.ofNat.inj e
    exact this ▸ hx
  · exact fun h => ⟨n, h, rfl⟩
theorem onLoopB_iff {p : List (List Int)} {n : Nat} (hn : n < p.length) : onLoopB p n = true ↔ OnLoop p n := by
  unfold onLoopB OnLoop
  rw [List.any_eq_true]
  constructor
  · rintro ⟨x, hx, h⟩
    obtain ⟨k, rfl, h1, h2⟩ := arrL_mem.1 hx
    rw [decide_eq_true_eq, mem_natL, Int.toNat_natCast, reachL_mem h1] at h
    exact ⟨k, ⟨h1, h2⟩, h.2⟩
  · rintro ⟨k, ⟨h1, h2⟩, h3⟩
    refine ⟨k, arrL_mem.2 ⟨k, rfl, h1, h2⟩, ?_⟩
    rw [decide_eq_true_eq, mem_natL, Int.toNat_natCast, reachL_mem h1]
    exact ⟨hn, h3⟩
theorem backB_iff {p : List (List Int)} {n : Nat} (hn : n < p.length) : backB p n = true ↔ Back p n := by
  unfold backB Back
  rw [List.any_eq_true]
  constructor
  · rintro ⟨x, hx, h⟩
    obtain ⟨k, hk, rfl⟩ := List.mem_map.1 hx
    obtain ⟨h1, h2⟩ := (reachL_mem hn).1 hk
    exact ⟨k, h1, h2, (onLoopB_iff h1).1 (by simpa using h)⟩
  · rintro ⟨k, h1, h2, h3⟩
    exact ⟨(k : Nat), mem_natL.2 ((reachL_mem hn).2 ⟨h1, h2⟩), by rw [Int.toNat_natCast]; exact (onLoopB_iff h1).2 h3⟩
/-- What codeAt has found: the set of the codes of the first k members. -/
def SetK (p : List (List Int)) (L : List Int) (k S : Nat) : Prop :=
  S < 65536 ∧ (∀ j, j < k → ∃ m, m ≤ 15 ∧ Code p (L.getD j 0).toNat m) ∧ ∀ m, S.testBit m = true ↔ ∃ j, j < k ∧ Code p (L.getD j 0).toNat m
theorem SetK.zero (p : List (List Int)) (L : List Int) : SetK p L 0 0 := ⟨by omega, fun j hj => by omega, fun m => by simp⟩
theorem SetK.step {p : List (List Int)} {L : List Int} {k S m : Nat} (h : SetK p L k S) (hv : (L.getD k 0).toNat < p.length) (hm : m ≤ 15) (hc : Code p (L.getD k 0).toNat m) : SetK p L (k + 1) (S ||| 2 ^ m) := by
  obtain ⟨h1, h2, h3⟩ := h
  refine ⟨Nat.or_lt_two_pow (n := 16) (by omega) (Nat.pow_lt_pow_of_lt (by omega) (by omega)), fun j hj => ?_, fun x => ?_⟩
  · rcases Nat.lt_or_ge j k with h | h
    · exact h2 j h
    · obtain rfl : j = k := by omega
      exact ⟨m, hm, hc⟩
  · rw [testBit_put, Bool.or_eq_true, h3, decide_eq_true_eq]
    constructor
    · rintro (⟨j, hj, hx⟩ | rfl)
      · exact ⟨j, by omega, hx⟩
      · exact ⟨k, by omega, hc⟩
    · rintro ⟨j, hj, hx⟩
      rcases Nat.lt_or_ge j k with h | h
      · exact .inl ⟨j, h, hx⟩
      · obtain rfl : j = k := by omega
        exact .inr (hc.one hv hx)
theorem SetK.code {p : List (List Int)} {i S : Nat} (h : SetK p (arrL p i p.length) (arrL p i p.length).length S) : Code p i S := by
  obtain ⟨h1, h2, h3⟩ := h
  have hat : ∀ v, Mem p i v → ∃ j, j < (arrL p i p.length).length ∧ ((arrL p i p.length).getD j 0).toNat = v := fun v hv => by
    obtain ⟨j, hj, e⟩ := List.getElem_of_mem (arrL_mem.2 ⟨v, rfl, hv.1, hv.2⟩)
    exact ⟨j, hj, by rw [getD_lt hj, e, Int.toNat_natCast]⟩
  have hex : ∀ v, Mem p i v → ∃ m, m ≤ 15 ∧ Code p v m := fun v hv => by
    obtain ⟨j, hj, e⟩ := hat v hv
    rw [← e]; exact h2 j hj
  have hmem : ∀ j, j < (arrL p i p.length).length → Mem p i ((arrL p i p.length).getD j 0).toNat := fun j hj => by
    obtain ⟨x, e, h4, h5⟩ := arrL_at hj
    rw [getD_lt hj, e, Int.toNat_natCast]; exact ⟨h4, h5⟩
  have hch : ∃ c : Nat → Nat, ∀ v, Mem p i v → c v ≤ 15 ∧ Code p v (c v) := by
    classical
    refine ⟨fun v => if hv : Mem p i v then Classical.choose (hex v hv) else 0, fun v hv => ?_⟩
    show (if hv : Mem p i v then Classical.choose (hex v hv) else 0) ≤ 15 ∧ Code p v (if hv : Mem p i v then Classical.choose (hex v hv) else 0)
    rw [dif_pos hv]
    exact Classical.choose_spec (hex v hv)
  obtain ⟨c, hc⟩ := hch
  refine .mk i S c (fun v hv => (hc v hv).1) (fun v hv => (hc v hv).2) fun m => ?_
  rw [h3]
  constructor
  · rintro ⟨j, hj, hx⟩
    exact ⟨_, hmem j hj, (hc _ (hmem j hj)).2.one (hmem j hj).1 hx⟩
  · rintro ⟨v, hv, rfl⟩
    obtain ⟨j, hj, e⟩ := hat v hv
    exact ⟨j, hj, by rw [e]; exact (hc v hv).2⟩
/-- What CodeAt tells of a node. -/
def CodeRes (p : List (List Int)) (i : Nat) (c : Int) (b : Bool) : Prop := (b = true ∧ ∃ m : Nat, c = m ∧ Code p i m) ∨ (b = false ∧ ∀ m, ¬ Code p i m)
def CodePost (p : List (List Int)) (i : Nat) (w : World) (e : Ending) (w' : World) : Prop :=
  ∃ (c : Int) (b : Bool), e = .returned (.tuple #[.int .i64 c, .bool b]) ∧ CodeRes p i c b ∧ Below w.heap.size w w'
end Go.Hyp
namespace Go.Proofs.Ytfjodcfbhpglhaa
open Go.RowKit Go.Hyp Go.Deep



end Go.Proofs.Ytfjodcfbhpglhaa
namespace Go.Hyp
open Go.RowKit
theorem and_one (a : Nat) (ha : a < 65536) : bits .and .i64 (a : Int) 1 = ((a % 2 : Nat) : Int) := by
  have e1 : (BitVec.ofInt 64 (1 : Int)).toNat = 1 := by decide
  show IntKind.i64.wrap ((BitVec.ofInt 64 (a : Int) &&& BitVec.ofInt 64 (1 : Int)).toNat : Int) = _
  rw [BitVec.toNat_and, ofInt_64 a (by omega), e1, Nat.and_one_is_mod, IntWalk.i64_in _ (by omega)]
theorem bit_shr {n m : Nat} (hn : n ≤ 65535) : (bits .and .i64 ((n : Int) / 2 ^ m) 1 == 1) = n.testBit m := by
  have e : ((n : Int) / 2 ^ m) = ((n / 2 ^ m : Nat) : Int) := by rw [Int.natCast_ediv, Int.natCast_pow]; rfl
  have hle : n / 2 ^ m ≤ n := Nat.div_le_self _ _
  rw [e, and_one _ (by omega), Nat.testBit_eq_decide_div_mod_eq, Bool.eq_iff_iff]
  simp
  omega
end Go.Hyp
namespace Go.Proofs.Ytfjodcfbhpglhaa
open Go.RowKit Go.Hyp Go.Deep

theorem isCode_any (n : Nat) (w : World) (hn : n ≤ 65535) : Calls Try.prog 53 #[.int .i64 n] w fun e w' => e = .returned (.bool true) ∧ w = w' := by
  have h1 : (n : Int) ≤ 65535 := by omega
  go_enter Try.func53, Try.ntmps53
  go_wp2_with fail
  go_ret
  exact ⟨rfl, rfl⟩
set_option maxHeartbeats 400000 in
theorem implHas_nat (n m : Nat) (w : World) (hn : n ≤ 65535) (hm : m ≤ 65535) : Calls Try.prog 39 #[.int .i64 n, .int .i64 m] w fun e w' => e = .returned (.bool (n.testBit m)) ∧ w = w' := by
  by_cases h15 : m ≤ 15
  · have h15i : (m : Int) ≤ 15 := by omega
    go_enter Try.func39, Try.ntmps39
    go_wp2_with (go_at_call 53; refine (isCode_any _ _ (by omega)).mono ?_; rintro e w' ⟨rfl, rfl⟩)
    go_ret
    exact ⟨ret_bool (bit_shr hn), rfl⟩
  · have h15i : ¬ (m : Int) ≤ 15 := by omega
    have HT : Hid (n.testBit m = false) := Lib.hid (Nat.testBit_lt_two_pow (Nat.lt_of_lt_of_le (show n < 2 ^ 16 by omega) (Nat.pow_le_pow_right (by omega) (by omega))))
    go_enter Try.func39, Try.ntmps39
    go_wp2_with (go_at_call 53; refine (isCode_any _ _ (by omega)).mono ?_; rintro e w' ⟨rfl, rfl⟩)
    go_ret
    exact ⟨ret_bool HT.out.symm, rfl⟩
end Go.Proofs.Ytfjodcfbhpglhaa
