/- The laws' marks: numbers written into owned memory, and found there again. -/
import Derived.Test.YtiiohodkfipfbaaDoorInt
namespace Go.Hyp
open Go.RowKit Go.Deep

/-- k, k + 1 and so on, n of them. -/
def marks (k n : Nat) : List Int := (List.range n).map fun i => ((k + i : Nat) : Int)
theorem marks_len (k n : Nat) : (marks k n).length = n := by simp [marks]
theorem marks_get (k n i : Nat) (h : i < (marks k n).length) : (marks k n)[i] = ((k + i : Nat) : Int) := by simp [marks]
theorem OwI.setAt {w : World} {E B C g cap : Nat} {l : List Int} (h : OwI w E B C (some ⟨g, 0, none⟩) cap l) (i : Nat) (hi : i < l.length) (v : Int) : OwI (w.setCell ⟨g, i, none⟩ (.int .i64 v)) E B C (some ⟨g, 0, none⟩) cap (l.set i v) := by
  rcases h with ⟨e, _⟩ | ⟨g', f, e, h1, h2, hr, hl, hm, hf⟩
  · cases e
  · cases e
    refine .inr ⟨g, _, rfl, h1, h2, hr.set i _, by simpa using hl, hm, fun j hj => ?_⟩
    rw [List.length_set] at hj
    by_cases e : j = i
    · subst e; simp [List.getD, hj]
    · rw [if_neg e, hf j hj]
      have e' : ¬ i = j := fun h => e h.symm
      simp [List.getD, e']
theorem OwI.cells {w : World} {E B C cap : Nat} {a : Option Addr} {l : List Int} (h : OwI w E B C a cap l) (i : Nat) (hi : i < l.length) : ∃ g, a = some ⟨g, 0, none⟩ ∧ B ≤ g ∧ g < C ∧ w.cell? ⟨g, i, none⟩ = some (.int .i64 l[i]) ∧ w.frozen? ⟨g, i, none⟩ = false ∧ g < w.heap.size := by
  rcases h with ⟨_, rfl, _⟩ | ⟨g, f, e, h1, h2, hr, hl, hm, hf⟩
  · simp at hi
  · exact ⟨g, e, h1, h2, by rw [hr.cell (by omega), hf i hi]; simp [List.getD, hi], hr.frozen i, hr.lt⟩
/-- Owned memory stays where nothing turned in its block. -/
theorem OwI.keep {S : Nat → Prop} {w w' : World} {E B C cap : Nat} {a : Option Addr} {l : List Int} (h : OwI w E B C a cap l) (hc : Chg S w w') (hS : ∀ b, blockOf a = some b → ¬ S b) : OwI w' E B C a cap l := by
  rcases h with h | ⟨g, f, e, h1, h2, hr, r⟩
  · exact .inl h
  · subst e
    exact .inr ⟨g, f, rfl, h1, h2, hr.of_block (hc.block g hr.lt (hS g rfl)), r⟩
theorem Dis.blocks {a a' : Option Addr} (h : Dis a a') (b : Nat) (h1 : blockOf a = some b) (h2 : blockOf a' = some b) : False := by
  cases a with
  | none => simp [blockOf] at h1
  | some x =>
    cases a' with
    | none => simp [blockOf] at h2
    | some y =>
      simp [blockOf] at h1 h2
      exact h x y rfl rfl (h1.trans h2.symm)
theorem Chg.wide {S T : Nat → Prop} {w w' : World} (h : Chg S w w') (hT : ∀ k, S k → T k) : Chg T w w' := ⟨h.os, h.tape, h.output, h.size, fun k hk hn => h.block k hk (fun hs => hn (hT k hs))⟩
end Go.Hyp
namespace Go.Proofs.YtiiohodkfipfbaaDoor
open Go.RowKit Go.Hyp Go.Deep

set_option maxHeartbeats 400000 in
theorem markIntS_any (a : Option Addr) (cap : Nat) (l : List Int) (K : Nat) (w : World) (B C : Nat) (h : OwI w 3 B C a cap l) (hl : l.length ≤ 1048576) (hK : K ≤ 1073741824) :
    Calls Tryd.prog 71 #[.slice a l.length cap, .int .i64 K] w fun e w' => e = .returned (.int .i64 ((K + l.length : Nat) : Int)) ∧ OwI w' 3 B C a cap (marks K l.length) ∧ Chg (fun b => blockOf a = some b) w w' ∧ w'.heap.size = w.heap.size := by
  have HO := Lib.hid h
  clear h
  go_enter Tryd.func71, Tryd.ntmps71
  go_wp2_with fail
  go_loopw [1, 5] (fun m i wr => ∃ (j : Nat) (L : List Int), j ≤ l.length ∧ i = .int .i64 j ∧ m = .int .i64 ((K + j : Nat) : Int) ∧ L.length = l.length ∧ (∀ i, i < j → L.getD i 0 = ((K + i : Nat) : Int)) ∧ OwI wr 3 B C a cap L ∧ Chg (fun b => blockOf a = some b) w wr ∧ wr.heap.size = w.heap.size) (fun _ i _ => l.length - (intOf i).toNat)
  case atStart => exact ⟨0, l, Nat.zero_le _, rfl, rfl, rfl, fun i hi => by omega, HO.out, Chg.refl _ _, rfl⟩
  case round =>
    obtain ⟨j, L, hj, rfl, rfl, hL, hm, ho, hc, hz⟩ := hrel
    have HL := Lib.hid hL
    have HM := Lib.hid hm
    have HO' := Lib.hid ho
    have HC := Lib.hid hc
    have HZ := Lib.hid hz
    clear hL hm ho hc hz HO
    by_cases hlt : j < l.length
    · have hlt' : j < L.length := by have := HL.out; omega
      obtain ⟨g, rfl, hg1, hg2, hd, hfz, hgl⟩ := HO'.out.cells j hlt'
      have hjz : (j : Int) < (l.length : Int) := by omega
      have e1 : ((K + j : Nat) : Int) + 1 = ((K + (j + 1) : Nat) : Int) := by omega
      go_wp2_with fail
      go_roundw
      case rel =>
        refine ⟨j + 1, L.set j ((K + j : Nat) : Int), by omega, by go_num, int_eq (by omega), by simp; exact HL.out, fun i hi => ?_, HO'.out.setAt j hlt' _, HC.out.set (.inl rfl) _, by simpa using HZ.out⟩
        by_cases e : i = j
        · subst e; simp [List.getD, hlt']
        · have e' : ¬ j = i := fun h => e h.symm
          have := HM.out i (by omega)
          simp only [List.getD] at this ⊢
          rw [List.getElem?_set_ne e']; exact this
      case measure => simp [intOf]; omega
    · obtain rfl : j = l.length := by omega
      go_wp2_with fail
      go_ret
      have e : L = marks K l.length := List.ext_getElem (by rw [marks_len]; exact HL.out) fun i h1 h2 => by
        have := HM.out i (by have := HL.out; omega)
        simp [List.getD, h1] at this
        rw [marks_get, this]; omega
      exact ⟨rfl, e ▸ HO'.out, HC.out, HZ.out⟩

set_option maxHeartbeats 400000 in
theorem heldIntS_any (a : Option Addr) (cap n : Nat) (K : Nat) (w : World) (B C : Nat) (h : RdI w B C a (marks K n)) (hl : n ≤ 1048576) (hK : K ≤ 1073741824) :
    Calls Tryd.prog 72 #[.slice a n cap, .int .i64 K] w fun e w' => e = .returned (.int .i64 ((K + n : Nat) : Int)) ∧ w = w' := by
  have HO := Lib.hid h
  clear h
  go_enter Tryd.func72, Tryd.ntmps72
  go_wp2_with fail
  go_loop [1, 4, 5] (fun m r i => ∃ j : Nat, j ≤ n ∧ i = .int .i64 j ∧ r = .int .i64 0 ∧ m = .int .i64 ((K + j : Nat) : Int)) (fun _ _ i => n - (intOf i).toNat)
  case atStart => exact ⟨0, Nat.zero_le _, rfl, rfl, rfl⟩
  case round =>
    obtain ⟨j, hj, rfl, rfl, rfl⟩ := hrel
    by_cases hlt : j < n
    · have hlt' : j < (marks K n).length := by rw [marks_len]; exact hlt
      obtain ⟨b, off, rfl, _, _, hd⟩ := HO.out.at j hlt'
      rw [marks_get] at hd
      have e1 : ((K + j : Nat) : Int) + 1 = ((K + (j + 1) : Nat) : Int) := by omega
      go_wp2_with fail
      go_round
      case rel => exact ⟨j + 1, by omega, by go_num, rfl, int_eq (by omega)⟩
      case measure => simp [intOf]; omega
    · obtain rfl : j = n := by omega
      go_wp2_with fail
      go_ret
      exact ⟨rfl, rfl⟩

end Go.Proofs.YtiiohodkfipfbaaDoor
