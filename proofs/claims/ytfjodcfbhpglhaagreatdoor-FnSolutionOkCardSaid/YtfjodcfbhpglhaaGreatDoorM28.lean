/- Walks of the functions that shorten streams. -/
import Derived.Deep.RegionLaw
import Derived.Deep.Cut
import Derived.Test.YtfjodcfbhpglhaaGreatDoorM3
import Derived.Test.YtfjodcfbhpglhaaGreatDoorM1
namespace Go.Hyp
open Go.RowKit Go.Deep
theorem RdI.drop {w : World} {B C : Nat} {b off : Nat} {l : List Int} (h : RdI w B C (some ⟨b, off, none⟩) l) (n : Nat) : RdI w B C (some ⟨b, off + n, none⟩) (l.drop n) := by
  intro i hi
  rw [List.length_drop] at hi
  obtain ⟨b', off', e, h1, h2, h3⟩ := h (n + i) (by omega)
  cases e
  refine ⟨b, off + n, rfl, h1, h2, ?_⟩
  rw [Nat.add_assoc, h3]
  simp [List.getD]
theorem RdI.take {w : World} {B C : Nat} {a : Option Addr} {l : List Int} (h : RdI w B C a l) (n : Nat) : RdI w B C a (l.take n) := by
  intro i hi
  rw [List.length_take] at hi
  obtain ⟨b', off', e, h1, h2, h3⟩ := h i (by omega)
  refine ⟨b', off', e, h1, h2, ?_⟩
  rw [h3]
  have hin : i < n := by omega
  simp only [List.getD, List.getElem?_take, if_pos hin]
theorem slice_len' {a : Option Addr} {c n m : Nat} (h : m = n) : Value.slice a m c = Value.slice a n c := by rw [h]
theorem blk_agr {w w' : World} {k : Nat} {x : Obj} {B C : Nat} (h : Agr B C w w') (hk : w.heap[k]? = some x) (h1 : B ≤ k) (h2 : k < C) : w'.heap[k]? = some x := by rw [h k h1 h2, hk]
theorem OwI.take {w : World} {E B C cap : Nat} {a : Option Addr} {l : List Int} (h : OwI w E B C a cap l) (n : Nat) : OwI w E B C a cap (l.take n) := by
  rcases h with ⟨h1, rfl, h2⟩ | ⟨g, f, e, h1, h2, hr, hl, hm, hf⟩
  · exact .inl ⟨h1, by simp, h2⟩
  · refine .inr ⟨g, f, e, h1, h2, hr, by simp; omega, hm, fun i hi => ?_⟩
    rw [List.length_take] at hi
    have hin : i < n := by omega
    rw [hf i (by omega)]
    simp only [List.getD, List.getElem?_take, if_pos hin]
def lenOf : Value → Nat
  | .slice _ n _ => n
  | _ => 0
theorem OwI.at0 {w : World} {E B C cap : Nat} {a : Option Addr} {l : List Int} (h : OwI w E B C a cap l) (h0 : 0 < l.length) : ∃ g, a = some ⟨g, 0, none⟩ ∧ B ≤ g ∧ g < C ∧ l.length ≤ cap ∧ cap ≤ maxLen ∧ g < w.heap.size := by
  rcases h with ⟨_, rfl, _⟩ | ⟨g, f, e, h1, h2, hr, hl, hm, hf⟩
  · simp at h0
  · exact ⟨g, e, h1, h2, hl, hm, hr.lt⟩
end Go.Hyp
namespace Go.Proofs.YtfjodcfbhpglhaaGreatDoor
open Go.RowKit Go.Hyp Go.Deep

set_option maxHeartbeats 400000 in
theorem slicesEqual_any (a a' : Option Addr) (cap cap' : Nat) (l l' : List Int) (w : World) (B C B' C' : Nat) (h : RdI w B C a l) (h' : RdI w B' C' a' l') (hl : l.length ≤ maxLen) :
    Calls Tryz.prog 101 #[.slice a l.length cap, .slice a' l'.length cap'] w fun e w' => e = .returned (.bool (decide (l = l'))) ∧ Qt w w' := by
  unfold maxLen at hl
  have HF := Lib.hid h
  have HF' := Lib.hid h'
  clear h h'
  by_cases hlen : l.length = l'.length
  · have hb : (((l.length : Nat) : Int) != ((l'.length : Nat) : Int)) = false := by simp [hlen]
    have Hlen := Lib.hid hlen
    clear hlen
    go_enter Tryz.func101, Tryz.ntmps101
    go_wp2
    go_loopw [4, 13] (fun r i wr => ∃ k : Nat, k ≤ l.length ∧ r = .bool false ∧ i = .int .i64 k ∧ l.take k = l'.take k ∧ Qt w wr) (fun _ i _ => l.length - (intOf i).toNat)
    case atStart => exact ⟨0, Nat.zero_le _, rfl, rfl, rfl, Qt.refl _⟩
    case round =>
      obtain ⟨k, hk, rfl, rfl, he, hq⟩ := hrel
      have HE := Lib.hid he
      have HQ := Lib.hid hq
      clear he hq
      by_cases hlt : k < l.length
      · have hlt' : k < l'.length := by have := Hlen.out; omega
        obtain ⟨b, off, rfl, h1, h2, hc⟩ := (HF.out.agr HQ.out.agr).at k hlt
        obtain ⟨b', off', rfl, h1', h2', hc'⟩ := (HF'.out.agr HQ.out.agr).at k hlt'
        by_cases hx : l[k] = l'[k]
        · have hxb : (l[k] != l'[k]) = false := by simp [hx]
          have HX := Lib.hid hx
          clear hx
          go_wp2_with fail
          go_quiet (fail)
          go_wp2
          go_roundw
          case rel => exact ⟨k + 1, by omega, rfl, by go_num, take_eq_succ hlt hlt' HE.out HX.out, HQ.out.n _⟩
          case measure => simp [intOf]; omega
        · have hxb : (l[k] != l'[k]) = true := by simp [hx]
          have HX := Lib.hid hx
          clear hx
          go_wp2_with fail
          go_quiet (fail)
          go_wp2
          go_ret
          exact ⟨ret_bool (by rw [decide_eq_false]; exact fun e => HX.out (by simp [e])), HQ.out.n _⟩
      · go_wp2
        go_ret
        exact ⟨ret_bool (by rw [decide_eq_true]; have e := HE.out; have := Hlen.out; rwa [List.take_of_length_le (by omega), List.take_of_length_le (by omega)] at e), HQ.out⟩
  · have hb : (((l.length : Nat) : Int) != ((l'.length : Nat) : Int)) = true := by simp; omega
    have hne : l ≠ l' := fun e => hlen (by rw [e])
    go_enter Tryz.func101, Tryz.ntmps101
    go_wp2
    go_ret
    exact ⟨ret_bool (by simp [hne]), Qt.refl _⟩

end Go.Proofs.YtfjodcfbhpglhaaGreatDoor
