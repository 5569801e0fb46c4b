/- The laws' sameInts and sameRows. -/
import Derived.Test.YtiiohodkfipfbaaDoorPic
namespace Go.Proofs.YtiiohodkfipfbaaDoor
open Go.RowKit Go.Hyp Go.Deep

set_option maxHeartbeats 400000 in
theorem sameInts_any (a a' : Option Addr) (cap cap' : Nat) (l l' : List Int) (w : World) (B C B' C' : Nat) (h : RdI w B C a l) (h' : RdI w B' C' a' l') (hl : l.length ≤ maxLen) (_hl' : l'.length ≤ maxLen) :
    Calls Tryd.prog 27 #[.slice a l.length cap, .slice a' l'.length cap'] w fun e w' => e = .returned (.bool (decide (l = l'))) ∧ ∃ n, w' = w.drewN n := by
  unfold maxLen at hl
  by_cases hlen : l.length = l'.length
  · have hb : (((l.length : Nat) : Int) != ((l'.length : Nat) : Int)) = false := by simp [hlen]
    have Hlen := Lib.hid hlen
    clear hlen
    go_enter Tryd.func27, Tryd.ntmps27
    go_wp2
    go_loopw [4, 5] (fun r i wr => ∃ k n : Nat, k ≤ l.length ∧ r = .bool false ∧ i = .int .i64 k ∧ l.take k = l'.take k ∧ wr = w.drewN n) (fun _ i _ => l.length - (intOf i).toNat)
    case atStart => exact ⟨0, 0, Nat.zero_le _, rfl, rfl, rfl, rfl⟩
    case round =>
      obtain ⟨k, n, hk, rfl, rfl, he, rfl⟩ := hrel
      have HE := Lib.hid he
      clear he
      by_cases hlt : k < l.length
      · have hlt' : k < l'.length := by have := Hlen.out; omega
        obtain ⟨b, off, rfl, h1, h2, hc⟩ := h.at k hlt
        obtain ⟨b', off', rfl, h1', h2', hc'⟩ := h'.at k hlt'
        clear h h'
        by_cases hx : l[k] = l'[k]
        · have hxb : (l[k] != l'[k]) = false := by simp [hx]
          have HX := Lib.hid hx
          clear hx
          go_wp2_with fail
          go_quiet (fail)
          go_wp2
          go_roundw
          case rel => exact ⟨k + 1, _, by omega, rfl, by go_num, take_eq_succ hlt hlt' HE.out HX.out, rfl⟩
          case measure => simp [intOf]; omega
        · have hxb : (l[k] != l'[k]) = true := by simp [hx]
          have HX := Lib.hid hx
          clear hx
          go_wp2_with fail
          go_quiet (fail)
          go_wp2
          go_ret
          exact ⟨ret_bool (by rw [decide_eq_false]; exact fun e => HX.out (by simp [e])), _, by rw [World.drewN_drewN]⟩
      · go_wp2
        go_ret
        exact ⟨ret_bool (by rw [decide_eq_true]; have e := HE.out; have := Hlen.out; rwa [List.take_of_length_le (by omega), List.take_of_length_le (by omega)] at e), _, rfl⟩
  · have hb : (((l.length : Nat) : Int) != ((l'.length : Nat) : Int)) = true := by simp; omega
    have hne : l ≠ l' := fun e => hlen (by rw [e])
    go_enter Tryd.func27, Tryd.ntmps27
    go_wp2
    go_ret
    exact ⟨ret_bool (by simp [hne]), 0, rfl⟩

set_option maxHeartbeats 400000 in
theorem sameRows_any (a a' : Option Addr) (cap cap' : Nat) (p p' : List (List Int)) (w : World) (B C B' C' : Nat) (h : RdII w B C a p) (h' : RdII w B' C' a' p') (hl : p.length ≤ maxLen) :
    Calls Tryd.prog 26 #[.slice a p.length cap, .slice a' p'.length cap'] w fun e w' => e = .returned (.bool (decide (p = p'))) ∧ Qt w w' := by
  unfold maxLen at hl
  by_cases hlen : p.length = p'.length
  · have hb : (((p.length : Nat) : Int) != ((p'.length : Nat) : Int)) = false := by simp [hlen]
    have Hlen := Lib.hid hlen
    clear hlen
    go_enter Tryd.func26, Tryd.ntmps26
    go_wp2_with fail
    go_loopw [4, 5] (fun r i wr => ∃ k : Nat, k ≤ p.length ∧ r = .bool false ∧ i = .int .i64 k ∧ p.take k = p'.take k ∧ Qt w wr) (fun _ i _ => p.length - (intOf i).toNat)
    case atStart => exact ⟨0, Nat.zero_le _, rfl, rfl, rfl, Qt.refl _⟩
    case round =>
      obtain ⟨k, hk, rfl, rfl, he, hq⟩ := hrel
      have HE := Lib.hid he
      have HQ := Lib.hid hq
      clear he hq
      by_cases hlt : k < p.length
      · have hlt' : k < p'.length := by have := Hlen.out; omega
        obtain ⟨b, off, x, c, rfl, _, _, hc, hr, hll⟩ := (h.agr HQ.out.agr).at k hlt
        obtain ⟨b', off', x', c', rfl, _, _, hc', hr', hll'⟩ := (h'.agr HQ.out.agr).at k hlt'
        have HR := Lib.hid hr
        have HR' := Lib.hid hr'
        clear h h' hr hr'
        by_cases hx : p[k] = p'[k]
        · have HX := Lib.hid hx
          have HC : Hid (∀ n, Calls Tryd.prog 27 #[.slice x p[k].length c, .slice x' p'[k].length c'] (wr.drewN n) fun e w' => e = .returned (.bool true) ∧ Qt (wr.drewN n) w') := fun n => by
            have h := sameInts_any x x' c c' p[k] p'[k] (wr.drewN n) B C B' C' (HR.out.agr ((Qt.refl _).n n).agr) (HR'.out.agr ((Qt.refl _).n n).agr) hll hll'
            rwa [decide_eq_true hx] at h
          clear hx
          go_wp2_with fail
          go_quiet ((go_at_call 27; exact quietQ (HC.out _)))
          go_wp2_with fail
          go_roundw
          case rel => exact ⟨k + 1, by omega, rfl, by go_num, take_eq_succ hlt hlt' HE.out HX.out, HQ.out.n _⟩
          case measure => simp [intOf]; omega
        · have HX := Lib.hid hx
          have HC : Hid (∀ n, Calls Tryd.prog 27 #[.slice x p[k].length c, .slice x' p'[k].length c'] (wr.drewN n) fun e w' => e = .returned (.bool false) ∧ Qt (wr.drewN n) w') := fun n => by
            have h := sameInts_any x x' c c' p[k] p'[k] (wr.drewN n) B C B' C' (HR.out.agr ((Qt.refl _).n n).agr) (HR'.out.agr ((Qt.refl _).n n).agr) hll hll'
            rwa [decide_eq_false hx] at h
          clear hx
          go_wp2_with fail
          go_quiet ((go_at_call 27; exact quietQ (HC.out _)))
          go_wp2_with fail
          go_ret
          exact ⟨ret_bool (by rw [decide_eq_false]; exact fun e => HX.out (by simp [e])), HQ.out.n _⟩
      · go_wp2_with fail
        go_ret
        exact ⟨ret_bool (by rw [decide_eq_true]; have e := HE.out; have := Hlen.out; rwa [List.take_of_length_le (by omega), List.take_of_length_le (by omega)] at e), HQ.out⟩
  · have hb : (((p.length : Nat) : Int) != ((p'.length : Nat) : Int)) = true := by simp; omega
    have hne : p ≠ p' := fun e => hlen (by rw [e])
    go_enter Tryd.func26, Tryd.ntmps26
    go_wp2_with fail
    go_ret
    exact ⟨ret_bool (by simp [hne]), Qt.refl _⟩

end Go.Proofs.YtiiohodkfipfbaaDoor
