/- The text of a picture, as the reference writes it: spec.l1Number, spec.PictureText. -/
import Derived.Laws.BytesString
import Derived.Laws.Concat
import Derived.Laws.IdiomStrings
import Derived.Test.YtfjodcfbhpglhaaM10
import Derived.Test.YtfjodcfbhpglhaaM7
namespace Go.Hyp
open Go.RowKit Go.Deep
theorem str_app (x y : List UInt8) : (ByteArray.mk x.toArray ++ ByteArray.mk y.toArray) = ByteArray.mk (x ++ y).toArray := ByteArray.mk_append_mk x y
theorem str_list (x : List UInt8) : (ByteArray.mk x.toArray).toList = x := by rw [ByteArray.toList_eq]
theorem rowT_upto (p : List (List Int)) (n k j : Nat) (h : j ≤ n) : (rowT p k j).length ≤ n := Nat.le_trans (rowT_len p k j) h
end Go.Hyp
namespace Go.Proofs.Ytfjodcfbhpglhaa
open Go.RowKit Go.Hyp Go.Deep

set_option maxRecDepth 8000 in
set_option maxHeartbeats 800000 in
theorem l1Number_any (n : Nat) (w : World) (hn : n < 10) :
    Calls Try.prog 57 #[.int .i64 n] w fun e w' => e = .returned (.string ⟨[UInt8.ofNat (48 + n)].toArray⟩) ∧ Below w.heap.size w w' := by
  have hn1 : (n : Int) < 10 := by omega
  have hmx : max (n : Int) 0 = (n : Int) := by omega
  have hm2 : (if (0 : Int) > (n : Int) then 0 else (n : Int)) = (n : Int) := by rw [if_neg (by omega)]
  have hdig := digit_val hn
  have hconv : (convert 36 9 (.slice (some ⟨w.heap.size, 0, none⟩) 1 1)).run Try.prog (w.alloc (.cells #[.int .u8 (48 + (n : Int))] 5)) = .ok (.string ⟨[UInt8.ofNat (48 + n)].toArray⟩) (w.alloc (.cells #[.int .u8 (48 + (n : Int))] 5)) :=
    run_convert_bytes_back _ _ _ 5 ⟨w.heap.size, 0, none⟩ 1 [UInt8.ofNat (48 + n)] Try.underlying36 Try.underlying5 Try.underlying9 (fun j hj => by
      have : j = 0 := by simp at hj; omega
      subst this
      rw [new_cell]
      have e : (((UInt8.ofNat (48 + n)).toNat : Nat) : Int) = 48 + (n : Int) := by rw [hdig]; omega
      show some (Value.int .u8 (48 + (n : Int))) = some (Value.int .u8 (((UInt8.ofNat (48 + n)).toNat : Nat) : Int))
      rw [e])
  obtain ⟨cc, hcc⟩ : ∃ cc, cc = UInt8.ofNat (48 + n) := ⟨_, rfl⟩
  rw [← hcc] at hconv ⊢
  clear hcc
  have HCV := Lib.hid hconv
  have HB := Lib.hid (below_alloc w (.cells #[.int .u8 (48 + (n : Int))] 5))
  clear hconv hdig
  go_enter Try.func57, Try.ntmps57
  go_wp2_with fail
  rw [HCV.out]
  go_wp2_with fail
  go_ret
  exact ⟨rfl, HB.out⟩

set_option maxRecDepth 8000 in
set_option maxHeartbeats 1600000 in
theorem pictureText_any (a : Option Addr) (cap : Nat) (p : List (List Int)) (w : World) (B C : Nat) (h : RdII w B C a p) (hC : C ≤ w.heap.size) (hp : picB p = true) :
    Calls Try.prog 43 #[.slice a p.length cap] w fun e w' => e = .returned (.string ⟨(textP p).toArray⟩) ∧ Below w.heap.size w w' := by
  obtain ⟨sq, s1, s5⟩ := picB_sq hp
  have F := Lib.hid h
  have HS := Lib.hid sq
  have HP := Lib.hid hp
  have hm : Hid (p.length ≤ maxLen) := Lib.hid (by unfold maxLen; omega)
  clear h sq hp
  go_enter Try.func43, Try.ntmps43
  go_wp2_with fail
  go_loopw [3, 4] (fun s i wr => ∃ (k : Nat) (x : List UInt8), k ≤ p.length ∧ i = .int .i64 k ∧ s = .string ⟨x.toArray⟩ ∧ x.length ≤ 6 * k ∧ x = textK p p.length k ∧ Below w.heap.size w wr) (fun _ i _ => p.length - (intOf i).toNat)
  case atStart => exact ⟨0, [], Nat.zero_le _, rfl, rfl, Nat.zero_le _, rfl, Below.refl _ _⟩
  case round =>
    obtain ⟨k, x, hk, rfl, rfl, hxl, hx, hb⟩ := hrel
    have HX := Lib.hid hx
    have HB := Lib.hid hb
    have hzr : w.heap.size ≤ wr.heap.size := hb.size
    clear hx hb
    by_cases hlt : k < p.length
    · have hki : (k : Int) < (p.length : Int) := by omega
      have HPO := Lib.hid (specPictureOk_any a cap p wr B C (F.out.below HB.out hC) hm.out)
      have hx30 : x.length ≤ 30 := by omega
      by_cases h0 : k = 0
      · subst h0
        have hx0 : x = [] := List.length_eq_zero_iff.1 (by omega)
        subst hx0
        have HZ : Hid (∀ y : List UInt8, y = ([] : List UInt8) ++ rowT p 0 p.length → textK p p.length (0 + 1) = y) := Lib.hid (by
          intro y hy
          rw [textK_succ, hy]
          simp)
        obtain ⟨wk, rfl⟩ : ∃ wk : World, wk = wr := ⟨_, rfl⟩
        go_wp2_with (go_at_call 25; refine HPO.out.mono ?_; rintro e w' ⟨rfl, rfl⟩; rw [HP.out])
        go_loopw [3, 5] (fun s i wr => ∃ (j : Nat) (y : List UInt8), j ≤ p.length ∧ i = .int .i64 j ∧ s = .string ⟨y.toArray⟩ ∧ y.length ≤ 6 * 0 + 1 + j ∧ y = ([] : List UInt8) ++ rowT p 0 j ∧ Below w.heap.size w wr) (fun _ i _ => p.length - (intOf i).toNat)
        case atStart => exact ⟨0, [], Nat.zero_le _, rfl, by first | rfl | exact congrArg _ (by simpa using HX.out), by simp, by simp [rowT], HB.out⟩
        case round =>
          obtain ⟨j, y, hj, rfl, rfl, hyl, hy, hb⟩ := hrel
          have HY := Lib.hid hy
          have HBI := Lib.hid hb
          have hzi : w.heap.size ≤ wr.heap.size := hb.size
          clear hy hb
          by_cases hlt2 : j < p.length
          · have hji : (j : Int) < (p.length : Int) := by omega
            obtain ⟨b, off, b', off', c', rfl, _, hbC, hc, _, hbC', hd⟩ := (F.out.below HBI.out hC).bit HS.out 0 j hlt hlt2
            rw [Nat.add_zero] at hc
            have hrs := rowT_succ p 0 j
            have hnum := l1Number_any j wr (by omega)
            obtain ⟨cc, hcc⟩ : ∃ cc, cc = UInt8.ofNat (48 + j) := ⟨_, rfl⟩
            rw [← hcc] at hnum hrs
            have HNUM := Lib.hid hnum
            clear hnum hcc
            cases hx : arr p 0 j
            · rw [hx] at hd hrs
              simp only [Bool.false_eq_true, if_false, List.append_nil] at hd hrs
              have HRS := Lib.hid hrs
              clear hx hrs
              go_wp2_with fail
              go_roundw
              case rel => exact ⟨j + 1, y, by omega, by go_num, rfl, by omega, by rw [HRS.out]; exact HY.out, HBI.out⟩
              case measure => simp [intOf]; omega
            · rw [hx] at hd hrs
              simp only [if_true] at hd hrs
              have HRS := Lib.hid hrs
              clear hx hrs
              go_wp2_with fail
              refine HNUM.out.mono ?_
              rintro e w3 ⟨rfl, hb3⟩
              have HB3 := Lib.hid (HBI.out.trans (hb3.mono hzi))
              clear hb3
              go_wp2_with fail
              go_roundw
              case rel => exact ⟨j + 1, y ++ [cc], by omega, by go_num, by first | rfl | exact congrArg Value.string (str_app y [cc]) | simp, by rw [List.length_append]; show y.length + 1 ≤ _; omega, by rw [HRS.out, HY.out, List.append_assoc], HB3.out⟩
              case measure => simp [intOf]; omega
          · obtain rfl : j = p.length := by omega
            have HT := Lib.hid (HZ.out y HY.out)
            have hyl2 : y.length ≤ 6 * (0 + 1) := by omega
            go_wp2_with fail
            go_roundw
            case rel => exact ⟨0 + 1, y, by omega, by go_num, rfl, hyl2, HT.out.symm, HBI.out⟩
            case measure => simp [intOf]; omega
      · have h0i : (0 : Int) < (k : Int) := by omega
        have HZ : Hid (∀ y : List UInt8, y = (x ++ [47]) ++ rowT p k p.length → textK p p.length (k + 1) = y) := Lib.hid (by
          intro y hy
          rw [textK_succ, hy]
          rw [if_neg h0, HX.out]; simp)
        obtain ⟨wk, rfl⟩ : ∃ wk : World, wk = wr := ⟨_, rfl⟩
        go_wp2_with (go_at_call 25; refine HPO.out.mono ?_; rintro e w' ⟨rfl, rfl⟩; rw [HP.out])
        rename_i hzz
        clear hzz h0i h0
        go_loopw [3, 5] (fun s i wr => ∃ (j : Nat) (y : List UInt8), j ≤ p.length ∧ i = .int .i64 j ∧ s = .string ⟨y.toArray⟩ ∧ y.length ≤ 6 * k + 1 + j ∧ y = (x ++ [47]) ++ rowT p k j ∧ Below w.heap.size w wr) (fun _ i _ => p.length - (intOf i).toNat)
        case atStart => exact ⟨0, x ++ [47], Nat.zero_le _, rfl, by first | rfl | exact congrArg Value.string (str_app x [47]) | simp, by rw [List.length_append]; show x.length + 1 ≤ _; omega, by simp [rowT], HB.out⟩
        case round =>
          obtain ⟨j, y, hj, rfl, rfl, hyl, hy, hb⟩ := hrel
          have HY := Lib.hid hy
          have HBI := Lib.hid hb
          have hzi : w.heap.size ≤ wr.heap.size := hb.size
          clear hy hb
          by_cases hlt2 : j < p.length
          · have hji : (j : Int) < (p.length : Int) := by omega
            obtain ⟨b, off, b', off', c', rfl, _, hbC, hc, _, hbC', hd⟩ := (F.out.below HBI.out hC).bit HS.out k j hlt hlt2
            have hrs := rowT_succ p k j
            have hnum := l1Number_any j wr (by omega)
            obtain ⟨cc, hcc⟩ : ∃ cc, cc = UInt8.ofNat (48 + j) := ⟨_, rfl⟩
            rw [← hcc] at hnum hrs
            have HNUM := Lib.hid hnum
            clear hnum hcc
            cases hx : arr p k j
            · rw [hx] at hd hrs
              simp only [Bool.false_eq_true, if_false, List.append_nil] at hd hrs
              have HRS := Lib.hid hrs
              clear hx hrs
              go_wp2_with fail
              go_roundw
              case rel => exact ⟨j + 1, y, by omega, by go_num, rfl, by omega, by rw [HRS.out]; exact HY.out, HBI.out⟩
              case measure => simp [intOf]; omega
            · rw [hx] at hd hrs
              simp only [if_true] at hd hrs
              have HRS := Lib.hid hrs
              clear hx hrs
              go_wp2_with fail
              refine HNUM.out.mono ?_
              rintro e w3 ⟨rfl, hb3⟩
              have HB3 := Lib.hid (HBI.out.trans (hb3.mono hzi))
              clear hb3
              go_wp2_with fail
              go_roundw
              case rel => exact ⟨j + 1, y ++ [cc], by omega, by go_num, by first | rfl | exact congrArg Value.string (str_app y [cc]) | simp, by rw [List.length_append]; show y.length + 1 ≤ _; omega, by rw [HRS.out, HY.out, List.append_assoc], HB3.out⟩
              case measure => simp [intOf]; omega
          · obtain rfl : j = p.length := by omega
            have HT := Lib.hid (HZ.out y HY.out)
            have hyl2 : y.length ≤ 6 * (k + 1) := by omega
            go_wp2_with fail
            go_roundw
            case rel => exact ⟨k + 1, y, by omega, by go_num, rfl, hyl2, HT.out.symm, HBI.out⟩
            case measure => simp [intOf]; omega
    · obtain rfl : k = p.length := by omega
      go_wp2_with fail
      go_ret
      exact ⟨by rw [HX.out]; rfl, HB.out⟩
end Go.Proofs.Ytfjodcfbhpglhaa
