/- The text of a picture, as the program makes it: impl.pictureText. -/
import Derived.Test.YtfjodcfbhpglhaaGreatDoorM3
import Derived.Test.YtfjodcfbhpglhaaGreatDoorM26
import Derived.Test.YtfjodcfbhpglhaaGreatDoorM8
import Derived.Test.YtfjodcfbhpglhaaGreatDoorM11
import Derived.Test.YtfjodcfbhpglhaaGreatDoorM20
namespace Go.Hyp
open Go.RowKit Go.Deep
/-- The text of some nodes. -/
def digs (A : List Int) : List UInt8 := A.map fun v => UInt8.ofNat (48 + v.toNat)
theorem digs_row (p : List (List Int)) (k n : Nat) : digs (arrL p k n) = rowT p k n := by
  unfold digs arrL rowT
  rw [List.map_map]
  exact List.map_congr_left fun x _ => by simp
theorem joinT_is : ∀ l : List (List UInt8), joinT l = Lib.join l [47] := by
  intro l
  induction l with
  | nil => rfl
  | cons r l ih =>
    cases l with
    | nil => rw [Lib.join_one]; rfl
    | cons s l =>
      have h1 : joinT (r :: s :: l) = r ++ 47 :: joinT (s :: l) := rfl
      rw [h1, ih, Lib.join_cons, Lib.join_cons]
      simp [Lib.joinTail]
theorem OwV_empty (w : World) (E : Nat) (f : Nat → Value) : OwV (w.alloc (.cells #[] E)) E w.heap.size (w.heap.size + 1) (some ⟨w.heap.size, 0, none⟩) 0 0 f :=
  .inr ⟨w.heap.size, fun _ => undef, rfl, Nat.le_refl _, Nat.lt_succ_self _, ⟨#[], alloc1 _ _, rfl, fun i hi => by omega⟩, Nat.le_refl _, by simp, fun i hi => by omega⟩
theorem OwV.fn {w : World} {E B C : Nat} {a : Option Addr} {cap n : Nat} {f g : Nat → Value} (h : OwV w E B C a cap n f) (e : ∀ i, i < n → f i = g i) : OwV w E B C a cap n g := by
  rcases h with h | ⟨b, F, h1, h2, h3, h4, h5, h6, h7⟩
  · exact .inl h
  · exact .inr ⟨b, F, h1, h2, h3, h4, h5, h6, fun i hi => (h7 i hi).trans (e i hi)⟩
theorem OwV.block_ge {w : World} {E B C k : Nat} {a : Option Addr} {cap n : Nat} {f : Nat → Value} (h : OwV w E B C a cap n f) (hk : blockOf a = some k) : B ≤ k := by
  rcases h with ⟨rfl, _⟩ | ⟨g, F, rfl, h1, _⟩
  · cases hk
  · cases hk; exact h1
/-- The rows' texts as strings. -/
def rowsS (p : List (List Int)) : List ByteArray := (List.range p.length).map fun i => ⟨(rowT p i p.length).toArray⟩
theorem rowsS_join (p : List (List Int)) : Lib.join ((rowsS p).map (·.data.toList)) ([47] : List UInt8) = textP p := by
  unfold textP textK rowsS
  rw [joinT_is, List.map_map]
  rfl
theorem OwV.cells {w : World} {E B C : Nat} {a : Option Addr} {cap : Nat} {p : List (List Int)} (h : OwV w E B C a cap p.length (fun i => .string ⟨(rowT p i p.length).toArray⟩)) (h1 : 1 ≤ p.length) :
    ∃ g, a = some ⟨g, 0, none⟩ ∧ g < C ∧ p.length ≤ cap ∧ ∀ (j : Nat) y, (rowsS p)[j]? = some y → w.cell? ⟨g, 0 + j, none⟩ = some (.string y) := by
  rcases h with ⟨_, h, _⟩ | ⟨g, F, e, h2, h3, h4, h5, _, h6⟩
  · omega
  · refine ⟨g, e, h3, h5, fun j y hy => ?_⟩
    unfold rowsS at hy
    rw [List.getElem?_map] at hy
    have hj : j < p.length := by
      rcases Nat.lt_or_ge j p.length with h | h
      · exact h
      · rw [List.getElem?_eq_none (by simpa using h)] at hy; cases hy
    rw [List.getElem?_range hj] at hy
    cases hy
    rw [Nat.zero_add, h4.cell (by omega), h6 j hj]
section
variable {P : Program}
/-- append of one string to strings that the call owns. -/
theorem wpList_appStr {E T : Nat} (hT : P.underlying T = some (.slice E)) (hE : (P.info? E).map (fun i => (i.zero, i.size, i.bytes)) = some (some (.string ⟨#[]⟩), 1, 16))
    (w : World) {ops : Array Oper} {rest : List Oper} {o : Oper} {a : Act} {Q : Exit → Act → World → Prop} (hgd : o.guard = none) (s x : Operand)
    (ho : o.op = .call { callee := .builtin .append, args := #[s, x], argTypes := #[T, T] }) (B C : Nat) (a0 : Option Addr) (cap n : Nat) (f : Nat → Value) (hs : a.eval s = .slice a0 n cap) (hown : OwV w E B C a0 cap n f)
    (hB : B ≤ w.heap.size) (ad : Addr) (v : ByteArray) (hx : a.eval x = .slice (some ad) 1 1) (hnew : w.cell? (ad.add 0) = some (.string v)) (hn : n ≤ 1048576) (g : Nat → Value) (hg1 : ∀ i, i < n → f i = g i) (hg2 : g n = .string v)
    (h : ∀ a1 cap' (w' : World), OwV w' E B w'.heap.size a1 cap' (n + 1) g → w.grownBy w' (blockOf a0) → (blockOf a1 = blockOf a0 ∨ blockOf a1 = some w.heap.size) →
      wpList P ops Q rest (a.put o.dst (.slice a1 (n + 1) cap')) w') : wpList P ops Q (o :: rest) a w := by
  refine wpList_plain hgd fun K hK => wp_appVs hT hE rfl (by omega) w s x ho B C a0 cap n f hs hown hB (some ad) 1 1 [.string v] hx rfl ?_ (fun e => by cases e) (by simp [Value.oneCell']) (by omega) ?_
  · intro ad' e j u hu
    cases e
    match j, hu with
    | 0, hu => simp at hu; subst hu; exact hnew
  · intro a1 cap' w' hv hg hb
    refine hK _ _ (h a1 cap' w' (hv.fn fun i hi => ?_) hg hb)
    by_cases e : i < n
    · rw [if_pos e]; exact hg1 i e
    · obtain rfl : i = n := by omega
      rw [if_neg e, hg2]; simp
end
end Go.Hyp
namespace Go.Proofs.YtfjodcfbhpglhaaGreatDoor
open Go.RowKit Go.Hyp Go.Deep

set_option maxRecDepth 4000 in
set_option maxHeartbeats 800000 in
theorem implText_any (a : Option Addr) (cap : Nat) (p : List (List Int)) (w : World) (B C : Nat) (h : RdII w B C a p) (hC : C ≤ w.heap.size) (hs : Sq p) (h1 : 1 ≤ p.length) (hl : p.length ≤ 10) :
    Calls Tryz.prog 91 #[.slice a p.length cap] w fun e w' => e = .returned (.string ⟨(textP p).toArray⟩) ∧ Below w.heap.size w w' := by
  have F := Lib.hid h
  have HS := Lib.hid hs
  have HO0 := Lib.hid (OwV_empty w 9 (fun i => .string ⟨(rowT p i p.length).toArray⟩))
  have HB0 := Lib.hid (below_alloc w (.cells #[] 9))
  clear h hs
  go_enter Tryz.func91, Tryz.ntmps91
  go_wp2_with fail
  go_loopw [3, 11] (fun ps ki wr => ∃ (k : Nat) (x : Option Addr) (c : Nat), k ≤ p.length ∧ ki = .int .i64 k ∧ ps = .slice x k c ∧ OwV wr 9 w.heap.size wr.heap.size x c k (fun i => .string ⟨(rowT p i p.length).toArray⟩) ∧ Below w.heap.size w wr) (fun _ ki _ => p.length - (intOf ki).toNat)
  case atStart => exact ⟨0, _, 0, Nat.zero_le _, rfl, rfl, (by simpa using HO0.out), HB0.out⟩
  case round =>
    obtain ⟨k, x, c, hk, rfl, rfl, ho, hb⟩ := hrel
    have HO := Lib.hid ho
    have HB := Lib.hid hb
    have hzr : w.heap.size ≤ wr.heap.size := hb.size
    clear ho hb HO0 HB0
    obtain ⟨w1, hw1⟩ : ∃ x, x = wr := ⟨_, rfl⟩
    subst hw1
    by_cases hlt : k < p.length
    · have hki : (k : Int) < (p.length : Int) := by omega
      go_wp2_with fail
      refine (arrowsOf_any a cap p k w1 B C (F.out.below HB.out hC) (by omega) HS.out hlt (by omega)).mono ?_
      rintro e w2 ⟨xa, xc, rfl, ho2, hb2⟩
      obtain ⟨A, hA⟩ : ∃ A, A = arrL p k p.length := ⟨_, rfl⟩
      rw [← hA] at ho2 ⊢
      have HA := Lib.hid hA
      have HR := Lib.hid ho2.rd
      have HB2 := Lib.hid (HB.out.trans (hb2.mono hzr))
      have hz2 : w1.heap.size ≤ w2.heap.size := hb2.size
      have hal : A.length ≤ p.length := by rw [hA]; exact arrL_le _ _ _
      clear ho2 hA
      go_wp2_with fail
      go_loopw [5, 18] (fun s5 si wr => ∃ (s : Nat) (T : List UInt8), s ≤ A.length ∧ si = .int .i64 s ∧ s5 = .string ⟨T.toArray⟩ ∧ T.length ≤ s ∧ T = digs (A.take s) ∧ wr = w2) (fun _ si _ => A.length - (intOf si).toNat)
      case atStart => exact ⟨0, [], Nat.zero_le _, rfl, rfl, by simp, by simp [digs], by first | trivial | rfl⟩
      case round =>
        obtain ⟨s, T, hs, rfl, rfl, hTl, hT, hw⟩ := hrel
        obtain rfl := hw.symm
        have HT := Lib.hid hT
        clear hT
        by_cases hlt2 : s < A.length
        · have hsi : (s : Int) < (A.length : Int) := by omega
          obtain ⟨v, hv, hvp⟩ : ∃ v : Nat, A[s] = (v : Int) ∧ v < p.length := by
            have h1 : A[s] ∈ arrL p k p.length := by rw [← HA.out]; exact List.getElem_mem hlt2
            obtain ⟨v, e, h2, _⟩ := arrL_mem.1 h1
            exact ⟨v, e, h2⟩
          obtain ⟨b, off, rfl, _, hbl, hd⟩ := HR.out.at s hlt2
          rw [hv] at hd
          have hi := itoa_any v (by omega) w2
          obtain ⟨D, hD⟩ : ∃ D, D = UInt8.ofNat (48 + v) := ⟨_, rfl⟩
          rw [← hD] at hi
          have HI := Lib.hid hi
          have HD := Lib.hid hD
          have HV := Lib.hid hv
          clear hi hD hv
          go_wp2_with fail
          refine HI.out.mono ?_
          rintro e w' ⟨rfl, rfl⟩
          go_wp2_with fail
          go_roundw
          case rel =>
            refine ⟨s + 1, T ++ [D], by omega, by go_num, by first | rfl | exact congrArg Value.string (str_app T [D]) | simp, by rw [List.length_append]; show T.length + 1 ≤ _; omega, ?_, by first | trivial | rfl⟩
            rw [HT.out, List.take_succ_eq_append_getElem hlt2, HD.out]
            unfold digs
            rw [List.map_append, HV.out]
            rfl
          case measure => simp [intOf]; omega
        · obtain rfl : s = A.length := by omega
          have hTT : T = rowT p k p.length := by rw [HT.out, List.take_of_length_le (Nat.le_refl _), HA.out, digs_row]
          have HTT := Lib.hid hTT
          clear hTT
          go_wp2_with (at_builtin; go_loud (refine wpList_appStr Tryz.underlying92 (by kernel_rfl) _ rfl (.tmp 27) (.tmp 29) rfl w.heap.size w2.heap.size x c k (fun i => .string ⟨(rowT p i p.length).toArray⟩) rfl ((((HO.out.agr (agr_below hb2 (Nat.le_refl _))).mono (Nat.le_refl _) hz2)).agr ((Agr.refl _ _ _).alloc (Nat.le_refl _) _)) (by simp; omega) ⟨w2.heap.size, 0, none⟩ ⟨T.toArray⟩ rfl (new_cellE _ _ _ rfl) (by omega) (fun i => .string ⟨(rowT p i p.length).toArray⟩) (fun _ _ => rfl) (by rw [HTT.out]) ?_); intro a9 c9 w9 hv9 hg9 hb9)
          have HB9 := Lib.hid (below_app HB2.out hg9 (fun b hb => (HO.out.block_ge hb)) (Nat.le_refl _) (Nat.le_refl _))
          have HV9 := Lib.hid hv9
          clear hv9 hg9 hb9
          go_roundw
          case rel => exact ⟨k + 1, a9, c9, by omega, by go_num, rfl, HV9.out, HB9.out⟩
          case measure => simp [intOf]; omega
    · obtain rfl : k = p.length := by omega
      obtain ⟨g, rfl, hgC, hcap, hcells⟩ := HO.out.cells h1
      have hxl : (rowsS p).length = p.length := by simp [rowsS]
      have hlen := textK_len p p.length p.length
      have hsq : p.length * (p.length + 1) ≤ 10 * 11 := Nat.mul_le_mul hl (by omega)
      have hJ := strJoin_any g 0 c (rowsS p) ⟨#[47]⟩ w1 hcells (by omega) (by omega) (by omega) (by
        show (Lib.join ((rowsS p).map (·.data.toList)) ([47] : List UInt8)).length ≤ _
        rw [rowsS_join]
        unfold textP
        omega)
      rw [hxl, show (⟨#[47]⟩ : ByteArray).data.toList = ([47] : List UInt8) from rfl, rowsS_join] at hJ
      have HJ := Lib.hid hJ
      clear hJ hcells hxl
      go_wp2_with fail
      refine HJ.out.mono ?_
      rintro e w2 ⟨rfl, hb2⟩
      have HB2 := Lib.hid (HB.out.trans (hb2.mono hzr))
      clear hb2
      go_wp2_with fail
      go_ret
      exact ⟨rfl, HB2.out⟩
end Go.Proofs.YtfjodcfbhpglhaaGreatDoor
