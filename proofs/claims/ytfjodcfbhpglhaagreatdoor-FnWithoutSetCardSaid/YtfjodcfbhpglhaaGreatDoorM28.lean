/- slices.DeleteFunc over owned ints, with a predicate that may make memory. -/
import Derived.Lib.SliceRun
import Derived.Test.YtfjodcfbhpglhaaGreatDoorM6
import Derived.Test.YtfjodcfbhpglhaaGreatDoorM3
import Derived.Test.YtfjodcfbhpglhaaGreatDoorM17
namespace Go.Hyp
open Go.RowKit Go.Deep
/-- The first place at which g holds, or -1. -/
def FirstAt (g : Int → Bool) (l : List Int) (n : Int) : Prop := (n = -1 ∧ l.any g = false) ∨ ∃ k : Nat, ∃ h : k < l.length, n = k ∧ g l[k] = true ∧ (l.take k).any g = false
def FoundK (g : Int → Bool) (l : List Int) (w : World) (e : Ending) (w' : World) : Prop := ∃ n : Int, e = .returned (.int .i64 n) ∧ FirstAt g l n ∧ Below w.heap.size w w'
/-- Such a function may be called while block b is rewritten. -/
def TellsB (P : Program) (f : Nat) (cap : Array Value) (g : Int → Bool) (l : List Int) (b : Nat) (W : World) : Prop :=
  ∀ x ∈ l, ∀ w, Chg (fun k => k = b) W w → Calls P f (#[.int .i64 x] ++ cap) w fun e w' => e = .returned (.bool (g x)) ∧ Below w.heap.size w w'
theorem filter_none {l : List Int} {g : Int → Bool} (h : l.any g = false) : l.filter (fun x => !g x) = l := by
  rw [List.filter_eq_self]
  intro x hx
  rw [List.any_eq_false] at h
  simpa using h x hx
theorem OwI.setZeros {E B C g cap : Nat} : ∀ (n o : Nat) (w : World) (l : List Int), OwI w E B C (some ⟨g, 0, none⟩) cap l → o + n ≤ l.length →
    ∃ m : List Int, m.length = l.length ∧ m.take o = l.take o ∧ OwI (w.setCells g o (List.replicate n (.int .i64 0))) E B C (some ⟨g, 0, none⟩) cap m ∧ Chg (fun k => k = g) w (w.setCells g o (List.replicate n (.int .i64 0))) ∧ (w.setCells g o (List.replicate n (.int .i64 0))).heap.size = w.heap.size := by
  intro n
  induction n with
  | zero => intro o w l h ho; exact ⟨l, rfl, rfl, h, Chg.refl _ _, rfl⟩
  | succ n ih =>
    intro o w l h ho
    have h1 := h.setAt o (by omega) 0
    obtain ⟨m, h2, h3, h4, h5, h6⟩ := ih (o + 1) (w.setCell ⟨g, o, none⟩ (.int .i64 0)) (l.set o 0) h1 (by rw [List.length_set]; omega)
    rw [List.replicate_succ]
    refine ⟨m, by rw [h2, List.length_set], ?_, h4, ?_, ?_⟩
    · have h7 : m.take o = (m.take (o + 1)).take o := by rw [List.take_take, Nat.min_eq_left (by omega)]
      rw [h7, h3, List.take_take, Nat.min_eq_left (by omega)]
      rw [List.take_set_of_le (by omega)]
    · exact ((Chg.refl (fun k => k = g) w).set (.inl rfl) _).trans h5
    · show ((w.setCell ⟨g, o, none⟩ (.int .i64 0)).setCells g (o + 1) (List.replicate n (.int .i64 0))).heap.size = _
      rw [h6]; simp
/-- What is kept while the list is gone through: the first i numbers are those kept of the first j, the others behind j as they were. -/
structure Kept (g : Int → Bool) (l M : List Int) (i j : Nat) : Prop where
  len : M.length = l.length
  lt : i < j
  le : j ≤ l.length
  head : M.take i = (l.take j).filter fun x => !g x
  tail : ∀ k, j ≤ k → M.getD k 0 = l.getD k 0
theorem Kept.start {g : Int → Bool} {l : List Int} {k : Nat} (h : k < l.length) (ht : g l[k] = true) (hn : (l.take k).any g = false) : Kept g l l k (k + 1) :=
  ⟨rfl, by omega, by omega, by rw [List.take_succ_eq_append_getElem h, List.filter_append, filter_none hn]; simp [ht], fun _ _ => rfl⟩
theorem Kept.skip {g : Int → Bool} {l M : List Int} {i j : Nat} (h : Kept g l M i j) (hj : j < l.length) (ht : g l[j] = true) : Kept g l M i (j + 1) :=
  ⟨h.len, by have := h.lt; omega, by omega, by rw [h.head, List.take_succ_eq_append_getElem hj, List.filter_append]; simp [ht], fun k hk => h.tail k (by omega)⟩
theorem Kept.keep {g : Int → Bool} {l M : List Int} {i j : Nat} (h : Kept g l M i j) (hj : j < l.length) (ht : g l[j] = false) : Kept g l (M.set i l[j]) (i + 1) (j + 1) := by
  have h1 := h.lt
  have h2 := h.len
  refine ⟨by rw [List.length_set]; exact h.len, by omega, by omega, ?_, fun k hk => ?_⟩
  · rw [List.take_succ_eq_append_getElem (by rw [List.length_set]; omega), List.getElem_set_self, List.take_set_of_le (Nat.le_refl _), h.head, List.take_succ_eq_append_getElem hj, List.filter_append]
    simp [ht]
  · rw [← h.tail k (by omega)]
    simp only [List.getD]
    rw [List.getElem?_set_ne (by omega)]
end Go.Hyp
namespace Go.Proofs.YtfjodcfbhpglhaaGreatDoor
open Go.RowKit Go.Hyp Go.Deep

set_option maxHeartbeats 400000 in
theorem indexFuncK_any (a : Option Addr) (cap : Nat) (l : List Int) (f : Nat) (cp : Array Value) (g : Int → Bool) (w : World) (B C : Nat) (eg : EntersF Tryz.prog f) (h : RdI w B C a l) (hC : C ≤ w.heap.size) (hl : l.length ≤ 1048576) (hf : TellsF Tryz.prog f cp g l w) :
    Calls Tryz.prog 84 #[.slice a l.length cap, .func (.func f) #[] cp] w (FoundK g l w) := by
  have HO := Lib.hid h
  have HF := Lib.hid hf
  unfold EntersF at eg
  clear h hf
  go_enter Tryz.func84, Tryz.ntmps84
  go_wp2_with fail
  go_loopw [4, 5, 8] (fun r i5 i wr => ∃ j : Nat, j ≤ l.length ∧ i = .int .i64 j ∧ r = .int .i64 0 ∧ (l.take j).any g = false ∧ Below w.heap.size w wr) (fun _ _ i _ => l.length - (intOf i).toNat)
  case atStart => exact ⟨0, Nat.zero_le _, rfl, rfl, by simp, Below.refl _ _⟩
  case round =>
    obtain ⟨j, hj, rfl, rfl, hn, hb⟩ := hrel
    have HN := Lib.hid hn
    have HB := Lib.hid hb
    clear hn hb
    by_cases hlt : j < l.length
    · obtain ⟨b, off, rfl, _, hb2, hd⟩ := (HO.out.below HB.out hC).at j hlt
      have hcall := HF.out l[j] (List.getElem_mem hlt) wr HB.out
      cases hq : g l[j]
      · have HX := Lib.hid hq
        rw [hq] at hcall
        clear hq
        go_wp2_with (go_at_fn f; refine hcall.mono ?_; rintro e w' ⟨rfl, hb'⟩)
        have HB' := Lib.hid (HB.out.trans (hb'.mono HB.out.size))
        go_roundw
        case rel => exact ⟨j + 1, by omega, by go_num, rfl, by rw [List.take_succ_eq_append_getElem hlt, List.any_append, HN.out]; simp [HX.out], HB'.out⟩
        case measure => simp [intOf]; omega
      · have HX := Lib.hid hq
        rw [hq] at hcall
        clear hq
        go_wp2_with (go_at_fn f; refine hcall.mono ?_; rintro e w' ⟨rfl, hb'⟩)
        have HB' := Lib.hid (HB.out.trans (hb'.mono HB.out.size))
        go_ret
        exact ⟨j, rfl, .inr ⟨j, hlt, rfl, HX.out, HN.out⟩, HB'.out⟩
    · obtain rfl : j = l.length := by omega
      go_wp2_with fail
      go_ret
      exact ⟨-1, rfl, .inl ⟨rfl, any_no (List.take_of_length_le (Nat.le_refl _)) HN.out⟩, HB.out⟩
set_option maxRecDepth 4000 in
set_option maxHeartbeats 800000 in
theorem deleteFunc_any (b cap : Nat) (l : List Int) (f : Nat) (cp : Array Value) (g : Int → Bool) (w : World) (B C : Nat) (eg : EntersF Tryz.prog f) (h : OwI w 3 B C (some ⟨b, 0, none⟩) cap l) (hC : C ≤ w.heap.size) (hl : l.length ≤ 64) (hf : TellsB Tryz.prog f cp g l b w) :
    Calls Tryz.prog 46 #[.slice (some ⟨b, 0, none⟩) l.length cap, .func (.func f) #[] cp] w fun e w' =>
      e = .returned (.slice (some ⟨b, 0, none⟩) (l.filter fun x => !g x).length cap) ∧ OwI w' 3 B C (some ⟨b, 0, none⟩) cap (l.filter fun x => !g x) ∧ Chg (fun k => k = b) w w' := by
  have HO := Lib.hid h
  have HF := Lib.hid hf
  have hcap := h.lecap
  have hcm := h.capmax
  unfold maxLen at hcm
  have hbC := (h.block_in (k := b) rfl)
  have HIF := Lib.hid (indexFuncK_any (some ⟨b, 0, none⟩) cap l f cp g w B C eg h.rd hC (by omega) (fun x hx w' hb => hf x hx w' ⟨hb.os, hb.tape, hb.output, hb.size, fun k hk _ => hb.block k hk⟩))
  have HEG := Lib.hid eg
  unfold EntersF at eg
  clear h hf
  go_enter Tryz.func46, Tryz.ntmps46
  go_wp2_with fail
  refine HIF.out.mono ?_
  rintro e w1 ⟨n, rfl, hfi, hb1⟩
  have hch1 : Chg (fun k => k = b) w w1 := ⟨hb1.os, hb1.tape, hb1.output, hb1.size, fun k hk _ => hb1.block k hk⟩
  have HC1 := Lib.hid hch1
  have HO1 := Lib.hid (HO.out.below hb1 hC)
  have hz1 : w.heap.size ≤ w1.heap.size := hb1.size
  clear hb1 hch1
  rcases hfi with ⟨rfl, hno⟩ | ⟨k, hk, rfl, ht, hn⟩
  · have HE := Lib.hid (filter_none hno)
    clear hno
    go_wp2_with fail
    go_ret
    rw [HE.out]
    exact ⟨rfl, HO1.out, HC1.out⟩
  · have HK := Lib.hid (Kept.start hk ht hn)
    have hne1 : ((k : Int) == -1) = false := beq_eq_false_iff_ne.2 (by omega)
    have hki : (k : Int) < (l.length : Int) := by omega
    clear ht hn
    go_wp2_with fail
    clear hne1
    go_loopw [5, 6, 7] (fun si sj _ wr => ∃ (i j : Nat) (M : List Int), si = .int .i64 i ∧ sj = .int .i64 j ∧ j ≤ l.length ∧ Kept g l M i j ∧ OwI wr 3 B C (some ⟨b, 0, none⟩) cap M ∧ Chg (fun k => k = b) w wr) (fun _ sj _ _ => l.length - (intOf sj).toNat)
    case atStart => exact ⟨k, k + 1, l, rfl, by go_num, by omega, HK.out, HO1.out, HC1.out⟩
    case round =>
      obtain ⟨i, j, M, rfl, rfl, hj, hkp, ho, hc⟩ := hrel
      have HKP := Lib.hid hkp
      have HOR := Lib.hid ho
      have HCR := Lib.hid hc
      have hij := hkp.lt
      have hml := hkp.len
      have hbr : b < wr.heap.size := by have := hc.size; omega
      obtain ⟨wq, hwq⟩ : ∃ v : World, v = wr := ⟨_, rfl⟩
      subst hwq
      by_cases hlt : j < l.length
      · have hji : (j : Int) < (l.length : Int) := by omega
        have hii : (i : Int) < (l.length : Int) := by omega
        obtain ⟨_, e1, _, _, cj, fj, _⟩ := ho.cells j (by omega)
        cases e1
        obtain ⟨_, e1, _, _, ci, fi, _⟩ := ho.cells i (by omega)
        cases e1
        have hMj : M[j]'(by omega) = l[j] := by
          have h1 := hkp.tail j (Nat.le_refl _)
          rwa [getD_lt (by omega), getD_lt hlt] at h1
        rw [hMj] at cj
        have hcall := HF.out l[j] (List.getElem_mem hlt) wq HCR.out
        obtain ⟨old, hold⟩ : ∃ old, old = M[i]'(by omega) := ⟨_, rfl⟩
        rw [← hold] at ci
        have HKN := Lib.hid (fun (h : g l[j] = false) => hkp.keep hlt h)
        have HKS := Lib.hid (fun (h : g l[j] = true) => hkp.skip hlt h)
        have hil : i < M.length := by omega
        obtain ⟨u, hu⟩ : ∃ u, u = l[j] := ⟨_, rfl⟩
        rw [← hu] at cj hcall HKN HKS
        clear hMj hold hkp ho hc hu hml HK HO1 HC1
        cases hq : g u
        · have HK2 := Lib.hid (HKN.out hq)
          rw [hq] at hcall
          have HCALL := Lib.hid hcall
          clear hq hcall HKN HKS
          go_wp2_with (first
            | (go_at_fn f
               refine HCALL.out.mono ?_
               rintro e w' ⟨rfl, hb'⟩
               have ci' := ((bcell hb').1 b i hbr).trans ci
               have fi' := ((bcell hb').2 b i hbr).trans fi
               have hz' : wq.heap.size ≤ w'.heap.size := hb'.size
               have HB' := Lib.hid hb'
               clear hb'))
          go_roundw
          case rel =>
            have hO3 := (HOR.out.below HB'.out (by have := HCR.out.size; omega)).setAt i hil u
            refine ⟨i + 1, j + 1, M.set i u, by go_num, by go_num, by omega, HK2.out, hO3, ?_⟩
            exact (HCR.out.trans ⟨HB'.out.os, HB'.out.tape, HB'.out.output, HB'.out.size, fun k hk _ => HB'.out.block k hk⟩).set (.inl rfl) _
          case measure => simp [intOf]; omega
        · have HK2 := Lib.hid (HKS.out hq)
          rw [hq] at hcall
          have HCALL := Lib.hid hcall
          clear hq hcall HKN HKS
          go_wp2_with (go_at_fn f; refine HCALL.out.mono ?_; rintro e w' ⟨rfl, hb'⟩; have HB' := Lib.hid hb'; clear hb')
          go_roundw
          case rel =>
            exact ⟨i, j + 1, M, rfl, by go_num, by omega, HK2.out, HOR.out.below HB'.out (by have := HCR.out.size; omega), HCR.out.trans ⟨HB'.out.os, HB'.out.tape, HB'.out.output, HB'.out.size, fun k hk _ => HB'.out.block k hk⟩⟩
          case measure => simp [intOf]; omega
      · obtain rfl : j = l.length := by omega
        have hcl : ∀ ty, (Builtin.clear_ #[35] ty #[.slice (some ⟨b, i, none⟩) (l.length - i) (cap - i)]).run Tryz.prog wq = .ok (.tuple #[]) (wq.setCells b i (List.replicate (l.length - i) (.int .i64 0))) :=
          fun ty => Lib.run_clear_slice wq _ _ ty _ Tryz.underlying35 Tryz.zeroValue3 rfl rfl b i _ _ (by omega) (fun t ht => by
            obtain ⟨_, e1, _, _, ct, ft, _⟩ := ho.cells (i + t) (by omega)
            cases e1
            rw [ct]; rfl) (fun t ht => by
            obtain ⟨_, e1, _, _, ct, ft, _⟩ := ho.cells (i + t) (by omega)
            cases e1
            exact ft)
        obtain ⟨m, hm1, hm2, hm3, hm4, hm5⟩ := OwI.setZeros (l.length - i) i wq M ho (by omega)
        have hfil : m.take i = l.filter fun x => !g x := by rw [hm2, hkp.head, List.take_of_length_le (Nat.le_refl _)]
        have hflen : (l.filter fun x => !g x).length = i := by rw [← hfil, List.length_take]; omega
        have HFL := Lib.hid hfil
        have HFN := Lib.hid hflen
        have HM3 := Lib.hid hm3
        have HM4 := Lib.hid hm4
        have hii : (i : Int) < (l.length : Int) := by omega
        have hicap : i ≤ cap := by omega
        clear hkp ho hc hml hm1 hm2 hm3 hm4 hm5 hfil hflen HK HO1 HC1
        go_wp2_with fail
        go_ret
        refine ⟨by rw [HFN.out]; try rfl, ?_, HCR.out.trans HM4.out⟩
        have h9 := HM3.out.take i
        rw [HFL.out] at h9
        exact h9
/-- The same over any slice that is owned. -/
theorem deleteFunc_own (a : Option Addr) (cap : Nat) (l : List Int) (f : Nat) (cp : Array Value) (g : Int → Bool) (w : World) (B C : Nat) (eg : EntersF Tryz.prog f) (h : OwI w 3 B C a cap l) (hC : C ≤ w.heap.size) (hl : l.length ≤ 64)
    (hf : ∀ x ∈ l, ∀ w', Chg (fun k => blockOf a = some k) w w' → Calls Tryz.prog f (#[.int .i64 x] ++ cp) w' fun e w'' => e = .returned (.bool (g x)) ∧ Below w'.heap.size w' w'') :
    Calls Tryz.prog 46 #[.slice a l.length cap, .func (.func f) #[] cp] w fun e w' =>
      e = .returned (.slice a (l.filter fun x => !g x).length cap) ∧ OwI w' 3 B C a cap (l.filter fun x => !g x) ∧ Chg (fun k => blockOf a = some k) w w' := by
  have hc := h
  rcases hc with ⟨rfl, rfl, rfl⟩ | ⟨b, F, rfl, _⟩
  · have HIF := Lib.hid (indexFuncK_any none 0 [] f cp g w B C eg h.rd hC (by simp) (fun x hx => by cases hx))
    clear h hf
    go_enter Tryz.func46, Tryz.ntmps46
    go_wp2_with fail
    refine HIF.out.mono ?_
    rintro e w1 ⟨n, rfl, hfi, hb1⟩
    have HB1 := Lib.hid hb1
    clear hb1
    rcases hfi with ⟨rfl, _⟩ | ⟨k, hk, _⟩
    · go_wp2_with fail
      go_ret
      exact ⟨rfl, .inl ⟨rfl, rfl, rfl⟩, HB1.out.os, HB1.out.tape, HB1.out.output, HB1.out.size, fun k hk _ => HB1.out.block k hk⟩
    · simp at hk
  · have e : ∀ k, (blockOf (some (⟨b, 0, none⟩ : Addr)) = some k) = (k = b) := fun k => by
      apply propext
      constructor
      · intro h; injection h with h; exact h.symm
      · rintro rfl; rfl
    simp only [e] at hf ⊢
    exact deleteFunc_any b cap l f cp g w B C eg h hC hl hf
end Go.Proofs.YtfjodcfbhpglhaaGreatDoor
