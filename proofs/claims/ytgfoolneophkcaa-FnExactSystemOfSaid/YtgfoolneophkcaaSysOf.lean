/- Systems of pictures: impl.SystemOf, spec.SystemOf. -/
import Derived.Test.YtgfoolneophkcaaSaid
import Derived.Test.YtgfoolneophkcaaOwn
import Derived.Test.YtgfoolneophkcaaPic
namespace Go.Hyp
open Go.RowKit Go.Deep
/-- The system of a picture. -/
def sysOfL (p : List (List Int)) : List (List Int × Int) := p.map fun r => (r, 0)
theorem sysOfL_len (p : List (List Int)) : (sysOfL p).length = p.length := by simp [sysOfL]
def sysOfB (p : List (List Int)) : Bool := picB p && decide (p.length ≤ 3)
/-- What SystemOf answers. -/
def sysOfR (p : List (List Int)) : List (List Int × Int) := if sysOfB p = true then sysOfL p else []
/-- A call that hands back a new system and a truth. -/
def RetYB (E T : Nat) (s : List (List Int × Int)) (b : Bool) (w : World) (e : Ending) (w' : World) : Prop :=
  ∃ a c, e = .returned (.tuple #[.slice a s.length c, .bool b]) ∧ OwY w' E T w.heap.size w'.heap.size a c s ∧ Below w.heap.size w w'
theorem retYB_of {E T : Nat} {p q : List (List Int × Int)} {b : Bool} {w w' : World} {a : Option Addr} {c : Nat} (e : p = q) (h : OwY w' E T w.heap.size w'.heap.size a c p) (hb : Below w.heap.size w w') : RetYB E T q b w (.returned (.tuple #[.slice a p.length c, .bool b])) w' := by
  subst e; exact ⟨a, c, rfl, h, hb⟩
theorem OwY_nil (w : World) (E T B C : Nat) : OwY w E T B C none 0 [] := ⟨fun _ => none, fun _ => 0, .inl ⟨rfl, rfl, rfl⟩, fun i hi => by simp at hi, fun i j _ hj => by simp at hj, fun i hi => by simp at hi⟩
theorem lens_rows (p : List (List Int)) : lensY (sysOfL p) = lens p := by unfold lensY sysOfL; rw [List.map_map]; congr 1; exact List.map_id p
theorem systemOf_small (p : List (List Int)) : (sysOfR p).length ≤ 1048576 ∧ lensY (sysOfR p) ≤ 1048576 := by
  unfold sysOfR
  split
  · rename_i h
    unfold sysOfB at h
    rw [Bool.and_eq_true, decide_eq_true_eq] at h
    have hs := picB_sq h.1
    rw [sysOfL_len, lens_rows, hs.1.eq_mat, mat_len, lens_mat]
    have := Nat.mul_le_mul h.2 h.2
    omega
  · exact ⟨by simp, by show 0 ≤ _; omega⟩
end Go.Hyp
namespace Go.Proofs.Ytgfoolneophkcaa
open Go.RowKit Go.Hyp Go.Deep

set_option maxRecDepth 8000 in
set_option maxHeartbeats 1600000 in
theorem implSystemOf_any (a : Option Addr) (cap : Nat) (p : List (List Int)) (w : World) (B C : Nat) (h : RdII w B C a p) (hC : C ≤ w.heap.size) (hl : p.length ≤ maxLen) :
    Calls Try.prog 40 #[.slice a p.length cap] w (RetYB 3 75 (sysOfR p) (sysOfB p) w) := by
  have HB0 := Lib.hid (below_alloc w (.cells #[] 75))
  have F := Lib.hid h
  have HOK := Lib.hid (isPicture_any a cap p w B C h hl)
  have HL := Lib.hid hl
  unfold maxLen at hl
  clear h
  cases hp : picB p
  · have HP := Lib.hid hp
    have HE : Hid (sysOfB p = false ∧ sysOfR p = []) := Lib.hid (by unfold sysOfR sysOfB; rw [hp]; exact ⟨rfl, rfl⟩)
    rw [HE.out.1]
    clear hp
    go_enter Try.func40, Try.ntmps40
    go_wp2_with fail
    refine HOK.out.mono ?_
    rintro e w' ⟨rfl, rfl⟩
    rw [HP.out]
    go_wp2_with fail
    go_ret2
    exact retYB_of HE.out.2.symm (OwY_nil _ _ _ _ _) (Below.refl _ _)
  · by_cases h3 : p.length ≤ 3
    · have HP := Lib.hid hp
      obtain ⟨sq, s1, s5⟩ := picB_sq hp
      have HS := Lib.hid sq
      have HE : Hid (sysOfB p = true ∧ sysOfR p = sysOfL p) := Lib.hid (by
        have e : sysOfB p = true := by unfold sysOfB; rw [hp, decide_eq_true h3]; rfl
        exact ⟨e, by unfold sysOfR; rw [e]; rfl⟩)
      rw [HE.out.1]
      have h3i : ¬ ((3 : Int) < (p.length : Int)) := by omega
      clear hp sq
      go_enter Try.func40, Try.ntmps40
      go_wp2_with fail
      refine HOK.out.mono ?_
      rintro e w' ⟨rfl, rfl⟩
      rw [HP.out]
      go_wp2_with fail
      go_loopw [4, 18] (fun o i wr => ∃ (k : Nat) (x : Option Addr) (c : Nat) (S : List (List Int × Int)), k ≤ p.length ∧ i = .int .i64 k ∧ S.length = k ∧ S = (sysOfL p).take k ∧ o = .slice x S.length c ∧ OwY wr 3 75 w.heap.size wr.heap.size x c S ∧ Below w.heap.size w wr) (fun _ i _ => p.length - (intOf i).toNat)
      case atStart => exact ⟨0, _, 0, [], Nat.zero_le _, rfl, rfl, by simp, rfl, (OwY_empty w 3 75).mono (Nat.le_refl _) (by simp), below_alloc _ _⟩
      case round =>
        obtain ⟨k, x, c, S, hk, rfl, hSk, hS, rfl, ho, hb⟩ := hrel
        have HO := Lib.hid ho
        have HB := Lib.hid hb
        have HSE := Lib.hid hS
        have hs1 : S.length ≤ k := by omega
        have hs2 : k ≤ S.length := by omega
        have hwz : w.heap.size ≤ wr.heap.size := hb.size
        clear ho hb hS hSk
        by_cases hlt : k < p.length
        · obtain ⟨b, off, an, cn, rfl, _, hbC, hc, hr, hll⟩ := (F.out.below HB.out hC).at k hlt
          have hrow := (HS.out.row k hlt).1
          obtain ⟨L, hL⟩ : ∃ L, L = p[k] := ⟨_, rfl⟩
          have HTK : Hid ((sysOfL p).take (k + 1) = S ++ [(L, 0)]) := Lib.hid (by
            rw [HSE.out, List.take_succ_eq_append_getElem (by rw [sysOfL_len]; exact hlt), hL]
            congr 2
            simp [sysOfL])
          rw [← hL] at hc hr hrow
          have hL3 : L.length ≤ 3 := by omega
          have hL0 : 0 < L.length := by omega
          have hcn : an = none → cn = 0 := by
            intro e
            obtain ⟨b', o', e', _⟩ := hr 0 hL0
            rw [e] at e'; cases e'
          have HRL := Lib.hid (hr.below (below_alloc wr (.cells #[] 3)) (by omega))
          have HEM := Lib.hid (OwI_empty wr 3)
          have hki : (k : Int) < (p.length : Int) := by omega
          have hbw : b < wr.heap.size := by omega
          have hSl : S.length ≤ 1048576 := by omega
          clear hr hL hrow
          go_wp2_with (at_builtin; first
            | (refine wpList_appIs Try.underlying29 Try.infoInt (wr.alloc (.cells #[] 3)) rfl _ _ rfl wr.heap.size (wr.heap.size + 1) (some ⟨wr.heap.size, 0, none⟩) 0 [] rfl HEM.out (by simp) _ _ an cn L rfl HRL.out hcn (by simp; omega) ?_; intro a3 c3 w3 hown3 hgrow3 hat3; rw [List.nil_append] at hown3; have HO3 := Lib.hid hown3; have HG3 := Lib.hid hgrow3; clear hown3 hgrow3 hat3; have hz3 : wr.heap.size + 1 ≤ w3.heap.size := (by have := HG3.out.size; simpa using this); have HP3 := Lib.hid (HO.out.agr (fun b h1 h2 => (HG3.out.block b (by simp; omega) (fun e => by simp [blockOf] at e; omega)).trans (Below.heap_alloc _ _ _ (by omega)))); have HB3 := Lib.hid (below_app HB.out HG3.out (fun k hk => by simp [blockOf] at hk; exact Nat.le_of_eq hk) hwz (Nat.le_refl _)))
            | (go_loud (refine wpList_appY Try.underlying25 Try.infoSaidI rfl _ rfl _ _ rfl w.heap.size wr.heap.size x c S rfl (HP3.out.agr ((Agr.refl _ _ _).alloc (by omega) _)) (by simp; omega) (by simp; omega) ⟨w3.heap.size, 0, none⟩ a3 c3 L 0 rfl (by rw [show ((⟨w3.heap.size, 0, none⟩ : Addr).add 0) = ⟨w3.heap.size, 0, none⟩ from rfl, World.cell?_alloc_at _ _ _ _ rfl]; first | rfl | simp) (by rw [show ((⟨w3.heap.size, 0, none⟩ : Addr).add 1) = ⟨w3.heap.size, 1, none⟩ from rfl, World.cell?_alloc_at _ _ _ _ rfl]; rfl) wr.heap.size w3.heap.size (HO3.out.agr ((Agr.refl _ _ _).alloc (Nat.le_refl _) _)) (Nat.le_refl _) hwz (by simp) hSl ?_); intro g5 c5 w5 hown5 hgrow5 hat5 hlt5; have HO5 := Lib.hid hown5; have HB5 := Lib.hid (below_app HB3.out hgrow5 (fun k hk => (HP3.out.block_in hk).1) (Nat.le_refl _) (Nat.le_refl _)); clear hown5 hgrow5 hat5 hlt5))
          go_roundw
          case rel => exact ⟨k + 1, some ⟨g5, 0, none⟩, c5, S ++ [(L, 0)], by omega, by go_num, by rw [List.length_append]; show S.length + 1 = _; omega, HTK.out.symm, by rw [List.length_append]; rfl, HO5.out, HB5.out⟩
          case measure => simp [intOf]; omega
        · obtain rfl : k = p.length := by omega
          have HSS : Hid (S = sysOfR p) := Lib.hid (by rw [HSE.out, HE.out.2, List.take_of_length_le (by rw [sysOfL_len]; exact Nat.le_refl _)])
          go_wp2_with fail
          go_ret2
          exact retYB_of HSS.out HO.out HB.out
    · have HP := Lib.hid hp
      have HE : Hid (sysOfB p = false ∧ sysOfR p = []) := Lib.hid (by
        have e : sysOfB p = false := by unfold sysOfB; rw [hp, decide_eq_false h3]; rfl
        exact ⟨e, by unfold sysOfR; rw [e]; rfl⟩)
      rw [HE.out.1]
      have h3i : (3 : Int) < (p.length : Int) := by omega
      clear hp
      go_enter Try.func40, Try.ntmps40
      go_wp2_with fail
      refine HOK.out.mono ?_
      rintro e w' ⟨rfl, rfl⟩
      rw [HP.out]
      go_wp2_with fail
      go_ret2
      exact retYB_of HE.out.2.symm (OwY_nil _ _ _ _ _) (Below.refl _ _)

set_option maxRecDepth 8000 in
set_option maxHeartbeats 1600000 in
theorem specSystemOf_any (a : Option Addr) (cap : Nat) (p : List (List Int)) (w : World) (B C : Nat) (h : RdII w B C a p) (hC : C ≤ w.heap.size) (hl : p.length ≤ maxLen) :
    Calls Try.prog 38 #[.slice a p.length cap] w (RetYB 3 75 (sysOfR p) (sysOfB p) w) := by
  have HB0 := Lib.hid (below_alloc w (.cells #[] 75))
  have F := Lib.hid h
  have HOK := Lib.hid (specPictureOk_any a cap p _ B C (h.below HB0.out hC) hl)
  have HL := Lib.hid hl
  unfold maxLen at hl
  clear h
  cases hp : picB p
  · have HP := Lib.hid hp
    have HE : Hid (sysOfB p = false ∧ sysOfR p = []) := Lib.hid (by unfold sysOfR sysOfB; rw [hp]; exact ⟨rfl, rfl⟩)
    rw [HE.out.1]
    clear hp
    go_enter Try.func38, Try.ntmps38
    go_wp2_with fail
    refine HOK.out.mono ?_
    rintro e w' ⟨rfl, rfl⟩
    rw [HP.out]
    go_wp2_with fail
    go_ret2
    exact retYB_of HE.out.2.symm ((OwY_empty w 3 75).mono (Nat.le_refl _) (by simp)) HB0.out
  · by_cases h3 : p.length ≤ 3
    · have HP := Lib.hid hp
      obtain ⟨sq, s1, s5⟩ := picB_sq hp
      have HS := Lib.hid sq
      have HE : Hid (sysOfB p = true ∧ sysOfR p = sysOfL p) := Lib.hid (by
        have e : sysOfB p = true := by unfold sysOfB; rw [hp, decide_eq_true h3]; rfl
        exact ⟨e, by unfold sysOfR; rw [e]; rfl⟩)
      rw [HE.out.1]
      have h3i : ¬ ((3 : Int) < (p.length : Int)) := by omega
      clear hp sq
      go_enter Try.func38, Try.ntmps38
      go_wp2_with fail
      refine HOK.out.mono ?_
      rintro e w' ⟨rfl, rfl⟩
      rw [HP.out]
      go_wp2_with fail
      go_loopw [4, 5] (fun o i wr => ∃ (k : Nat) (x : Option Addr) (c : Nat) (S : List (List Int × Int)), k ≤ p.length ∧ i = .int .i64 k ∧ S.length = k ∧ S = (sysOfL p).take k ∧ o = .slice x S.length c ∧ OwY wr 3 75 w.heap.size wr.heap.size x c S ∧ Below w.heap.size w wr) (fun _ i _ => p.length - (intOf i).toNat)
      case atStart => exact ⟨0, _, 0, [], Nat.zero_le _, rfl, rfl, by simp, rfl, (OwY_empty w 3 75).mono (Nat.le_refl _) (by simp), below_alloc _ _⟩
      case round =>
        obtain ⟨k, x, c, S, hk, rfl, hSk, hS, rfl, ho, hb⟩ := hrel
        have HO := Lib.hid ho
        have HB := Lib.hid hb
        have HSE := Lib.hid hS
        have hs1 : S.length ≤ k := by omega
        have hs2 : k ≤ S.length := by omega
        have hwz : w.heap.size ≤ wr.heap.size := hb.size
        clear ho hb hS hSk
        by_cases hlt : k < p.length
        · obtain ⟨b, off, an, cn, rfl, _, hbC, hc, hr, hll⟩ := (F.out.below HB.out hC).at k hlt
          have hrow := (HS.out.row k hlt).1
          obtain ⟨L, hL⟩ : ∃ L, L = p[k] := ⟨_, rfl⟩
          have HTK : Hid ((sysOfL p).take (k + 1) = S ++ [(L, 0)]) := Lib.hid (by
            rw [HSE.out, List.take_succ_eq_append_getElem (by rw [sysOfL_len]; exact hlt), hL]
            congr 2
            simp [sysOfL])
          rw [← hL] at hc hr hrow
          have hL3 : L.length ≤ 3 := by omega
          have hL0 : 0 < L.length := by omega
          have hcn : an = none → cn = 0 := by
            intro e
            obtain ⟨b', o', e', _⟩ := hr 0 hL0
            rw [e] at e'; cases e'
          have HRL := Lib.hid (hr.below (below_alloc wr (.cells #[] 3)) (by omega))
          have HEM := Lib.hid (OwI_empty wr 3)
          have hki : (k : Int) < (p.length : Int) := by omega
          have hbw : b < wr.heap.size := by omega
          have hSl : S.length ≤ 1048576 := by omega
          clear hr hL hrow
          go_wp2_with (at_builtin; first
            | (refine wpList_appIs Try.underlying29 Try.infoInt (wr.alloc (.cells #[] 3)) rfl _ _ rfl wr.heap.size (wr.heap.size + 1) (some ⟨wr.heap.size, 0, none⟩) 0 [] rfl HEM.out (by simp) _ _ an cn L rfl HRL.out hcn (by simp; omega) ?_; intro a3 c3 w3 hown3 hgrow3 hat3; rw [List.nil_append] at hown3; have HO3 := Lib.hid hown3; have HG3 := Lib.hid hgrow3; clear hown3 hgrow3 hat3; have hz3 : wr.heap.size + 1 ≤ w3.heap.size := (by have := HG3.out.size; simpa using this); have HP3 := Lib.hid (HO.out.agr (fun b h1 h2 => (HG3.out.block b (by simp; omega) (fun e => by simp [blockOf] at e; omega)).trans (Below.heap_alloc _ _ _ (by omega)))); have HB3 := Lib.hid (below_app HB.out HG3.out (fun k hk => by simp [blockOf] at hk; exact Nat.le_of_eq hk) hwz (Nat.le_refl _)))
            | (go_loud (refine wpList_appY Try.underlying25 Try.infoSaidI rfl _ rfl _ _ rfl w.heap.size wr.heap.size x c S rfl (HP3.out.agr ((Agr.refl _ _ _).alloc (by omega) _)) (by simp; omega) (by simp; omega) ⟨w3.heap.size, 0, none⟩ a3 c3 L 0 rfl (by rw [show ((⟨w3.heap.size, 0, none⟩ : Addr).add 0) = ⟨w3.heap.size, 0, none⟩ from rfl, World.cell?_alloc_at _ _ _ _ rfl]; first | rfl | simp) (by rw [show ((⟨w3.heap.size, 0, none⟩ : Addr).add 1) = ⟨w3.heap.size, 1, none⟩ from rfl, World.cell?_alloc_at _ _ _ _ rfl]; rfl) wr.heap.size w3.heap.size (HO3.out.agr ((Agr.refl _ _ _).alloc (Nat.le_refl _) _)) (Nat.le_refl _) hwz (by simp) hSl ?_); intro g5 c5 w5 hown5 hgrow5 hat5 hlt5; have HO5 := Lib.hid hown5; have HB5 := Lib.hid (below_app HB3.out hgrow5 (fun k hk => (HP3.out.block_in hk).1) (Nat.le_refl _) (Nat.le_refl _)); clear hown5 hgrow5 hat5 hlt5))
          go_roundw
          case rel => exact ⟨k + 1, some ⟨g5, 0, none⟩, c5, S ++ [(L, 0)], by omega, by go_num, by rw [List.length_append]; show S.length + 1 = _; omega, HTK.out.symm, by rw [List.length_append]; rfl, HO5.out, HB5.out⟩
          case measure => simp [intOf]; omega
        · obtain rfl : k = p.length := by omega
          have HSS : Hid (S = sysOfR p) := Lib.hid (by rw [HSE.out, HE.out.2, List.take_of_length_le (by rw [sysOfL_len]; exact Nat.le_refl _)])
          go_wp2_with fail
          go_ret2
          exact retYB_of HSS.out HO.out HB.out
    · have HP := Lib.hid hp
      have HE : Hid (sysOfB p = false ∧ sysOfR p = []) := Lib.hid (by
        have e : sysOfB p = false := by unfold sysOfB; rw [hp, decide_eq_false h3]; rfl
        exact ⟨e, by unfold sysOfR; rw [e]; rfl⟩)
      rw [HE.out.1]
      have h3i : (3 : Int) < (p.length : Int) := by omega
      clear hp
      go_enter Try.func38, Try.ntmps38
      go_wp2_with fail
      refine HOK.out.mono ?_
      rintro e w' ⟨rfl, rfl⟩
      rw [HP.out]
      go_wp2_with fail
      go_ret2
      exact retYB_of HE.out.2.symm ((OwY_empty w 3 75).mono (Nat.le_refl _) (by simp)) HB0.out
end Go.Proofs.Ytgfoolneophkcaa
