/- Walks of the small functions on pictures: rows without arrows, the arrows of a node, looking for a number. -/
import Derived.Test.YtiiohodkfipfbaaGreatDoorPic
import Derived.Test.YtiiohodkfipfbaaGreatDoorOwn
import Derived.Shelf.Abstract
namespace Go.Hyp
open Go.RowKit Go.Deep
/-- The nodes to which a node has arrows. -/
def arrL (p : List (List Int)) (i n : Nat) : List Int := ((List.range n).filter (arr p i)).map Int.ofNat
theorem arrL_succ (p : List (List Int)) (i n : Nat) : arrL p i (n + 1) = arrL p i n ++ (if arr p i n then [(n : Int)] else []) := by
  unfold arrL
  rw [List.range_succ, List.filter_append, List.map_append]
  cases h : arr p i n <;> simp [h]
theorem arrL_le (p : List (List Int)) (i n : Nat) : (arrL p i n).length ≤ n := by
  unfold arrL
  rw [List.length_map]
  exact Nat.le_trans (List.length_filter_le _ _) (by simp)
theorem arrL_mem {p : List (List Int)} {i n : Nat} {x : Int} : x ∈ arrL p i n ↔ ∃ k : Nat, x = k ∧ k < n ∧ arr p i k = true := by
  unfold arrL
  simp only [List.mem_map, List.mem_filter, List.mem_range]
  constructor
  · rintro ⟨k, ⟨h1, h2⟩, rfl⟩; exact ⟨k, rfl, h1, h2⟩
  · rintro ⟨k, rfl, h1, h2⟩; exact ⟨k, ⟨h1, h2⟩, rfl⟩
theorem arrL_at {p : List (List Int)} {i n k : Nat} (h : k < (arrL p i n).length) : ∃ x : Nat, (arrL p i n)[k] = (x : Int) ∧ x < n ∧ arr p i x = true := arrL_mem.1 (List.getElem_mem h)
/-- Where a number stands first; -1 where it does not. -/
def idxI (l : List Int) (x : Int) : Int := if x ∈ l then ((l.idxOf x : Nat) : Int) else -1
theorem idxI_of {l : List Int} {x : Int} {k : Nat} (h : k < l.length) (hx : l[k] = x) (hn : ∀ j (hj : j < k), l[j]'(by omega) ≠ x) : idxI l x = k := by
  have hm : x ∈ l := hx ▸ List.getElem_mem h
  unfold idxI
  rw [if_pos hm]
  congr 1
  have hlt : l.idxOf x < l.length := List.idxOf_lt_length_of_mem hm
  have hg : l[l.idxOf x] = x := List.getElem_idxOf hlt
  rcases Nat.lt_trichotomy (l.idxOf x) k with h1 | h1 | h1
  · exact absurd hg (hn _ h1)
  · exact h1
  · exfalso
    have h2 : l.idxOf x ≤ k := by
      rw [← hx]
      have : ∀ (l : List Int) (k : Nat) (h : k < l.length), l.idxOf l[k] ≤ k := by
        intro l
        induction l with
        | nil => intro k h; simp at h
        | cons y l ih =>
          intro k h
          rw [List.idxOf_cons]
          cases k with
          | zero => simp
          | succ k =>
            have := ih k (by simpa using h)
            simp only [List.getElem_cons_succ]
            cases (y == l[k]'(by simpa using h)) <;> simp <;> omega
      exact this l k h
    omega
theorem idxI_none {l : List Int} {x : Int} (h : x ∉ l) : idxI l x = -1 := by unfold idxI; rw [if_neg h]
theorem idxI_nonneg {l : List Int} {x : Int} : (decide (0 ≤ idxI l x)) = decide (x ∈ l) := by
  unfold idxI
  by_cases h : x ∈ l
  · rw [if_pos h]; simp [h]
  · rw [if_neg h]; simp [h]
/-- A function value that tells of a number: at each later world it answers g, and turns nothing that was there. -/
def TellsF (P : Program) (f : Nat) (cap : Array Value) (g : Int → Bool) (l : List Int) (W : World) : Prop :=
  ∀ x ∈ l, ∀ w, Below W.heap.size W w → Calls P f (#[.int .i64 x] ++ cap) w fun e w' => e = .returned (.bool (g x)) ∧ Below w.heap.size w w'
/-- The function of that number may be called. -/
def EntersF (P : Program) (f : Nat) : Prop := ∀ args w, (callFunc f args).run P w = .ok (.enter f args) w
/-- What IndexFunc answers: a number that is not below 0 exactly if g holds of some number. -/
def FoundI (g : Bool) (w : World) (e : Ending) (w' : World) : Prop := ∃ n : Int, e = .returned (.int .i64 n) ∧ decide (0 ≤ n) = g ∧ Below w.heap.size w w'
theorem any_no {l : List Int} {g : Int → Bool} (h : l.take l.length = l) (hn : (l.take l.length).any g = false) : l.any g = false := by rwa [h] at hn
end Go.Hyp
namespace Go.Proofs.YtiiohodkfipfbaaGreatDoor
open Go.RowKit Go.Hyp Go.Deep

set_option maxHeartbeats 400000 in
theorem index_any (a : Option Addr) (cap : Nat) (l : List Int) (x : Int) (w : World) (B C : Nat) (h : RdI w B C a l) (hl : l.length ≤ 1048576) :
    Calls Tryz.prog 55 #[.slice a l.length cap, .int .i64 x] w fun e w' => e = .returned (.int .i64 (idxI l x)) ∧ w = w' := by
  have HO := Lib.hid h
  clear h
  go_enter Tryz.func55, Tryz.ntmps55
  go_wp2_with fail
  go_loop [4, 8] (fun r i => ∃ j : Nat, j ≤ l.length ∧ i = .int .i64 j ∧ r = .int .i64 0 ∧ x ∉ l.take j) (fun _ i => l.length - (intOf i).toNat)
  case atStart => exact ⟨0, Nat.zero_le _, rfl, rfl, by simp⟩
  case round =>
    obtain ⟨j, hj, rfl, rfl, hn⟩ := hrel
    have HN := Lib.hid hn
    clear hn
    by_cases hlt : j < l.length
    · obtain ⟨b, off, rfl, _, _, hd⟩ := HO.out.at j hlt
      by_cases hx : x = l[j]
      · have hxb : (x == l[j]) = true := beq_iff_eq.2 hx
        have HX := Lib.hid hx
        clear hx
        go_wp2_with fail
        go_ret
        refine ⟨ret_int (Eq.symm (idxI_of hlt HX.out.symm fun k hk e => HN.out ?_)), rfl⟩
        rw [← e, List.mem_take_iff_getElem]
        exact ⟨k, by omega, rfl⟩
      · have hxb : (x == l[j]) = false := beq_eq_false_iff_ne.2 hx
        have HX := Lib.hid hx
        clear hx
        go_wp2_with fail
        go_round
        case rel => exact ⟨j + 1, by omega, by go_num, rfl, by rw [List.take_succ_eq_append_getElem hlt, List.mem_append]; simp; exact ⟨HN.out, HX.out⟩⟩
        case measure => simp [intOf]; omega
    · obtain rfl : j = l.length := by omega
      go_wp2_with fail
      go_ret
      exact ⟨ret_int (Eq.symm (idxI_none (by have := HN.out; rwa [List.take_of_length_le (Nat.le_refl _)] at this))), rfl⟩

set_option maxHeartbeats 400000 in
theorem contains_any (a : Option Addr) (cap : Nat) (l : List Int) (x : Int) (w : World) (B C : Nat) (h : RdI w B C a l) (hl : l.length ≤ 1048576) :
    Calls Tryz.prog 40 #[.slice a l.length cap, .int .i64 x] w fun e w' => e = .returned (.bool (decide (x ∈ l))) ∧ w = w' := by
  have HO := Lib.hid h
  clear h
  go_enter Tryz.func40, Tryz.ntmps40
  go_wp2_with fail
  refine (index_any a cap l x _ B C HO.out hl).mono ?_
  rintro e w1 ⟨rfl, rfl⟩
  go_wp2_with fail
  go_ret
  exact ⟨ret_bool idxI_nonneg, rfl⟩

set_option maxHeartbeats 400000 in
theorem indexFunc_any (a : Option Addr) (cap : Nat) (l : List Int) (f : Nat) (cp : Array Value) (g : Int → Bool) (w : World) (B C : Nat) (eg : EntersF Tryz.prog f) (h : RdI w B C a l) (hC : C ≤ w.heap.size) (hl : l.length ≤ 1048576) (hf : TellsF Tryz.prog f cp g l w) :
    Calls Tryz.prog 43 #[.slice a l.length cap, .func (.func f) #[] cp] w (FoundI (l.any g) w) := by
  have HO := Lib.hid h
  have HF := Lib.hid hf
  unfold EntersF at eg
  clear h hf
  go_enter Tryz.func43, Tryz.ntmps43
  go_wp2_with fail
  go_loopw [4, 5, 8] (fun r i5 i wr => ∃ j : Nat, j ≤ l.length ∧ i = .int .i64 j ∧ r = .int .i64 0 ∧ (l.take j).any g = false ∧ Below w.heap.size w wr) (fun _ _ i _ => l.length - (intOf i).toNat)
  case atStart => exact ⟨0, Nat.zero_le _, rfl, rfl, by simp, Below.refl _ _⟩
  case round =>
    obtain ⟨j, hj, rfl, rfl, hn, hb⟩ := hrel
    have HN := Lib.hid hn
    have HB := Lib.hid hb
    clear hn hb
    by_cases hlt : j < l.length
    · obtain ⟨b, off, rfl, _, hb2, hd⟩ := (HO.out.below HB.out hC).at j hlt
      have hcall := HF.out l[j] (List.getElem_mem hlt) wr HB.out
      cases hq : g l[j]
      · have HX := Lib.hid hq
        rw [hq] at hcall
        clear hq
        go_wp2_with (go_at_fn f; refine hcall.mono ?_; rintro e w' ⟨rfl, hb'⟩)
        have HB' := Lib.hid (HB.out.trans (hb'.mono HB.out.size))
        go_roundw
        case rel => exact ⟨j + 1, by omega, by go_num, rfl, by rw [List.take_succ_eq_append_getElem hlt, List.any_append, HN.out]; simp [HX.out], HB'.out⟩
        case measure => simp [intOf]; omega
      · have HX := Lib.hid hq
        rw [hq] at hcall
        clear hq
        go_wp2_with (go_at_fn f; refine hcall.mono ?_; rintro e w' ⟨rfl, hb'⟩)
        have HB' := Lib.hid (HB.out.trans (hb'.mono HB.out.size))
        go_ret
        exact ⟨j, rfl, by rw [decide_eq_true (by omega), eq_comm, List.any_eq_true]; exact ⟨l[j], List.getElem_mem hlt, HX.out⟩, HB'.out⟩
    · obtain rfl : j = l.length := by omega
      go_wp2_with fail
      go_ret
      exact ⟨-1, rfl, by have := HN.out; rw [List.take_of_length_le (Nat.le_refl _)] at this; rw [this]; rfl, HB.out⟩

set_option maxHeartbeats 400000 in
theorem containsFunc_any (a : Option Addr) (cap : Nat) (l : List Int) (f : Nat) (cp : Array Value) (g : Int → Bool) (w : World) (B C : Nat) (eg : EntersF Tryz.prog f) (h : RdI w B C a l) (hC : C ≤ w.heap.size) (hl : l.length ≤ 1048576) (hf : TellsF Tryz.prog f cp g l w) :
    Calls Tryz.prog 27 #[.slice a l.length cap, .func (.func f) #[] cp] w fun e w' => e = .returned (.bool (l.any g)) ∧ Below w.heap.size w w' := by
  have HO := Lib.hid h
  have HF := Lib.hid hf
  have HE := Lib.hid eg
  clear h hf eg
  go_enter Tryz.func27, Tryz.ntmps27
  go_wp2_with fail
  refine (indexFunc_any a cap l f cp g _ B C HE.out HO.out hC hl HF.out).mono ?_
  rintro e w1 ⟨n, rfl, hn, hb⟩
  have HN := Lib.hid hn
  clear hn
  go_wp2_with fail
  go_ret
  exact ⟨ret_bool HN.out, hb⟩

set_option maxHeartbeats 400000 in
theorem emptyPicture_any (n : Nat) (w : World) (hn : n ≤ 1024) :
    Calls Tryz.prog 54 #[.int .i64 n] w (RetII 3 37 (mat n n fun _ _ => false) w) := by
  have hmk := run_make_row' (P := Tryz.prog) 37 3 _ _ Tryz.underlying37 Tryz.infoInt rfl .i64 .i64 n (by omega) (by omega)
  go_enter Tryz.func54, Tryz.ntmps54
  go_wp2_with fail
  go_loopw [3, 6] (fun o i wr => ∃ (k : Nat) (a : Option Addr) (c : Nat) (p : List (List Int)), k ≤ n ∧ i = .int .i64 k ∧ p = (mat n n fun _ _ => false).take k ∧ o = .slice a p.length c ∧ OwII wr 3 37 w.heap.size wr.heap.size a c p ∧ Below w.heap.size w wr) (fun _ i _ => n - (intOf i).toNat)
  case atStart => exact ⟨0, _, 0, [], Nat.zero_le _, rfl, by simp, rfl, (OwII_empty w 3 37).mono (Nat.le_refl _) (by simp), below_alloc _ _⟩
  case round =>
    obtain ⟨k, a, c, p, hk, rfl, hp, rfl, ho, hb⟩ := hrel
    have HP := Lib.hid hp
    have HO := Lib.hid ho
    have HB := Lib.hid hb
    have hpl : p.length ≤ n := by rw [hp, List.length_take]; omega
    clear hp ho hb
    by_cases hlt : k < n
    · go_wp2_with (at_builtin; go_loud (refine wpList_appII Tryz.underlying23 Tryz.infoRow _ rfl _ _ rfl w.heap.size wr.heap.size a c p rfl ((HO.out.agr ((Agr.refl _ _ _).alloc (Nat.le_refl _) _)).agr ((Agr.refl _ _ _).alloc (by simp) _)) (by have := HB.out.size; simp; omega) (by simp; omega) ⟨wr.heap.size + 1, 0, none⟩ (some ⟨wr.heap.size, 0, none⟩) n (rowOf n fun _ => false) rfl (by rw [rowOf_len]; exact new_cellE _ _ _ (by simp)) wr.heap.size (wr.heap.size + 1) ((OwI_zeros wr 3 n (by unfold maxLen; omega)).agr ((Agr.refl _ _ _).alloc (by simp) _)) (Nat.le_refl _) (HB.out.size) (by simp) (by omega) ?_); intro a1 c1 w1 hown hgrow hat)
      have hl : (p ++ [rowOf n fun _ => false]).length = p.length + 1 := by simp
      have HO1 := Lib.hid hown
      have HB1 : Hid (Below w.heap.size w w1) := Lib.hid (below_app (HB.out.alloc HB.out.size _) hgrow (HO.out.app_in (Nat.le_refl _)) (Nat.le_refl _) (Nat.le_refl _))
      clear hown hgrow
      go_wp2_with fail
      go_roundw
      case rel => exact ⟨k + 1, a1, c1, p ++ [rowOf n fun _ => false], by omega, by go_num, by rw [HP.out, mat_take _ _ _ _ hlt], by rw [hl], HO1.out, HB1.out⟩
      case measure => simp [intOf]; omega
    · obtain rfl : k = n := by omega
      go_wp2_with fail
      go_ret
      exact retII_of (by rw [HP.out, mat_all]) HO.out HB.out

set_option maxHeartbeats 400000 in
theorem arrowsOf_any (a : Option Addr) (cap : Nat) (p : List (List Int)) (n : Nat) (w : World) (B C : Nat) (h : RdII w B C a p) (hC : C ≤ w.heap.size) (hs : Sq p) (hn : n < p.length) (hl : p.length ≤ 1024) :
    Calls Tryz.prog 28 #[.slice a p.length cap, .int .i64 n] w (RetI 3 (arrL p n p.length) w) := by
  obtain ⟨b, off, a', c', rfl, _, hbC, hc, hr⟩ := h.rowAt hs n hn
  have hbw : b < w.heap.size := by omega
  have HR := Lib.hid hr
  have hrl := rowOf_len p.length (arr p n)
  have HRL := Lib.hid hrl
  have hni : (n : Int) < (p.length : Int) := by omega
  clear h hr hrl
  go_enter Tryz.func28, Tryz.ntmps28
  go_wp2_with fail
  go_loopw [5, 14] (fun o i wr => ∃ (k : Nat) (x : Option Addr) (c : Nat), k ≤ p.length ∧ i = .int .i64 k ∧ o = .slice x (arrL p n k).length c ∧ OwI wr 3 w.heap.size wr.heap.size x c (arrL p n k) ∧ Below w.heap.size w wr) (fun _ i _ => p.length - (intOf i).toNat)
  case atStart => exact ⟨0, _, 0, Nat.zero_le _, rfl, rfl, (OwI_empty w 3).mono (Nat.le_refl _) (by simp), below_alloc _ _⟩
  case round =>
    obtain ⟨k, x, c, hk, rfl, rfl, ho, hb⟩ := hrel
    have HO := Lib.hid ho
    have HB := Lib.hid hb
    have hkl := arrL_le p n k
    clear ho hb
    by_cases hlt : k < p.length
    · have hrd := (HR.out.below HB.out hC)
      obtain ⟨b', off', rfl, _, _, hd⟩ := hrd.at k (by rw [HRL.out]; exact hlt)
      rw [rowOf_get] at hd
      clear hrd
      cases hx : arr p n k
      · have HX := Lib.hid hx
        rw [hx] at hd
        simp only [Bool.false_eq_true, if_false] at hd
        clear hx
        go_wp2_with fail
        go_roundw
        case rel => exact ⟨k + 1, x, c, by omega, by go_num, by rw [arrL_succ, HX.out]; simp, by rw [arrL_succ, HX.out]; simpa using HO.out, HB.out⟩
        case measure => simp [intOf]; omega
      · have HX := Lib.hid hx
        rw [hx] at hd
        simp only [if_true] at hd
        clear hx
        go_wp2_with (at_builtin; go_loud (refine wpList_appI Tryz.underlying37 Tryz.infoInt _ rfl _ _ rfl w.heap.size wr.heap.size x c (arrL p n k) rfl (HO.out.agr ((Agr.refl _ _ _).alloc (Nat.le_refl _) _)) (by have := HB.out.size; simp; omega) ⟨wr.heap.size, 0, none⟩ k rfl (new_cellE _ _ _ rfl) (by omega) ?_); intro g c1 w1 hown hgrow hat hg)
        have hl : (arrL p n (k + 1)) = arrL p n k ++ [(k : Int)] := by rw [arrL_succ, HX.out]; rfl
        have HL := Lib.hid hl
        have HO1 := Lib.hid hown
        have HB1 := Lib.hid (below_app HB.out hgrow (HO.out.app_in (Nat.le_refl _)) (Nat.le_refl _) (Nat.le_refl _))
        clear hown hgrow hat hl
        go_wp2_with fail
        go_roundw
        case rel => exact ⟨k + 1, some ⟨g, 0, none⟩, c1, by omega, by go_num, by rw [HL.out]; simp, by rw [HL.out]; exact HO1.out, HB1.out⟩
        case measure => simp [intOf]; omega
    · obtain rfl : k = p.length := by omega
      go_wp2_with fail
      go_ret
      exact retI_of rfl HO.out HB.out

set_option maxHeartbeats 400000 in
theorem l6Arrows_any (a : Option Addr) (cap : Nat) (p : List (List Int)) (n : Nat) (w : World) (B C : Nat) (h : RdII w B C a p) (hC : C ≤ w.heap.size) (hs : Sq p) (hn : n < p.length) (hl : p.length ≤ 1024) :
    Calls Tryz.prog 16 #[.slice a p.length cap, .int .i64 n] w (RetI 3 (arrL p n p.length) w) := by
  have HH := Lib.hid h
  have HS := Lib.hid hs
  have hni : (n : Int) < (p.length : Int) := by omega
  clear h hs
  go_enter Tryz.func16, Tryz.ntmps16
  go_wp2_with fail
  go_loopw [5, 6] (fun o i wr => ∃ (k : Nat) (x : Option Addr) (c : Nat), k ≤ p.length ∧ i = .int .i64 k ∧ o = .slice x (arrL p n k).length c ∧ OwI wr 3 w.heap.size wr.heap.size x c (arrL p n k) ∧ Below w.heap.size w wr) (fun _ i _ => p.length - (intOf i).toNat)
  case atStart => exact ⟨0, _, 0, Nat.zero_le _, rfl, rfl, (OwI_empty w 3).mono (Nat.le_refl _) (by simp), below_alloc _ _⟩
  case round =>
    obtain ⟨k, x, c, hk, rfl, rfl, ho, hb⟩ := hrel
    have HO := Lib.hid ho
    have HB := Lib.hid hb
    have hkl := arrL_le p n k
    clear ho hb
    by_cases hlt : k < p.length
    · obtain ⟨b, off, b', off', c', rfl, _, _, hc, _, _, hd⟩ := (HH.out.below HB.out hC).bit HS.out n k hn hlt
      cases hx : arr p n k
      · have HX := Lib.hid hx
        rw [hx] at hd
        simp only [Bool.false_eq_true, if_false] at hd
        clear hx
        go_wp2_with fail
        go_roundw
        case rel => exact ⟨k + 1, x, c, by omega, by go_num, by rw [arrL_succ, HX.out]; simp, by rw [arrL_succ, HX.out]; simpa using HO.out, HB.out⟩
        case measure => simp [intOf]; omega
      · have HX := Lib.hid hx
        rw [hx] at hd
        simp only [if_true] at hd
        clear hx
        go_wp2_with (at_builtin; go_loud (refine wpList_appI Tryz.underlying37 Tryz.infoInt _ rfl _ _ rfl w.heap.size wr.heap.size x c (arrL p n k) rfl (HO.out.agr ((Agr.refl _ _ _).alloc (Nat.le_refl _) _)) (by have := HB.out.size; simp; omega) ⟨wr.heap.size, 0, none⟩ k rfl (new_cellE _ _ _ rfl) (by omega) ?_); intro g c1 w1 hown hgrow hat hg)
        have hl : (arrL p n (k + 1)) = arrL p n k ++ [(k : Int)] := by rw [arrL_succ, HX.out]; rfl
        have HL := Lib.hid hl
        have HO1 := Lib.hid hown
        have HB1 := Lib.hid (below_app HB.out hgrow (HO.out.app_in (Nat.le_refl _)) (Nat.le_refl _) (Nat.le_refl _))
        clear hown hgrow hat hl
        go_wp2_with fail
        go_roundw
        case rel => exact ⟨k + 1, some ⟨g, 0, none⟩, c1, by omega, by go_num, by rw [HL.out]; simp, by rw [HL.out]; exact HO1.out, HB1.out⟩
        case measure => simp [intOf]; omega
    · obtain rfl : k = p.length := by omega
      go_wp2_with fail
      go_ret
      exact retI_of rfl HO.out HB.out
end Go.Proofs.YtiiohodkfipfbaaGreatDoor
