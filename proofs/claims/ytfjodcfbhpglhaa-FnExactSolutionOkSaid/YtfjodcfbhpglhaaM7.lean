/- Walks of the small functions on pictures: rows without arrows, the arrows of a node, looking for a number. The rounds of equality, as the program goes them: impl.answered, impl.leftAfter, impl.kindsOf. The rounds of equality, as the reference goes them: spec.l3Start, l3Matched, l3Round, LeftAfter, SameRows, SameAt. How long two nodes hold: both ways of finding it. spec.KindsOf: the kinds of all nodes. -/
import Derived.Shelf.Abstract
import Derived.Test.YtfjodcfbhpglhaaM3
namespace Go.Hyp
open Go.RowKit Go.Deep
/-- The nodes to which a node has arrows. -/
def arrL (p : List (List Int)) (i n : Nat) : List Int := ((List.range n).filter (arr p i)).map Int.ofNat
theorem arrL_succ (p : List (List Int)) (i n : Nat) : arrL p i (n + 1) = arrL p i n ++ (if arr p i n then [(n : Int)] else []) := by
  unfold arrL
  rw [List.range_succ, List.filter_append, List.map_append]
  cases h : arr p i n <;> simp [h]
theorem arrL_le (p : List (List Int)) (i n : Nat) : (arrL p i n).length ≤ n := by
  unfold arrL
  rw [List.length_map]
  exact Nat.le_trans (List.length_filter_le _ _) (by simp)
theorem arrL_mem {p : List (List Int)} {i n : Nat} {x : Int} : x ∈ arrL p i n ↔ ∃ k : Nat, x = k ∧ k < n ∧ arr p i k = true := by
  unfold arrL
  simp only [List.mem_map, List.mem_filter, List.mem_range]
  constructor
  · rintro ⟨k, ⟨h1, h2⟩, rfl⟩; exact ⟨k, rfl, h1, h2⟩
  · rintro ⟨k, rfl, h1, h2⟩; exact ⟨k, ⟨h1, h2⟩, rfl⟩
theorem arrL_at {p : List (List Int)} {i n k : Nat} (h : k < (arrL p i n).length) : ∃ x : Nat, (arrL p i n)[k] = (x : Int) ∧ x < n ∧ arr p i x = true := arrL_mem.1 (List.getElem_mem h)
/-- Where a number stands first; -1 where it does not. -/
def idxI (l : List Int) (x : Int) : Int := if x ∈ l then ((l.idxOf x : Nat) : Int) else -1
theorem idxI_of {l : List Int} {x : Int} {k : Nat} (h : k < l.length) (hx : l[k] = x) (hn : ∀ j (hj : j < k), l[j]'(by omega) ≠ x) : idxI l x = k := by
  have hm : x ∈ l := hx ▸ List.getElem_mem h
  unfold idxI
  rw [if_pos hm]
  congr 1
  have hlt : l.idxOf x < l.length := List.idxOf_lt_length_of_mem hm
  have hg : l[l.idxOf x] = x := List.getElem_idxOf hlt
  rcases Nat.lt_trichotomy (l.idxOf x) k with h1 | h1 | h1
  · exact absurd hg (hn _ h1)
  · exact h1
  · exfalso
    have h2 : l.idxOf x ≤ k := by
      rw [← hx]
      have : ∀ (l : List Int) (k : Nat) (h : k < l.length), l.idxOf l[k] ≤ k := by
        intro l
        induction l with
        | nil => intro k h; simp at h
        | cons y l ih =>
          intro k h
          rw [List.idxOf_cons]
          cases k with
          | zero => simp
          | succ k =>
            have := ih k (by simpa using h)
            simp only [List.getElem_cons_succ]
            cases (y == l[k]'(by simpa using h)) <;> simp <;> omega
      exact this l k h
    omega
theorem idxI_none {l : List Int} {x : Int} (h : x ∉ l) : idxI l x = -1 := by unfold idxI; rw [if_neg h]
theorem idxI_nonneg {l : List Int} {x : Int} : (decide (0 ≤ idxI l x)) = decide (x ∈ l) := by
  unfold idxI
  by_cases h : x ∈ l
  · rw [if_pos h]; simp [h]
  · rw [if_neg h]; simp [h]
/-- A function value that tells of a number: at each later world it answers g, and turns nothing that was there. -/
def TellsF (P : Program) (f : Nat) (cap : Array Value) (g : Int → Bool) (l : List Int) (W : World) : Prop :=
  ∀ x ∈ l, ∀ w, Below W.heap.size W w → Calls P f (#[.int .i64 x] ++ cap) w fun e w' => e = .returned (.bool (g x)) ∧ Below w.heap.size w w'
/-- The function of that number may be called. -/
def EntersF (P : Program) (f : Nat) : Prop := ∀ args w, (callFunc f args).run P w = .ok (.enter f args) w
/-- What IndexFunc answers: a number that is not below 0 exactly if g holds of some number. -/
def FoundI (g : Bool) (w : World) (e : Ending) (w' : World) : Prop := ∃ n : Int, e = .returned (.int .i64 n) ∧ decide (0 ≤ n) = g ∧ Below w.heap.size w w'
theorem any_no {l : List Int} {g : Int → Bool} (h : l.take l.length = l) (hn : (l.take l.length).any g = false) : l.any g = false := by rwa [h] at hn
end Go.Hyp
namespace Go.Proofs.Ytfjodcfbhpglhaa
open Go.RowKit Go.Hyp Go.Deep

set_option maxHeartbeats 400000 in
theorem indexFunc_any (a : Option Addr) (cap : Nat) (l : List Int) (f : Nat) (cp : Array Value) (g : Int → Bool) (w : World) (B C : Nat) (eg : EntersF Try.prog f) (h : RdI w B C a l) (hC : C ≤ w.heap.size) (hl : l.length ≤ 1048576) (hf : TellsF Try.prog f cp g l w) :
    Calls Try.prog 72 #[.slice a l.length cap, .func (.func f) #[] cp] w (FoundI (l.any g) w) := by
  have HO := Lib.hid h
  have HF := Lib.hid hf
  unfold EntersF at eg
  clear h hf
  go_enter Try.func72, Try.ntmps72
  go_wp2_with fail
  go_loopw [4, 5, 8] (fun r i5 i wr => ∃ j : Nat, j ≤ l.length ∧ i = .int .i64 j ∧ r = .int .i64 0 ∧ (l.take j).any g = false ∧ Below w.heap.size w wr) (fun _ _ i _ => l.length - (intOf i).toNat)
  case atStart => exact ⟨0, Nat.zero_le _, rfl, rfl, by simp, Below.refl _ _⟩
  case round =>
    obtain ⟨j, hj, rfl, rfl, hn, hb⟩ := hrel
    have HN := Lib.hid hn
    have HB := Lib.hid hb
    clear hn hb
    by_cases hlt : j < l.length
    · obtain ⟨b, off, rfl, _, hb2, hd⟩ := (HO.out.below HB.out hC).at j hlt
      have hcall := HF.out l[j] (List.getElem_mem hlt) wr HB.out
      cases hq : g l[j]
      · have HX := Lib.hid hq
        rw [hq] at hcall
        clear hq
        go_wp2_with (go_at_fn f; refine hcall.mono ?_; rintro e w' ⟨rfl, hb'⟩)
        have HB' := Lib.hid (HB.out.trans (hb'.mono HB.out.size))
        go_roundw
        case rel => exact ⟨j + 1, by omega, by go_num, rfl, by rw [List.take_succ_eq_append_getElem hlt, List.any_append, HN.out]; simp [HX.out], HB'.out⟩
        case measure => simp [intOf]; omega
      · have HX := Lib.hid hq
        rw [hq] at hcall
        clear hq
        go_wp2_with (go_at_fn f; refine hcall.mono ?_; rintro e w' ⟨rfl, hb'⟩)
        have HB' := Lib.hid (HB.out.trans (hb'.mono HB.out.size))
        go_ret
        exact ⟨j, rfl, by rw [decide_eq_true (by omega), eq_comm, List.any_eq_true]; exact ⟨l[j], List.getElem_mem hlt, HX.out⟩, HB'.out⟩
    · obtain rfl : j = l.length := by omega
      go_wp2_with fail
      go_ret
      exact ⟨-1, rfl, by have := HN.out; rw [List.take_of_length_le (Nat.le_refl _)] at this; rw [this]; rfl, HB.out⟩

set_option maxHeartbeats 400000 in
theorem containsFunc_any (a : Option Addr) (cap : Nat) (l : List Int) (f : Nat) (cp : Array Value) (g : Int → Bool) (w : World) (B C : Nat) (eg : EntersF Try.prog f) (h : RdI w B C a l) (hC : C ≤ w.heap.size) (hl : l.length ≤ 1048576) (hf : TellsF Try.prog f cp g l w) :
    Calls Try.prog 68 #[.slice a l.length cap, .func (.func f) #[] cp] w fun e w' => e = .returned (.bool (l.any g)) ∧ Below w.heap.size w w' := by
  have HO := Lib.hid h
  have HF := Lib.hid hf
  have HE := Lib.hid eg
  clear h hf eg
  go_enter Try.func68, Try.ntmps68
  go_wp2_with fail
  refine (indexFunc_any a cap l f cp g _ B C HE.out HO.out hC hl HF.out).mono ?_
  rintro e w1 ⟨n, rfl, hn, hb⟩
  have HN := Lib.hid hn
  clear hn
  go_wp2_with fail
  go_ret
  exact ⟨ret_bool HN.out, hb⟩

set_option maxHeartbeats 400000 in
theorem emptyPicture_any (n : Nat) (w : World) (hn : n ≤ 1024) :
    Calls Try.prog 52 #[.int .i64 n] w (RetII 3 24 (mat n n fun _ _ => false) w) := by
  have hmk := run_make_row' (P := Try.prog) 24 3 _ _ Try.underlying24 Try.infoInt rfl .i64 .i64 n (by omega) (by omega)
  go_enter Try.func52, Try.ntmps52
  go_wp2_with fail
  go_loopw [3, 6] (fun o i wr => ∃ (k : Nat) (a : Option Addr) (c : Nat) (p : List (List Int)), k ≤ n ∧ i = .int .i64 k ∧ p = (mat n n fun _ _ => false).take k ∧ o = .slice a p.length c ∧ OwII wr 3 24 w.heap.size wr.heap.size a c p ∧ Below w.heap.size w wr) (fun _ i _ => n - (intOf i).toNat)
  case atStart => exact ⟨0, _, 0, [], Nat.zero_le _, rfl, by simp, rfl, (OwII_empty w 3 24).mono (Nat.le_refl _) (by simp), below_alloc _ _⟩
  case round =>
    obtain ⟨k, a, c, p, hk, rfl, hp, rfl, ho, hb⟩ := hrel
    have HP := Lib.hid hp
    have HO := Lib.hid ho
    have HB := Lib.hid hb
    have hpl : p.length ≤ n := by rw [hp, List.length_take]; omega
    clear hp ho hb
    by_cases hlt : k < n
    · go_wp2_with (at_builtin; go_loud (refine wpList_appII Try.underlying38 Try.infoRow _ rfl _ _ rfl w.heap.size wr.heap.size a c p rfl ((HO.out.agr ((Agr.refl _ _ _).alloc (Nat.le_refl _) _)).agr ((Agr.refl _ _ _).alloc (by simp) _)) (by have := HB.out.size; simp; omega) (by simp; omega) ⟨wr.heap.size + 1, 0, none⟩ (some ⟨wr.heap.size, 0, none⟩) n (rowOf n fun _ => false) rfl (by rw [rowOf_len]; exact new_cellE _ _ _ (by simp)) wr.heap.size (wr.heap.size + 1) ((OwI_zeros wr 3 n (by unfold maxLen; omega)).agr ((Agr.refl _ _ _).alloc (by simp) _)) (Nat.le_refl _) (HB.out.size) (by simp) (by omega) ?_); intro a1 c1 w1 hown hgrow hat)
      have hl : (p ++ [rowOf n fun _ => false]).length = p.length + 1 := by simp
      have HO1 := Lib.hid hown
      have HB1 : Hid (Below w.heap.size w w1) := Lib.hid (below_app (HB.out.alloc HB.out.size _) hgrow (HO.out.app_in (Nat.le_refl _)) (Nat.le_refl _) (Nat.le_refl _))
      clear hown hgrow
      go_wp2_with fail
      go_roundw
      case rel => exact ⟨k + 1, a1, c1, p ++ [rowOf n fun _ => false], by omega, by go_num, by rw [HP.out, mat_take _ _ _ _ hlt], by rw [hl], HO1.out, HB1.out⟩
      case measure => simp [intOf]; omega
    · obtain rfl : k = n := by omega
      go_wp2_with fail
      go_ret
      exact retII_of (by rw [HP.out, mat_all]) HO.out HB.out

set_option maxHeartbeats 400000 in
theorem arrowsOf_any (a : Option Addr) (cap : Nat) (p : List (List Int)) (n : Nat) (w : World) (B C : Nat) (h : RdII w B C a p) (hC : C ≤ w.heap.size) (hs : Sq p) (hn : n < p.length) (hl : p.length ≤ 1024) :
    Calls Try.prog 47 #[.slice a p.length cap, .int .i64 n] w (RetI 3 (arrL p n p.length) w) := by
  obtain ⟨b, off, a', c', rfl, _, hbC, hc, hr⟩ := h.rowAt hs n hn
  have hbw : b < w.heap.size := by omega
  have HR := Lib.hid hr
  have hrl := rowOf_len p.length (arr p n)
  have HRL := Lib.hid hrl
  have hni : (n : Int) < (p.length : Int) := by omega
  clear h hr hrl
  go_enter Try.func47, Try.ntmps47
  go_wp2_with fail
  go_loopw [5, 14] (fun o i wr => ∃ (k : Nat) (x : Option Addr) (c : Nat), k ≤ p.length ∧ i = .int .i64 k ∧ o = .slice x (arrL p n k).length c ∧ OwI wr 3 w.heap.size wr.heap.size x c (arrL p n k) ∧ Below w.heap.size w wr) (fun _ i _ => p.length - (intOf i).toNat)
  case atStart => exact ⟨0, _, 0, Nat.zero_le _, rfl, rfl, (OwI_empty w 3).mono (Nat.le_refl _) (by simp), below_alloc _ _⟩
  case round =>
    obtain ⟨k, x, c, hk, rfl, rfl, ho, hb⟩ := hrel
    have HO := Lib.hid ho
    have HB := Lib.hid hb
    have hkl := arrL_le p n k
    clear ho hb
    by_cases hlt : k < p.length
    · have hrd := (HR.out.below HB.out hC)
      obtain ⟨b', off', rfl, _, _, hd⟩ := hrd.at k (by rw [HRL.out]; exact hlt)
      rw [rowOf_get] at hd
      clear hrd
      cases hx : arr p n k
      · have HX := Lib.hid hx
        rw [hx] at hd
        simp only [Bool.false_eq_true, if_false] at hd
        clear hx
        go_wp2_with fail
        go_roundw
        case rel => exact ⟨k + 1, x, c, by omega, by go_num, by rw [arrL_succ, HX.out]; simp, by rw [arrL_succ, HX.out]; simpa using HO.out, HB.out⟩
        case measure => simp [intOf]; omega
      · have HX := Lib.hid hx
        rw [hx] at hd
        simp only [if_true] at hd
        clear hx
        go_wp2_with (at_builtin; go_loud (refine wpList_appI Try.underlying24 Try.infoInt _ rfl _ _ rfl w.heap.size wr.heap.size x c (arrL p n k) rfl (HO.out.agr ((Agr.refl _ _ _).alloc (Nat.le_refl _) _)) (by have := HB.out.size; simp; omega) ⟨wr.heap.size, 0, none⟩ k rfl (new_cellE _ _ _ rfl) (by omega) ?_); intro g c1 w1 hown hgrow hat hg)
        have hl : (arrL p n (k + 1)) = arrL p n k ++ [(k : Int)] := by rw [arrL_succ, HX.out]; rfl
        have HL := Lib.hid hl
        have HO1 := Lib.hid hown
        have HB1 := Lib.hid (below_app HB.out hgrow (HO.out.app_in (Nat.le_refl _)) (Nat.le_refl _) (Nat.le_refl _))
        clear hown hgrow hat hl
        go_wp2_with fail
        go_roundw
        case rel => exact ⟨k + 1, some ⟨g, 0, none⟩, c1, by omega, by go_num, by rw [HL.out]; simp, by rw [HL.out]; exact HO1.out, HB1.out⟩
        case measure => simp [intOf]; omega
    · obtain rfl : k = p.length := by omega
      go_wp2_with fail
      go_ret
      exact retI_of rfl HO.out HB.out

end Go.Proofs.Ytfjodcfbhpglhaa
namespace Go.Hyp
open Go.RowKit Go.Deep
/-- Each member of i has an equal one among those of j, over the lists of members. -/
def mtchL (p : List (List Int)) (s : Nat → Nat → Bool) (i j k : Nat) : Bool := ((arrL p i p.length).take k).all fun x => (arrL p j p.length).any fun y => s x.toNat y.toNat
theorem mtchL_all (p : List (List Int)) (s : Nat → Nat → Bool) (i j : Nat) : mtchL p s i j (arrL p i p.length).length = mtch p s i j := by
  unfold mtchL
  rw [List.take_of_length_le (Nat.le_refl _), Bool.eq_iff_iff, mtch_iff, List.all_eq_true]
  constructor
  · intro h k hk ha
    have := h k (arrL_mem.2 ⟨k, rfl, hk, ha⟩)
    rw [List.any_eq_true] at this
    obtain ⟨y, hy, e⟩ := this
    obtain ⟨j', rfl, h1, h2⟩ := arrL_mem.1 hy
    exact ⟨j', h1, h2, by simpa using e⟩
  · intro h x hx
    obtain ⟨k, rfl, h1, h2⟩ := arrL_mem.1 hx
    obtain ⟨j', e1, e2, e3⟩ := h k h1 h2
    rw [List.any_eq_true]
    exact ⟨j', arrL_mem.2 ⟨j', rfl, e1, e2⟩, by simpa using e3⟩
theorem mtchL_succ {p : List (List Int)} {s : Nat → Nat → Bool} {i j k : Nat} (h : k < (arrL p i p.length).length) : mtchL p s i j (k + 1) = (mtchL p s i j k && (arrL p j p.length).any fun y => s ((arrL p i p.length)[k]).toNat y.toNat) := by
  unfold mtchL
  rw [List.take_succ_eq_append_getElem h, List.all_append]
  simp
theorem mtchL_no {p : List (List Int)} {s : Nat → Nat → Bool} {i j k : Nat} (h : k < (arrL p i p.length).length) (hn : ((arrL p j p.length).any fun y => s ((arrL p i p.length)[k]).toNat y.toNat) = false) : mtch p s i j = false := by
  rw [← mtchL_all]
  unfold mtchL
  rw [List.take_of_length_le (Nat.le_refl _), List.all_eq_false]
  exact ⟨_, List.getElem_mem h, by rw [hn]; simp⟩
/-- The least node that draws the same set. -/
def kind (p : List (List Int)) (i : Nat) : Nat := ((List.range p.length).find? fun j => simB p i j).getD 0
theorem kind_spec {p : List (List Int)} {i : Nat} (hi : i < p.length) : kind p i < p.length ∧ simB p i (kind p i) = true ∧ kind p i ≤ i ∧ ∀ j, j < kind p i → simB p i j = false := by
  unfold kind
  cases h : (List.range p.length).find? fun j => simB p i j with
  | none =>
    rw [List.find?_eq_none] at h
    exact absurd (left_refl p p.length i) (h i (by simpa using hi))
  | some j =>
    have h1 := List.find?_some h
    have h2 := List.mem_of_find?_eq_some h
    rw [List.mem_range] at h2
    have h3 : ∀ m, m < j → simB p i m = false := by
      intro m hm
      rw [List.find?_range_eq_some] at h
      simpa using h.2.2 m hm
    refine ⟨h2, h1, ?_, h3⟩
    rcases Nat.lt_or_ge i j with e | e
    · have := h3 i e
      unfold simB at this
      rw [left_refl] at this; cases this
    · exact e
/-- The kinds of the first nodes. -/
def kindsL (p : List (List Int)) (n : Nat) : List Int := (List.range n).map fun i => ((kind p i : Nat) : Int)
theorem kindsL_len (p : List (List Int)) (n : Nat) : (kindsL p n).length = n := by simp [kindsL]
theorem kindsL_succ (p : List (List Int)) (n : Nat) : kindsL p (n + 1) = kindsL p n ++ [((kind p n : Nat) : Int)] := by simp [kindsL, List.range_succ]
theorem kindsL_get (p : List (List Int)) (n i : Nat) (h : i < (kindsL p n).length) : (kindsL p n)[i] = ((kind p i : Nat) : Int) := by simp [kindsL]
theorem kind_idx {p : List (List Int)} {k : Nat} (hk : k < p.length) : idxI (rowOf p.length (left p p.length k)) 1 = ((kind p k : Nat) : Int) := by
  obtain ⟨h1, h2, h3, h4⟩ := kind_spec hk
  have e : simB p k (kind p k) = left p p.length k (kind p k) := rfl
  refine idxI_of (by rw [rowOf_len]; exact h1) (by rw [rowOf_get, ← e, h2]; rfl) fun j hj => ?_
  rw [rowOf_get]
  have : left p p.length k j = false := h4 j hj
  rw [this]; decide
end Go.Hyp
namespace Go.Proofs.Ytfjodcfbhpglhaa
open Go.RowKit Go.Hyp Go.Deep

set_option maxHeartbeats 400000 in
theorem answered1_any (a : Option Addr) (cap n : Nat) (s : Nat → Nat → Bool) (x y bb xb : Nat) (w : World) (B C : Nat) (h : RdII w B C a (mat n n s)) (hx : x < n) (hy : y < n) (hn : n ≤ 1024)
    (hb : w.cell? ⟨bb, 0, none⟩ = some (.slice a n cap)) (hxc : w.cell? ⟨xb, 0, none⟩ = some (.int .i64 x)) :
    Calls Try.prog 69 (#[.int .i64 y] ++ #[.pointer (some ⟨bb, 0, none⟩), .pointer (some ⟨xb, 0, none⟩)]) w fun e w' => e = .returned (.bool (s x y)) ∧ Below w.heap.size w w' := by
  have hl := mat_len n n s
  obtain ⟨b, off, b', off', c', rfl, _, _, hc, _, _, hd⟩ := h.bit (mat_sq n s) x y (by omega) (by omega)
  rw [mat_arr n n s x y hx hy] at hd
  rw [hl] at hc
  have hxi : (x : Int) < (n : Int) := by omega
  have hyi : (y : Int) < (n : Int) := by omega
  clear h hl
  cases hs : s x y
  all_goals
    rw [hs] at hd
    simp only [Bool.false_eq_true, if_false, if_true] at hd
    clear hs
    go_enter Try.func69, Try.ntmps69
    go_wp2_with fail
    refine bodyPost_ret (v := .bool _) (results_tmp (t := 4) (by kernel_rfl) _ _ _) rfl ⟨rfl, Below.refl _ _⟩

set_option maxHeartbeats 400000 in
theorem answered2_any (a : Option Addr) (cap n : Nat) (s : Nat → Nat → Bool) (x y bb yb : Nat) (w : World) (B C : Nat) (h : RdII w B C a (mat n n s)) (hx : x < n) (hy : y < n) (hn : n ≤ 1024)
    (hb : w.cell? ⟨bb, 0, none⟩ = some (.slice a n cap)) (hyc : w.cell? ⟨yb, 0, none⟩ = some (.int .i64 y)) :
    Calls Try.prog 70 (#[.int .i64 x] ++ #[.pointer (some ⟨bb, 0, none⟩), .pointer (some ⟨yb, 0, none⟩)]) w fun e w' => e = .returned (.bool (s x y)) ∧ Below w.heap.size w w' := by
  have hl := mat_len n n s
  obtain ⟨b, off, b', off', c', rfl, _, _, hc, _, _, hd⟩ := h.bit (mat_sq n s) x y (by omega) (by omega)
  rw [mat_arr n n s x y hx hy] at hd
  rw [hl] at hc
  have hxi : (x : Int) < (n : Int) := by omega
  have hyi : (y : Int) < (n : Int) := by omega
  clear h hl
  cases hs : s x y
  all_goals
    rw [hs] at hd
    simp only [Bool.false_eq_true, if_false, if_true] at hd
    clear hs
    go_enter Try.func70, Try.ntmps70
    go_wp2_with fail
    go_quiet (fail)
    go_wp2_with fail
    go_ret
    exact ⟨rfl, below_drewN (Below.refl _ _) _⟩

theorem enters1 : EntersF Try.prog 69 := fun _ _ => by kernel_rfl
theorem enters2 : EntersF Try.prog 70 := fun _ _ => by kernel_rfl

set_option maxHeartbeats 800000 in
theorem answered_any (a a' : Option Addr) (cap cap' : Nat) (p : List (List Int)) (s : Nat → Nat → Bool) (i j : Nat) (w : World) (B C : Nat) (h : RdII w B C a p) (h' : RdII w B C a' (mat p.length p.length s)) (hC : C ≤ w.heap.size) (hs : Sq p) (hi : i < p.length) (hj : j < p.length) (hl : p.length ≤ 1024) :
    Calls Try.prog 66 #[.slice a p.length cap, .slice a' p.length cap', .int .i64 i, .int .i64 j] w fun e w' => e = .returned (.bool (mtch p s i j && mtch p (fun x y => s y x) j i)) ∧ Below w.heap.size w w' := by
  have F := Lib.hid h
  have F' := Lib.hid h'
  have HS := Lib.hid hs
  clear h h' hs
  have HB0 := Lib.hid (below_alloc w (.cells #[.slice a' p.length cap'] 38))
  have HX0 := Lib.hid (alloc1 w (.cells #[.slice a' p.length cap'] 38))
  have hii : (i : Int) < (p.length : Int) := by omega
  have hji : (j : Int) < (p.length : Int) := by omega
  have l1 := arrL_le p i p.length
  have l2 := arrL_le p j p.length
  go_enter Try.func66, Try.ntmps66
  go_wp2_with fail
  refine (arrowsOf_any a cap p i _ B C (F.out.below HB0.out hC) (by simp; omega) HS.out hi hl).mono ?_
  rintro e w1 ⟨x1, c1, rfl, o1, hb1⟩
  have HX1 := Lib.hid (hb1.blk HX0.out (by simp))
  have HB1 := Lib.hid (HB0.out.trans (hb1.mono (by simp)))
  have O1 := Lib.hid (o1.mono (Nat.zero_le _) (Nat.le_refl _)).rd
  have hz1 : w.heap.size < w1.heap.size := blk_lt HX1.out
  clear o1 hb1 HX0 HB0
  go_wp2_with fail
  go_loopw [8, 17] (fun r i17 wr => ∃ k : Nat, k ≤ (arrL p i p.length).length ∧ i17 = .int .i64 k ∧ r = .bool false ∧ mtchL p s i j k = true ∧ Below w1.heap.size w1 wr) (fun _ i17 _ => (arrL p i p.length).length - (intOf i17).toNat)
  case atStart => exact ⟨0, Nat.zero_le _, rfl, rfl, by simp [mtchL], Below.refl _ _⟩
  case round =>
    obtain ⟨k, hk, rfl, rfl, hm, hb⟩ := hrel
    have HM := Lib.hid hm
    have HB := Lib.hid hb
    have HBW := Lib.hid (HB1.out.trans (hb.mono (by omega)))
    have HZ : Hid (w1.heap.size ≤ wr.heap.size) := Lib.hid hb.size
    clear hm hb
    by_cases hlt : k < (arrL p i p.length).length
    · obtain ⟨b1, off1, rfl, _, hb1C, hd1⟩ := (O1.out.below HB.out (Nat.le_refl _)).at k hlt
      obtain ⟨x, hx, hxn, hxa⟩ := arrL_at hlt
      rw [hx] at hd1
      have HXX := Lib.hid hx
      have hb1w : b1 < wr.heap.size := by have := HZ.out; omega
      have HBX := Lib.hid (HBW.out.alloc HBW.out.size (.cells #[.int .i64 x] 3))
      have HCX := Lib.hid (alloc1 wr (.cells #[.int .i64 x] 3))
      clear hx
      go_wp2_with fail
      refine (arrowsOf_any a cap p j _ B C (F.out.below HBX.out hC) (Nat.le_trans hC HBX.out.size) HS.out hj hl).mono ?_
      rintro e w2 ⟨x2, c2, rfl, o2, hb2⟩
      have HB2 := Lib.hid (HBX.out.trans (hb2.mono HBX.out.size))
      have HBB := Lib.hid ((HB.out.alloc HZ.out (.cells #[.int .i64 x] 3)).trans (hb2.mono (by have := HZ.out; simp; omega)))
      have HXC := Lib.hid (hb2.blk HCX.out (by simp))
      have HLC := Lib.hid (hb2.blk (blk_old (HB.out.blk HX1.out hz1)) (by have := HZ.out; simp; omega))
      have O2 := Lib.hid o2.rd
      have HZ2 := Lib.hid hb2.size
      have HF : Hid (TellsF Try.prog 69 #[.pointer (some ⟨w.heap.size, 0, none⟩), .pointer (some ⟨wr.heap.size, 0, none⟩)] (fun y => s ((arrL p i p.length)[k]).toNat y.toNat) (arrL p j p.length) w2) := Lib.hid fun y hy w3 hb3 => by
        obtain ⟨y', rfl, hy1, hy2⟩ := arrL_mem.1 hy
        have e1 := (blk1 (hb3.blk HXC.out (blk_lt HXC.out))).1
        have e2 := (blk1 (hb3.blk HLC.out (blk_lt HLC.out))).1
        have := answered1_any a' cap' p.length s x y' w.heap.size wr.heap.size w3 B C (F'.out.below (HB2.out.trans (hb3.mono HB2.out.size)) hC) hxn hy1 hl e2 e1
        rw [HXX.out]
        simpa using this
      clear o2 hb2 HBX HCX
      have hany : ((arrL p j p.length).any fun y => s ((arrL p i p.length)[k]).toNat y.toNat) = true ∨ ((arrL p j p.length).any fun y => s ((arrL p i p.length)[k]).toNat y.toNat) = false := by cases ((arrL p j p.length).any fun y => s ((arrL p i p.length)[k]).toNat y.toNat) <;> simp
      rcases hany with hany | hany
      · have HA := Lib.hid hany
        clear hany
        go_wp2_with fail
        refine (containsFunc_any x2 c2 (arrL p j p.length) _ _ _ w2 _ _ enters1 O2.out (Nat.le_refl _) (by omega) HF.out).mono ?_
        rintro e w3 ⟨rfl, hb3⟩
        rw [HA.out]
        have HBR := Lib.hid (HBB.out.trans (hb3.mono HBB.out.size))
        clear hb3
        go_wp2_with fail
        go_roundw
        case rel => exact ⟨k + 1, by omega, by go_num, rfl, by rw [mtchL_succ hlt, HM.out, HA.out]; rfl, HBR.out⟩
        case measure => simp [intOf]; omega
      · have HA := Lib.hid hany
        clear hany
        go_wp2_with fail
        refine (containsFunc_any x2 c2 (arrL p j p.length) _ _ _ w2 _ _ enters1 O2.out (Nat.le_refl _) (by omega) HF.out).mono ?_
        rintro e w3 ⟨rfl, hb3⟩
        rw [HA.out]
        have HBR := Lib.hid (HB2.out.trans (hb3.mono HB2.out.size))
        clear hb3
        go_wp2_with fail
        go_ret
        exact ⟨ret_bool (by rw [ mtchL_no hlt HA.out]; simp), HBR.out⟩
    · obtain rfl : k = (arrL p i p.length).length := by omega
      have HMo := Lib.hid ((mtchL_all p s i j).symm.trans HM.out)
      go_wp2_with fail
      refine (arrowsOf_any a cap p j _ B C (F.out.below HBW.out hC) (Nat.le_trans hC HBW.out.size) HS.out hj hl).mono ?_
      rintro e wo ⟨x3, c3, rfl, o3, hb3⟩
      have HBW1 := Lib.hid (HBW.out.trans (hb3.mono HBW.out.size))
      have HXo := Lib.hid (hb3.blk (HB.out.blk HX1.out hz1) (by have := HZ.out; omega))
      have O3 := Lib.hid (o3.mono (Nat.zero_le _) (Nat.le_refl _)).rd
      have hzo : w.heap.size < wo.heap.size := blk_lt HXo.out
      clear o3 hb3 HB HBW HZ HM O1 HX1 HB1 hz1
      go_wp2_with fail
      go_loopw [8, 32] (fun r i17 wr => ∃ k : Nat, k ≤ (arrL p j p.length).length ∧ i17 = .int .i64 k ∧ r = .bool false ∧ mtchL p (fun x y => s y x) j i k = true ∧ Below wo.heap.size wo wr) (fun _ i17 _ => (arrL p j p.length).length - (intOf i17).toNat)
      case atStart => exact ⟨0, Nat.zero_le _, rfl, rfl, by simp [mtchL], Below.refl _ _⟩
      case round =>
        obtain ⟨k, hk, rfl, rfl, hm, hb⟩ := hrel
        have HM := Lib.hid hm
        have HB := Lib.hid hb
        have HBW := Lib.hid (HBW1.out.trans (hb.mono (by omega)))
        have HZ : Hid (wo.heap.size ≤ wr.heap.size) := Lib.hid hb.size
        clear hm hb
        by_cases hlt : k < (arrL p j p.length).length
        · obtain ⟨b1, off1, rfl, _, hb1C, hd1⟩ := (O3.out.below HB.out (Nat.le_refl _)).at k hlt
          obtain ⟨x, hx, hxn, hxa⟩ := arrL_at hlt
          rw [hx] at hd1
          have HXX := Lib.hid hx
          have hb1w : b1 < wr.heap.size := by have := HZ.out; omega
          have HBX := Lib.hid (HBW.out.alloc HBW.out.size (.cells #[.int .i64 x] 3))
          have HCX := Lib.hid (alloc1 wr (.cells #[.int .i64 x] 3))
          clear hx
          go_wp2_with fail
          refine (arrowsOf_any a cap p i _ B C (F.out.below HBX.out hC) (Nat.le_trans hC HBX.out.size) HS.out hi hl).mono ?_
          rintro e w2 ⟨x2, c2, rfl, o2, hb2⟩
          have HB2 := Lib.hid (HBX.out.trans (hb2.mono HBX.out.size))
          have HBB := Lib.hid ((HB.out.alloc HZ.out (.cells #[.int .i64 x] 3)).trans (hb2.mono (by have := HZ.out; simp; omega)))
          have HXC := Lib.hid (hb2.blk HCX.out (by simp))
          have HLC := Lib.hid (hb2.blk (blk_old (HB.out.blk HXo.out hzo)) (by have := HZ.out; simp; omega))
          have O2 := Lib.hid o2.rd
          have HZ2 := Lib.hid hb2.size
          have HF : Hid (TellsF Try.prog 70 #[.pointer (some ⟨w.heap.size, 0, none⟩), .pointer (some ⟨wr.heap.size, 0, none⟩)] (fun y => (fun x y => s y x) ((arrL p j p.length)[k]).toNat y.toNat) (arrL p i p.length) w2) := Lib.hid fun y hy w3 hb3 => by
            obtain ⟨y', rfl, hy1, hy2⟩ := arrL_mem.1 hy
            have e1 := (blk1 (hb3.blk HXC.out (blk_lt HXC.out))).1
            have e2 := (blk1 (hb3.blk HLC.out (blk_lt HLC.out))).1
            have := answered2_any a' cap' p.length s y' x w.heap.size wr.heap.size w3 B C (F'.out.below (HB2.out.trans (hb3.mono HB2.out.size)) hC) hy1 hxn hl e2 e1
            rw [HXX.out]
            simpa using this
          clear o2 hb2 HBX HCX
          have hany : ((arrL p i p.length).any fun y => (fun x y => s y x) ((arrL p j p.length)[k]).toNat y.toNat) = true ∨ ((arrL p i p.length).any fun y => (fun x y => s y x) ((arrL p j p.length)[k]).toNat y.toNat) = false := by cases ((arrL p i p.length).any fun y => (fun x y => s y x) ((arrL p j p.length)[k]).toNat y.toNat) <;> simp
          rcases hany with hany | hany
          · have HA := Lib.hid hany
            clear hany
            go_wp2_with fail
            refine (containsFunc_any x2 c2 (arrL p i p.length) _ _ _ w2 _ _ enters2 O2.out (Nat.le_refl _) (by omega) HF.out).mono ?_
            rintro e w3 ⟨rfl, hb3⟩
            rw [HA.out]
            have HBR := Lib.hid (HBB.out.trans (hb3.mono HBB.out.size))
            clear hb3
            go_wp2_with fail
            go_roundw
            case rel => exact ⟨k + 1, by omega, by go_num, rfl, by rw [mtchL_succ hlt, HM.out, HA.out]; rfl, HBR.out⟩
            case measure => simp [intOf]; omega
          · have HA := Lib.hid hany
            clear hany
            go_wp2_with fail
            refine (containsFunc_any x2 c2 (arrL p i p.length) _ _ _ w2 _ _ enters2 O2.out (Nat.le_refl _) (by omega) HF.out).mono ?_
            rintro e w3 ⟨rfl, hb3⟩
            rw [HA.out]
            have HBR := Lib.hid (HB2.out.trans (hb3.mono HB2.out.size))
            clear hb3
            go_wp2_with fail
            go_ret
            exact ⟨ret_bool (by rw [ mtchL_no hlt HA.out]; simp), HBR.out⟩
        · obtain rfl : k = (arrL p j p.length).length := by omega
          go_wp2_with fail
          go_ret
          exact ⟨ret_bool (by rw [HMo.out, ← mtchL_all p (fun x y => s y x) j i, HM.out]; rfl), HBW.out⟩

set_option maxHeartbeats 1000000 in
theorem leftAfter_any (a : Option Addr) (cap : Nat) (p : List (List Int)) (r : Nat) (w : World) (B C : Nat) (h : RdII w B C a p) (hC : C ≤ w.heap.size) (hs : Sq p) (hl : p.length ≤ 1024) (hr : r ≤ 1024) :
    Calls Try.prog 60 #[.slice a p.length cap, .int .i64 r] w (RetM 3 24 p.length p.length (left p r) w) := by
  have F := Lib.hid (h.mono (Nat.zero_le _) (Nat.le_refl _))
  have HS := Lib.hid hs
  clear h hs
  obtain ⟨n, hn⟩ : ∃ n, n = p.length := ⟨_, rfl⟩
  have HN := Lib.hid hn
  rw [← hn] at hl ⊢
  clear hn
  go_enter Try.func60, Try.ntmps60
  go_wp2_with fail
  refine (emptyPicture_any n w hl).mono ?_
  intro e w1 hret
  obtain ⟨a5, c5, rfl, ho1, hb1⟩ := hret.toM
  have O1 := Lib.hid ho1
  have HB1 := Lib.hid hb1
  clear ho1 hb1 hret
  go_wp2_with fail
  go_loopw [17] (fun i wr => ∃ k : Nat, k ≤ n ∧ i = .int .i64 k ∧ OwII wr 3 24 w.heap.size wr.heap.size a5 c5 (mat n n (upB k 0 fun _ _ => true)) ∧ Below w.heap.size w wr) (fun i _ => n - (intOf i).toNat)
  case atStart => exact ⟨0, Nat.zero_le _, rfl, O1.out.matCongr (fun x y _ _ => (upB_start x y).symm), HB1.out⟩
  case round =>
    obtain ⟨k, hk, rfl, ho, hb⟩ := hrel
    have HO := Lib.hid ho
    have HB := Lib.hid hb
    clear ho hb O1 HB1
    by_cases hlt : k < n
    · obtain ⟨g, r0, ci, rfl, _, _, hgl, hhead, _, _, _, _, _, _, _⟩ := HO.out.bitAt k 0 hlt (by omega)
      go_wp2_with fail
      obtain ⟨wo, rfl⟩ : ∃ wo : World, wo = wr := ⟨_, rfl⟩
      go_loopw [23] (fun i wr => ∃ j : Nat, j ≤ n ∧ i = .int .i64 j ∧ OwII wr 3 24 w.heap.size wr.heap.size (some ⟨g, 0, none⟩) c5 (mat n n (upB k j fun _ _ => true)) ∧ wr.cell? ⟨g, k, none⟩ = some (.slice (some ⟨r0, 0, none⟩) n ci) ∧ Below w.heap.size w wr) (fun i _ => n - (intOf i).toNat)
      case atStart => exact ⟨0, Nat.zero_le _, rfl, HO.out, hhead, HB.out⟩
      case round =>
        obtain ⟨j, hj, rfl, ho, hh, hb⟩ := hrel
        have HO1 := Lib.hid ho
        have HH1 := Lib.hid hh
        have HB1 := Lib.hid hb
        clear ho hh hb
        by_cases hlt' : j < n
        · obtain ⟨q1, q2, _, _, hr0, _, _, hrl, _, q3, q4⟩ := HO1.out.bitHead k j hlt hlt' HH1.out
          have hji : (j : Int) < (n : Int) := by omega
          have Q3 := Lib.hid q3
          have Q4 := Lib.hid (q4 true (upB k (j + 1) fun _ _ => true) (fun x y _ _ => upB_step x y))
          clear q3 q4 hhead
          go_wp2_with fail
          go_roundw
          case rel => exact ⟨j + 1, by omega, by go_num, by simpa using Q4.out, Q3.out _, HB1.out.setCell hr0 _⟩
          case measure => simp [intOf]; omega
        · obtain rfl : j = n := by omega
          clear hhead
          go_wp2_with fail
          go_roundw
          case rel => exact ⟨k + 1, by omega, by go_num, HO1.out.matCongr (fun x y _ hy => upB_row x y hy), HB1.out⟩
          case measure => simp [intOf]; omega
    · obtain rfl : k = n := by omega
      have O2 := Lib.hid (HO.out.matCongr (g := left p 0) (fun x y hx _ => upB_end x y hx))
      clear HO
      obtain ⟨w2, rfl⟩ : ∃ w2 : World, w2 = wr := ⟨_, rfl⟩
      go_wp2_with fail
      go_loopw [5, 32] (fun l i wr => ∃ (m : Nat) (x : Option Addr) (c : Nat), m ≤ r ∧ i = .int .i64 m ∧ l = .slice x k c ∧ OwII wr 3 24 w.heap.size wr.heap.size x c (mat k k (left p m)) ∧ Below w.heap.size w wr) (fun _ i _ => r - (intOf i).toNat)
      case atStart => exact ⟨0, a5, c5, Nat.zero_le _, rfl, rfl, O2.out, HB.out⟩
      case round =>
        obtain ⟨m, x5, c5', hm, rfl, rfl, ho, hb⟩ := hrel
        have HO3 := Lib.hid (ho.rd.mono (Nat.zero_le _) (Nat.le_refl _))
        have HOX := Lib.hid ho
        have HB3 := Lib.hid hb
        clear ho hb O2 HB
        by_cases hlt2 : m < r
        · obtain ⟨w3, rfl⟩ : ∃ w3 : World, w3 = wr := ⟨_, rfl⟩
          go_wp2_with fail
          refine (emptyPicture_any k w3 hl).mono ?_
          intro e w4 hret
          obtain ⟨a9, c9, rfl, ho4, hb4⟩ := hret.toM
          have O4 := Lib.hid ho4
          have HB4 := Lib.hid hb4
          clear ho4 hb4 hret
          go_wp2_with fail
          go_loopw [39] (fun i wr => ∃ ia : Nat, ia ≤ k ∧ i = .int .i64 ia ∧ OwII wr 3 24 w3.heap.size wr.heap.size a9 c9 (mat k k (upB ia 0 (left p (m + 1)))) ∧ Below w3.heap.size w3 wr) (fun i _ => k - (intOf i).toNat)
          case atStart => exact ⟨0, Nat.zero_le _, rfl, O4.out.matCongr (fun x y _ _ => (upB_start x y).symm), HB4.out⟩
          case round =>
            obtain ⟨ia, hia, rfl, ho, hb⟩ := hrel
            have HO5 := Lib.hid ho
            have HB5 := Lib.hid hb
            clear ho hb O4 HB4
            by_cases hlt3 : ia < k
            · obtain ⟨w5, rfl⟩ : ∃ w5 : World, w5 = wr := ⟨_, rfl⟩
              go_wp2_with fail
              go_loopw [44] (fun i wr => ∃ ib : Nat, ib ≤ k ∧ i = .int .i64 ib ∧ OwII wr 3 24 w3.heap.size wr.heap.size a9 c9 (mat k k (upB ia ib (left p (m + 1)))) ∧ Below w3.heap.size w3 wr) (fun i _ => k - (intOf i).toNat)
              case atStart => exact ⟨0, Nat.zero_le _, rfl, HO5.out, HB5.out⟩
              case round =>
                obtain ⟨ib, hib, rfl, ho, hb⟩ := hrel
                have HO6 := Lib.hid ho
                have HB6 := Lib.hid hb
                clear ho hb HO5 HB5
                by_cases hlt4 : ib < k
                · have hLB := Lib.hid (HO3.out.below HB6.out (Nat.le_refl _))
                  have hml := mat_len k k (left p m)
                  obtain ⟨b1, f1, b2, f2, cc, rfl, _, hb1C, hc1, _, hb2C, hd1⟩ := hLB.out.bit (mat_sq k _) ia ib (by omega) (by omega)
                  rw [mat_arr _ _ _ _ _ hlt3 hlt4] at hd1
                  rw [hml] at hc1
                  have hZ6 := HB6.out.size
                  clear hml
                  have hia' : (ia : Int) < (k : Int) := by omega
                  have hib' : (ib : Int) < (k : Int) := by omega
                  have hsucc : left p (m + 1) ia ib = (left p m ia ib && (mtch p (left p m) ia ib && mtch p (fun x y => left p m y x) ib ia)) := by
                    have e : (fun x y => left p m y x) = left p m := by funext x y; exact left_symm _ _ _ _
                    rw [e, ← Bool.and_assoc]; rfl
                  have HSU := Lib.hid hsucc
                  clear hsucc
                  cases hx : left p m ia ib
                  · have HX : Hid (left p (m + 1) ia ib = false) := Lib.hid (by rw [HSU.out, hx]; rfl)
                    rw [hx] at hd1
                    simp only [Bool.false_eq_true, if_false] at hd1
                    clear hx
                    go_wp2_with fail
                    go_roundw
                    case rel => exact ⟨ib + 1, by omega, by go_num, HO6.out.matCongr (fun x y _ _ => upB_stay x y HX.out), HB6.out⟩
                    case measure => simp [intOf]; omega
                  · rw [hx] at hd1
                    simp only [if_true] at hd1
                    have HX := Lib.hid hx
                    clear hx
                    cases hq : (mtch p (left p m) ia ib && mtch p (fun x y => left p m y x) ib ia)
                    all_goals
                      have HQ := Lib.hid hq
                      clear hq
                      have HCALL := Lib.hid (answered_any a _ cap c5' p (left p m) ia ib wr 0 w3.heap.size ((F.out.below (HB3.out.trans (HB6.out.mono HB3.out.size)) hC).mono (Nat.le_refl _) (by have := HB3.out.size; omega)) (HN.out ▸ hLB.out) hZ6 HS.out (HN.out ▸ hlt3) (HN.out ▸ hlt4) (HN.out ▸ hl))
                      rw [← HN.out] at HCALL
                    · go_wp2_with fail
                      refine HCALL.out.mono ?_
                      rintro e w7 ⟨rfl, hb7⟩
                      rw [HQ.out]
                      have HB7 := Lib.hid (HB6.out.trans (hb7.mono hZ6))
                      have HO7 := Lib.hid (HO6.out.below hb7 (Nat.le_refl _))
                      have HZ7 := Lib.hid hb7.size
                      clear hb7
                      go_wp2_with fail
                      go_roundw
                      case rel => exact ⟨ib + 1, by omega, by go_num, (HO7.out.mono (Nat.le_refl _) HZ7.out).matCongr (fun x y _ _ => upB_stay x y (by rw [HSU.out, HX.out, HQ.out]; rfl)), HB7.out⟩
                      case measure => simp [intOf]; omega
                    · go_wp2_with fail
                      refine HCALL.out.mono ?_
                      rintro e w7 ⟨rfl, hb7⟩
                      rw [HQ.out]
                      have HB7 := Lib.hid (HB6.out.trans (hb7.mono hZ6))
                      have HZ7 := Lib.hid hb7.size
                      obtain ⟨g9, r9, c9', rfl, _, _, hg9, hh9, _, _, hr9, q1, q2, q3, q4⟩ := (HO6.out.below hb7 (Nat.le_refl _)).bitAt ia ib hlt3 hlt4
                      have hr9b : w3.heap.size ≤ r9 := by assumption
                      have Q4 := Lib.hid (q4 true (upB ia (ib + 1) (left p (m + 1))) (fun x y _ _ => by rw [upB_step, show left p (m + 1) ia ib = true by rw [HSU.out, HX.out, HQ.out]; rfl]))
                      clear hb7 q4 hc1 hd1
                      go_wp2_with fail
                      go_roundw
                      case rel => exact ⟨ib + 1, by omega, by go_num, by have := Q4.out.mono (Nat.le_refl _) HZ7.out; simpa using this, HB7.out.setCell hr9b _⟩
                      case measure => simp [intOf]; omega
                · obtain rfl : ib = k := by omega
                  go_wp2_with fail
                  go_roundw
                  case rel => exact ⟨ia + 1, by omega, by go_num, HO6.out.matCongr (fun x y _ hy => upB_row x y hy), HB6.out⟩
                  case measure => simp [intOf]; omega
            · obtain rfl : ia = k := by omega
              go_wp2_with fail
              go_roundw
              case rel => exact ⟨m + 1, a9, c9, by omega, by go_num, rfl, (HO5.out.matCongr (fun x y hx _ => upB_end x y hx)).mono HB3.out.size (Nat.le_refl _), HB3.out.trans (HB5.out.mono HB3.out.size)⟩
              case measure => simp [intOf]; omega
        · obtain rfl : m = r := by omega
          go_wp2_with fail
          go_ret
          exact retM_of HOX.out HB3.out (fun _ _ _ _ => rfl)

end Go.Proofs.Ytfjodcfbhpglhaa
namespace Go.Hyp
open Go.RowKit Go.Deep
/-- Among the first m nodes there is one to which b has an arrow, and which is told equal to k. -/
def fndB (p : List (List Int)) (s : Nat → Nat → Bool) (b k m : Nat) : Bool := (List.range m).any fun j => arr p b j && s k j
theorem fndB_succ (p : List (List Int)) (s : Nat → Nat → Bool) (b k m : Nat) : fndB p s b k (m + 1) = (fndB p s b k m || (arr p b m && s k m)) := by
  unfold fndB; rw [List.range_succ, List.any_append]; simp
/-- The first m members of a have an equal one each. -/
def mtchN (p : List (List Int)) (s : Nat → Nat → Bool) (a b m : Nat) : Bool := (List.range m).all fun k => !arr p a k || fndB p s b k p.length
theorem mtchN_succ (p : List (List Int)) (s : Nat → Nat → Bool) (a b m : Nat) : mtchN p s a b (m + 1) = (mtchN p s a b m && (!arr p a m || fndB p s b m p.length)) := by
  unfold mtchN; rw [List.range_succ, List.all_append]; simp
theorem mtchN_all (p : List (List Int)) (s : Nat → Nat → Bool) (a b : Nat) : mtchN p s a b p.length = mtch p s a b := rfl
theorem mtchN_no {p : List (List Int)} {s : Nat → Nat → Bool} {a b k : Nat} (hk : k < p.length) (h1 : arr p a k = true) (h2 : fndB p s b k p.length = false) : mtch p s a b = false := by
  cases h : mtch p s a b
  · rfl
  · obtain ⟨j, hj, e1, e2⟩ := mtch_iff.1 h k hk h1
    have : fndB p s b k p.length = true := by
      unfold fndB
      rw [List.any_eq_true]
      exact ⟨j, by simpa using hj, by rw [e1, e2]; rfl⟩
    rw [h2] at this; cases this
/-- The rows that LeftAfter answers. -/
def leftR (p : List (List Int)) (r : Int) : List (List Int) := if (picB p && (decide (0 ≤ r) && decide (r ≤ 30))) = true then mat p.length p.length (left p r.toNat) else []
theorem left_round (p : List (List Int)) (m x y : Nat) : left p (m + 1) x y = (left p m x y && mtch p (left p m) x y && mtch p (left p m) y x) := rfl
end Go.Hyp
namespace Go.Proofs.Ytfjodcfbhpglhaa
open Go.RowKit Go.Hyp Go.Deep

set_option maxHeartbeats 400000 in
theorem l3Start_any (n : Nat) (w : World) (hn : n ≤ 1024) : Calls Try.prog 73 #[.int .i64 n] w (RetM 3 24 n n (fun _ _ => true) w) := by
  go_enter Try.func73, Try.ntmps73
  go_wp2_with fail
  go_loopw [3, 4] (fun o i wr => ∃ (k : Nat) (x : Option Addr) (c : Nat) (P : List (List Int)), k ≤ n ∧ i = .int .i64 k ∧ P = (mat n n fun _ _ => true).take k ∧ o = .slice x P.length c ∧ OwII wr 3 24 w.heap.size wr.heap.size x c P ∧ Below w.heap.size w wr) (fun _ i _ => n - (intOf i).toNat)
  case atStart => exact ⟨0, _, 0, [], Nat.zero_le _, rfl, by simp, rfl, (OwII_empty w 3 24).mono (Nat.le_refl _) (by simp), below_alloc _ _⟩
  case round =>
    obtain ⟨k, x, c, P, hk, rfl, hp, rfl, ho, hb⟩ := hrel
    have hpl : P.length ≤ n := by rw [hp, List.length_take]; omega
    have HP := Lib.hid hp
    have HO := Lib.hid ho
    have HB := Lib.hid hb
    clear hp ho hb
    obtain ⟨w2, rfl⟩ : ∃ w2 : World, w2 = wr := ⟨_, rfl⟩
    by_cases hlt : k < n
    · go_wp2_with fail
      go_loopw [5, 6] (fun o i wr => ∃ (j : Nat) (y : Option Addr) (d : Nat) (L : List Int), j ≤ n ∧ i = .int .i64 j ∧ L = (rowOf n fun _ => true).take j ∧ o = .slice y L.length d ∧ OwI wr 3 w2.heap.size wr.heap.size y d L ∧ Below w2.heap.size w2 wr) (fun _ i _ => n - (intOf i).toNat)
      case atStart => exact ⟨0, _, 0, [], Nat.zero_le _, rfl, by simp, rfl, (OwI_empty w2 3).mono (Nat.le_refl _) (by simp), below_alloc _ _⟩
      case round =>
        obtain ⟨j, y, d, L, hj, rfl, hp, rfl, ho, hb⟩ := hrel
        have hll : L.length ≤ n := by rw [hp, List.length_take]; omega
        have HL := Lib.hid hp
        have HR := Lib.hid ho
        have HB2 := Lib.hid hb
        clear hp ho hb
        by_cases hlt' : j < n
        · go_wp2_with (at_builtin; go_loud (refine wpList_appI Try.underlying24 Try.infoInt _ rfl _ _ rfl w2.heap.size wr.heap.size y d L rfl (HR.out.agr ((Agr.refl _ _ _).alloc (Nat.le_refl _) _)) (by have := HB2.out.size; simp; omega) ⟨wr.heap.size, 0, none⟩ 1 rfl (new_cellE _ _ _ rfl) (by omega) ?_); intro g c1 w3 hown hgrow hat hg)
          have HO1 := Lib.hid hown
          have HB3 := Lib.hid (below_app HB2.out hgrow (HR.out.app_in (Nat.le_refl _)) (Nat.le_refl _) (Nat.le_refl _))
          clear hown hgrow hat
          go_wp2_with fail
          go_roundw
          case rel => exact ⟨j + 1, some ⟨g, 0, none⟩, c1, L ++ [1], by omega, by go_num, by rw [HL.out, rowOf_take _ _ _ hlt']; rfl, by simp, HO1.out, HB3.out⟩
          case measure => simp [intOf]; omega
        · obtain rfl : j = n := by omega
          go_wp2_with (at_builtin; go_loud (refine wpList_appII Try.underlying38 Try.infoRow _ rfl _ _ rfl w.heap.size w2.heap.size x c P rfl ((HO.out.below HB2.out (Nat.le_refl _)).agr ((Agr.refl _ _ _).alloc HB2.out.size _)) (by have := HB2.out.size; have := HB.out.size; simp; omega) (by have := HB2.out.size; simp; omega) ⟨wr.heap.size, 0, none⟩ y d L rfl (new_cellE _ _ _ rfl) w2.heap.size wr.heap.size (HR.out.agr ((Agr.refl _ _ _).alloc (Nat.le_refl _) _)) (Nat.le_refl _) HB.out.size (by simp) (by omega) ?_); intro a1 c1 w3 hown hgrow hat)
          have HO1 := Lib.hid hown
          have HB3 := Lib.hid (below_app (HB.out.trans (HB2.out.mono HB.out.size)) hgrow (HO.out.app_in (Nat.le_refl _)) (Nat.le_refl _) (Nat.le_refl _))
          have HRO : Hid (L = rowOf j fun _ => true) := Lib.hid (by rw [HL.out, rowOf_all])
          clear hown hgrow hat
          go_wp2_with fail
          go_roundw
          case rel => exact ⟨k + 1, a1, c1, P ++ [L], by omega, by go_num, by rw [HP.out, HRO.out, mat_take _ _ _ _ hlt], by simp, HO1.out, HB3.out⟩
          case measure => simp [intOf]; omega
    · obtain rfl : k = n := by omega
      have HE : Hid (P = mat k k fun _ _ => true) := Lib.hid (by rw [HP.out, mat_all])
      have HLN : Hid (P.length = k) := Lib.hid (by rw [HE.out, mat_len])
      go_wp2_with fail
      go_ret
      exact ⟨x, c, by rw [HLN.out]; rfl, HE.out ▸ HO.out, HB.out⟩

set_option maxHeartbeats 800000 in
theorem l3Matched_any (a a' : Option Addr) (cap cap' : Nat) (p : List (List Int)) (s : Nat → Nat → Bool) (i j : Nat) (w : World) (B C B' C' : Nat) (h : RdII w B C a p) (h' : RdII w B' C' a' (mat p.length p.length s)) (hs : Sq p) (hi : i < p.length) (hj : j < p.length) (hl : p.length ≤ 1024) :
    Calls Try.prog 75 #[.slice a p.length cap, .slice a' p.length cap', .int .i64 i, .int .i64 j] w fun e w' => e = .returned (.bool (mtch p s i j)) ∧ w = w' := by
  have F := Lib.hid h
  have F' := Lib.hid h'
  have HS := Lib.hid hs
  clear h h' hs
  have hii : (i : Int) < (p.length : Int) := by omega
  have hji : (j : Int) < (p.length : Int) := by omega
  go_enter Try.func75, Try.ntmps75
  go_wp2_with fail
  go_loop [8, 9] (fun r c => ∃ k : Nat, k ≤ p.length ∧ c = .int .i64 k ∧ r = .bool false ∧ mtchN p s i j k = true) (fun _ c => p.length - (intOf c).toNat)
  case atStart => exact ⟨0, Nat.zero_le _, rfl, rfl, by simp [mtchN]⟩
  case round =>
    obtain ⟨k, hk, rfl, rfl, hm⟩ := hrel
    have HM := Lib.hid hm
    clear hm
    by_cases hlt : k < p.length
    · obtain ⟨b, off, b', off', c', ea, _, _, hc, _, _, hd⟩ := F.out.bit HS.out i k hi hlt
      have hki : (k : Int) < (p.length : Int) := by omega
      cases hx : arr p i k
      · have HX := Lib.hid hx
        rw [hx] at hd
        simp only [Bool.false_eq_true, if_false] at hd
        subst ea
        clear hx
        go_wp2_with fail
        go_round
        case rel => exact ⟨k + 1, by omega, by go_num, rfl, by rw [mtchN_succ, HM.out, HX.out]; rfl⟩
        case measure => simp [intOf]; omega
      · have HX := Lib.hid hx
        rw [hx] at hd
        simp only [if_true] at hd
        subst ea
        clear hx
        go_wp2_with fail
        go_loop [10, 11] (fun f c => ∃ (m : Nat) (fb : Bool), m ≤ p.length ∧ c = .int .i64 m ∧ f = .bool fb ∧ fb = fndB p s j k m) (fun _ c => p.length - (intOf c).toNat)
        case atStart => exact ⟨0, false, Nat.zero_le _, rfl, rfl, by simp [fndB]⟩
        case round =>
          obtain ⟨m, fb, hm, rfl, rfl, hf⟩ := hrel
          have HF := Lib.hid hf
          clear hf
          by_cases hlt' : m < p.length
          · have hmi : (m : Int) < (p.length : Int) := by omega
            cases fb
            · obtain ⟨b1, off1, b1', off1', c1', ea, _, _, hc1, _, _, hd1⟩ := F.out.bit HS.out j m hj hlt'
              cases ea
              cases hy : arr p j m
              · have HY := Lib.hid hy
                rw [hy] at hd1
                simp only [Bool.false_eq_true, if_false] at hd1
                clear hy
                go_wp2_with fail
                go_round
                case rel => exact ⟨m + 1, false, by omega, by go_num, rfl, by rw [fndB_succ, ← HF.out, HY.out]; rfl⟩
                case measure => simp [intOf]; omega
              · have HY := Lib.hid hy
                rw [hy] at hd1
                simp only [if_true] at hd1
                clear hy
                obtain ⟨b2, off2, b2', off2', c2', ea, _, _, hc2, _, _, hd2⟩ := F'.out.bit (mat_sq _ _) k m (by rw [mat_len]; exact hlt) (by rw [mat_len]; exact hlt')
                rw [mat_len] at hc2
                rw [mat_arr _ _ _ _ _ hlt hlt'] at hd2
                cases hz : s k m
                · have HZ := Lib.hid hz
                  rw [hz] at hd2
                  simp only [Bool.false_eq_true, if_false] at hd2
                  subst ea
                  clear hz
                  go_wp2_with fail
                  go_round
                  case rel => exact ⟨m + 1, false, by omega, by go_num, rfl, by rw [fndB_succ, ← HF.out, HY.out, HZ.out]; rfl⟩
                  case measure => simp [intOf]; omega
                · have HZ := Lib.hid hz
                  rw [hz] at hd2
                  simp only [if_true] at hd2
                  subst ea
                  clear hz
                  go_wp2_with fail
                  go_round
                  case rel => exact ⟨m + 1, true, by omega, by go_num, rfl, by rw [fndB_succ, ← HF.out, HY.out, HZ.out]; rfl⟩
                  case measure => simp [intOf]; omega
            · go_wp2_with fail
              go_round
              case rel => exact ⟨m + 1, true, by omega, by go_num, rfl, by rw [fndB_succ, ← HF.out]; rfl⟩
              case measure => simp [intOf]; omega
          · obtain rfl : m = p.length := by omega
            cases fb
            · go_wp2_with fail
              go_ret
              exact ⟨ret_bool (by rw [mtchN_no hlt HX.out HF.out.symm]), rfl⟩
            · go_wp2_with fail
              go_round
              case rel => exact ⟨k + 1, by omega, by go_num, rfl, by rw [mtchN_succ, HM.out, HX.out, ← HF.out]; rfl⟩
              case measure => simp [intOf]; omega
    · obtain rfl : k = p.length := by omega
      go_wp2_with fail
      go_ret
      exact ⟨ret_bool (by rw [← mtchN_all, HM.out]), rfl⟩

set_option maxHeartbeats 1000000 in
theorem l3Round_any (a a' : Option Addr) (cap cap' : Nat) (p : List (List Int)) (s : Nat → Nat → Bool) (w : World) (B C B' C' : Nat) (h : RdII w B C a p) (h' : RdII w B' C' a' (mat p.length p.length s)) (hC : C ≤ w.heap.size) (hC' : C' ≤ w.heap.size) (hs : Sq p) (hl : p.length ≤ 1024) :
    Calls Try.prog 74 #[.slice a p.length cap, .slice a' p.length cap'] w (RetM 3 24 p.length p.length (fun x y => s x y && mtch p s x y && mtch p s y x) w) := by
  have F := Lib.hid h
  have F' := Lib.hid h'
  have HS := Lib.hid hs
  clear h h' hs
  go_enter Try.func74, Try.ntmps74
  go_wp2_with fail
  go_loopw [5, 6] (fun o i wr => ∃ (k : Nat) (x : Option Addr) (c : Nat) (P : List (List Int)), k ≤ p.length ∧ i = .int .i64 k ∧ P = (mat p.length p.length (fun x y => s x y && mtch p s x y && mtch p s y x)).take k ∧ o = .slice x P.length c ∧ OwII wr 3 24 w.heap.size wr.heap.size x c P ∧ Below w.heap.size w wr) (fun _ i _ => p.length - (intOf i).toNat)
  case atStart => exact ⟨0, _, 0, [], Nat.zero_le _, rfl, by simp, rfl, (OwII_empty w 3 24).mono (Nat.le_refl _) (by simp), below_alloc _ _⟩
  case round =>
    obtain ⟨k, x, c, P, hk, rfl, hp, rfl, ho, hb⟩ := hrel
    have hpl : P.length ≤ p.length := by rw [hp, List.length_take]; omega
    have HP := Lib.hid hp
    have HO := Lib.hid ho
    have HB := Lib.hid hb
    clear hp ho hb
    obtain ⟨w2, rfl⟩ : ∃ w2 : World, w2 = wr := ⟨_, rfl⟩
    by_cases hlt : k < p.length
    · go_wp2_with fail
      go_loopw [7, 8] (fun o i wr => ∃ (j : Nat) (y : Option Addr) (d : Nat) (L : List Int), j ≤ p.length ∧ i = .int .i64 j ∧ L = (rowOf p.length (fun y => s k y && mtch p s k y && mtch p s y k)).take j ∧ o = .slice y L.length d ∧ OwI wr 3 w2.heap.size wr.heap.size y d L ∧ Below w2.heap.size w2 wr) (fun _ i _ => p.length - (intOf i).toNat)
      case atStart => exact ⟨0, _, 0, [], Nat.zero_le _, rfl, by simp, rfl, (OwI_empty w2 3).mono (Nat.le_refl _) (by simp), below_alloc _ _⟩
      case round =>
        obtain ⟨j, y, d, L, hj, rfl, hp, rfl, ho, hb⟩ := hrel
        have hll : L.length ≤ p.length := by rw [hp, List.length_take]; omega
        have HL := Lib.hid hp
        have HR := Lib.hid ho
        have HB2 := Lib.hid hb
        clear hp ho hb
        by_cases hlt' : j < p.length
        · have HBW := Lib.hid (HB.out.trans (HB2.out.mono HB.out.size))
          have FW := Lib.hid (F.out.below HBW.out hC)
          have FW' := Lib.hid (F'.out.below HBW.out hC')
          obtain ⟨b1, off1, b1', off1', c1', ea, _, _, hc1, _, _, hd1⟩ := FW'.out.bit (mat_sq _ _) k j (by rw [mat_len]; exact hlt) (by rw [mat_len]; exact hlt')
          rw [mat_len] at hc1
          rw [mat_arr _ _ _ _ _ hlt hlt'] at hd1
          subst ea
          have hki : (k : Int) < (p.length : Int) := by omega
          have hji : (j : Int) < (p.length : Int) := by omega
          have HM1 := Lib.hid (l3Matched_any a _ cap cap' p s k j wr B C B' C' FW.out FW'.out HS.out hlt hlt' hl)
          have HM2 := Lib.hid (l3Matched_any a _ cap cap' p s j k wr B C B' C' FW.out FW'.out HS.out hlt' hlt hl)
          have hcase : (s k j = false ∧ (s k j && mtch p s k j && mtch p s j k) = false) ∨ (s k j = true ∧ mtch p s k j = false ∧ (s k j && mtch p s k j && mtch p s j k) = false) ∨ (s k j = true ∧ mtch p s k j = true ∧ (s k j && mtch p s k j && mtch p s j k) = mtch p s j k) := by
            cases s k j <;> cases mtch p s k j <;> simp
          rcases hcase with ⟨h1, h2⟩ | ⟨h1, h2, h3⟩ | ⟨h1, h2, h3⟩
          · have HV := Lib.hid h2
            rw [h1] at hd1
            simp only [Bool.false_eq_true, if_false] at hd1
            clear h1 h2
            go_wp2_with (at_builtin; go_loud (refine wpList_appI Try.underlying24 Try.infoInt _ rfl _ _ rfl w2.heap.size wr.heap.size y d L rfl (HR.out.agr ((Agr.refl _ _ _).alloc (Nat.le_refl _) _)) (by have := HB2.out.size; simp; omega) ⟨wr.heap.size, 0, none⟩ 0 rfl (new_cellE _ _ _ rfl) (by omega) ?_); intro g c1 w3 hown hgrow hat hg)
            have HO1 := Lib.hid hown
            have HB3 := Lib.hid (below_app HB2.out hgrow (HR.out.app_in (Nat.le_refl _)) (Nat.le_refl _) (Nat.le_refl _))
            clear hown hgrow hat
            go_wp2_with fail
            go_roundw
            case rel => exact ⟨j + 1, some ⟨g, 0, none⟩, c1, L ++ [0], by omega, by go_num, by rw [HL.out, rowOf_take _ _ _ hlt', HV.out]; rfl, by simp, HO1.out, HB3.out⟩
            case measure => simp [intOf]; omega
          · have HV := Lib.hid h3
            have HV2 := Lib.hid h2
            rw [h1] at hd1
            simp only [if_true] at hd1
            clear h1 h2 h3
            go_wp2_with (first | (go_at_call 75; refine HM1.out.mono ?_; rintro e w' ⟨rfl, rfl⟩; rw [HV2.out]) | (at_builtin; go_loud (refine wpList_appI Try.underlying24 Try.infoInt _ rfl _ _ rfl w2.heap.size wr.heap.size y d L rfl (HR.out.agr ((Agr.refl _ _ _).alloc (Nat.le_refl _) _)) (by have := HB2.out.size; simp; omega) ⟨wr.heap.size, 0, none⟩ 0 rfl (new_cellE _ _ _ rfl) (by omega) ?_); intro g c1 w3 hown hgrow hat hg))
            have HO1 := Lib.hid hown
            have HB3 := Lib.hid (below_app HB2.out hgrow (HR.out.app_in (Nat.le_refl _)) (Nat.le_refl _) (Nat.le_refl _))
            clear hown hgrow hat
            go_wp2_with fail
            go_roundw
            case rel => exact ⟨j + 1, some ⟨g, 0, none⟩, c1, L ++ [0], by omega, by go_num, by rw [HL.out, rowOf_take _ _ _ hlt', HV.out]; rfl, by simp, HO1.out, HB3.out⟩
            case measure => simp [intOf]; omega
          · have HV := Lib.hid h3
            have HV2 := Lib.hid h2
            rw [h1] at hd1
            simp only [if_true] at hd1
            clear h1 h2 h3
            cases h4 : mtch p s j k
            · have HV4 := Lib.hid h4
              clear h4
              go_wp2_with fail
              refine HM1.out.mono ?_
              rintro e w' ⟨rfl, rfl⟩
              rw [HV2.out]
              go_wp2_with fail
              refine HM2.out.mono ?_
              rintro e w' ⟨rfl, rfl⟩
              rw [HV4.out]
              go_wp2_with ((at_builtin; go_loud (refine wpList_appI Try.underlying24 Try.infoInt _ rfl _ _ rfl w2.heap.size wr.heap.size y d L rfl (HR.out.agr ((Agr.refl _ _ _).alloc (Nat.le_refl _) _)) (by have := HB2.out.size; simp; omega) ⟨wr.heap.size, 0, none⟩ 0 rfl (new_cellE _ _ _ rfl) (by omega) ?_); intro g c1 w3 hown hgrow hat hg))
              have HO1 := Lib.hid hown
              have HB3 := Lib.hid (below_app HB2.out hgrow (HR.out.app_in (Nat.le_refl _)) (Nat.le_refl _) (Nat.le_refl _))
              clear hown hgrow hat
              go_wp2_with fail
              go_roundw
              case rel => exact ⟨j + 1, some ⟨g, 0, none⟩, c1, L ++ [0], by omega, by go_num, by rw [HL.out, rowOf_take _ _ _ hlt', HV.out, HV4.out]; rfl, by simp, HO1.out, HB3.out⟩
              case measure => simp [intOf]; omega
            · have HV4 := Lib.hid h4
              clear h4
              go_wp2_with fail
              refine HM1.out.mono ?_
              rintro e w' ⟨rfl, rfl⟩
              rw [HV2.out]
              go_wp2_with fail
              refine HM2.out.mono ?_
              rintro e w' ⟨rfl, rfl⟩
              rw [HV4.out]
              go_wp2_with ((at_builtin; go_loud (refine wpList_appI Try.underlying24 Try.infoInt _ rfl _ _ rfl w2.heap.size wr.heap.size y d L rfl (HR.out.agr ((Agr.refl _ _ _).alloc (Nat.le_refl _) _)) (by have := HB2.out.size; simp; omega) ⟨wr.heap.size, 0, none⟩ 1 rfl (new_cellE _ _ _ rfl) (by omega) ?_); intro g c1 w3 hown hgrow hat hg))
              have HO1 := Lib.hid hown
              have HB3 := Lib.hid (below_app HB2.out hgrow (HR.out.app_in (Nat.le_refl _)) (Nat.le_refl _) (Nat.le_refl _))
              clear hown hgrow hat
              go_wp2_with fail
              go_roundw
              case rel => exact ⟨j + 1, some ⟨g, 0, none⟩, c1, L ++ [1], by omega, by go_num, by rw [HL.out, rowOf_take _ _ _ hlt', HV.out, HV4.out]; rfl, by simp, HO1.out, HB3.out⟩
              case measure => simp [intOf]; omega
        · obtain rfl : j = p.length := by omega
          go_wp2_with (at_builtin; go_loud (refine wpList_appII Try.underlying38 Try.infoRow _ rfl _ _ rfl w.heap.size w2.heap.size x c P rfl ((HO.out.below HB2.out (Nat.le_refl _)).agr ((Agr.refl _ _ _).alloc HB2.out.size _)) (by have := HB2.out.size; have := HB.out.size; simp; omega) (by have := HB2.out.size; simp; omega) ⟨wr.heap.size, 0, none⟩ y d L rfl (new_cellE _ _ _ rfl) w2.heap.size wr.heap.size (HR.out.agr ((Agr.refl _ _ _).alloc (Nat.le_refl _) _)) (Nat.le_refl _) HB.out.size (by simp) (by omega) ?_); intro a1 c1 w3 hown hgrow hat)
          have HO1 := Lib.hid hown
          have HB3 := Lib.hid (below_app (HB.out.trans (HB2.out.mono HB.out.size)) hgrow (HO.out.app_in (Nat.le_refl _)) (Nat.le_refl _) (Nat.le_refl _))
          have HRO : Hid (L = rowOf p.length (fun y => s k y && mtch p s k y && mtch p s y k)) := Lib.hid (by rw [HL.out, rowOf_all])
          clear hown hgrow hat
          go_wp2_with fail
          go_roundw
          case rel => exact ⟨k + 1, a1, c1, P ++ [L], by omega, by go_num, by rw [HP.out, HRO.out, mat_take _ _ _ _ hlt], by simp, HO1.out, HB3.out⟩
          case measure => simp [intOf]; omega
    · obtain rfl : k = p.length := by omega
      have HE : Hid (P = mat p.length p.length (fun x y => s x y && mtch p s x y && mtch p s y x)) := Lib.hid (by rw [HP.out, mat_all])
      have HLN : Hid (P.length = p.length) := Lib.hid (by rw [HE.out, mat_len])
      go_wp2_with fail
      go_ret
      exact ⟨x, c, by rw [HLN.out]; rfl, HE.out ▸ HO.out, HB.out⟩

set_option maxHeartbeats 800000 in
theorem specLeftAfter_any (a : Option Addr) (cap : Nat) (p : List (List Int)) (r : Int) (w : World) (B C : Nat) (h : RdII w B C a p) (hC : C ≤ w.heap.size) (hl : p.length ≤ maxLen) :
    Calls Try.prog 71 #[.slice a p.length cap, .int .i64 r] w (RetII 3 24 (leftR p r) w) := by
  have F := Lib.hid h
  have HL := Lib.hid hl
  clear h
  have hcase : picB p = false ∨ (picB p = true ∧ (decide (0 ≤ r) && decide (r ≤ 30)) = false) ∨ (picB p = true ∧ (decide (0 ≤ r) && decide (r ≤ 30)) = true) := by cases picB p <;> cases (decide (0 ≤ r) && decide (r ≤ 30)) <;> simp
  unfold maxLen at hl
  rcases hcase with h1 | ⟨h1, h2⟩ | ⟨h1, h2⟩
  · have H1 := Lib.hid h1
    clear h1
    go_enter Try.func71, Try.ntmps71
    go_wp2_with (go_at_call 25; refine (specPictureOk_any _ _ _ _ B C F.out HL.out).mono ?_; rintro e w' ⟨rfl, rfl⟩; rw [H1.out])
    go_ret
    exact retII_of (p := []) (by unfold leftR; rw [H1.out]; rfl) ((OwII_empty w 3 24).mono (Nat.le_refl _) (by simp)) (below_alloc _ _)
  · have H1 := Lib.hid h1
    have H2 := Lib.hid h2
    clear h1 h2
    go_enter Try.func71, Try.ntmps71
    go_wp2_with (first | (go_at_call 25; refine (specPictureOk_any _ _ _ _ B C F.out HL.out).mono ?_; rintro e w' ⟨rfl, rfl⟩; rw [H1.out]) | (go_at_call 26; refine (l1In_any _ _ _ _).mono ?_; rintro e w' ⟨rfl, rfl⟩; rw [H2.out]))
    go_ret
    exact retII_of (p := []) (by unfold leftR; rw [H1.out, H2.out]; rfl) ((OwII_empty w 3 24).mono (Nat.le_refl _) (by simp)) (below_alloc _ _)
  · have H1 := Lib.hid h1
    have H2 := Lib.hid h2
    obtain ⟨sq, s1, s5⟩ := picB_sq h1
    have HS := Lib.hid sq
    have hr : 0 ≤ r ∧ r ≤ 30 := by simpa using h2
    obtain ⟨m, rfl⟩ := Int.eq_ofNat_of_zero_le hr.1
    have hm : m ≤ 30 := by omega
    clear h1 h2 sq hr
    go_enter Try.func71, Try.ntmps71
    go_wp2_with (first | (go_at_call 25; refine (specPictureOk_any _ _ _ _ B C F.out HL.out).mono ?_; rintro e w' ⟨rfl, rfl⟩; rw [H1.out]) | (go_at_call 26; refine (l1In_any _ _ _ _).mono ?_; rintro e w' ⟨rfl, rfl⟩; rw [H2.out]))
    refine (l3Start_any p.length _ (by omega)).mono ?_
    rintro e w1 ⟨x, c, rfl, ho, hb⟩
    have O1 := Lib.hid ho
    have HB1 := Lib.hid hb
    clear ho hb
    go_wp2_with fail
    go_loopw [5, 6] (fun o i wr => ∃ (k : Nat) (y : Option Addr) (d : Nat), k ≤ m ∧ i = .int .i64 k ∧ o = .slice y p.length d ∧ OwII wr 3 24 w.heap.size wr.heap.size y d (mat p.length p.length (left p k)) ∧ Below w.heap.size w wr) (fun _ i _ => m - (intOf i).toNat)
    case atStart => exact ⟨0, x, c, Nat.zero_le _, rfl, rfl, O1.out.matCongr (fun _ _ _ _ => rfl), HB1.out⟩
    case round =>
      obtain ⟨k, y, d, hk, rfl, rfl, ho, hb⟩ := hrel
      have HO := Lib.hid ho
      have HB := Lib.hid hb
      clear ho hb O1 HB1
      by_cases hlt : k < m
      · go_wp2_with fail
        refine (l3Round_any a y cap d p (left p k) wr _ _ _ _ (F.out.below HB.out hC) HO.out.rd (Nat.le_trans hC HB.out.size) (Nat.le_refl _) HS.out (by omega)).mono ?_
        rintro e w2 ⟨x2, c2, rfl, ho2, hb2⟩
        have HO2 := Lib.hid ho2
        have HB2 := Lib.hid (HB.out.trans (hb2.mono HB.out.size))
        clear ho2 hb2
        go_wp2_with fail
        go_roundw
        case rel => exact ⟨k + 1, x2, c2, by omega, by go_num, rfl, (HO2.out.mono HB.out.size (Nat.le_refl _)).matCongr (fun x y _ _ => (left_round p k x y).symm), HB2.out⟩
        case measure => simp [intOf]; omega
      · obtain rfl : k = m := by omega
        go_wp2_with fail
        go_ret
        refine ⟨y, d, ?_, ?_, HB.out⟩
        · have : (leftR p (k : Int)).length = p.length := by unfold leftR; rw [H1.out, Bool.true_and, H2.out, if_pos rfl, mat_len]
          rw [this]; rfl
        · have : leftR p (k : Int) = mat p.length p.length (left p k) := by unfold leftR; rw [H1.out, Bool.true_and, H2.out, if_pos rfl]; rfl
          rw [this]; exact HO.out

set_option maxHeartbeats 400000 in
theorem specSameRows_any (a : Option Addr) (cap : Nat) (p : List (List Int)) (w : World) (B C : Nat) (h : RdII w B C a p) (hC : C ≤ w.heap.size) (hl : p.length ≤ maxLen) :
    Calls Try.prog 67 #[.slice a p.length cap] w (RetII 3 24 (leftR p p.length) w) := by
  have F := Lib.hid h
  have HL := Lib.hid hl
  unfold maxLen at hl
  clear h
  go_enter Try.func67, Try.ntmps67
  go_wp2_with fail
  refine (specLeftAfter_any a cap p p.length w B C F.out hC HL.out).mono ?_
  rintro e w1 ⟨x, c, rfl, ho, hb⟩
  have HO := Lib.hid ho
  clear ho
  go_wp2_with fail
  go_ret
  exact ⟨x, c, rfl, HO.out, hb⟩
end Go.Proofs.Ytfjodcfbhpglhaa
namespace Go.Hyp
open Go.RowKit Go.Deep
/-- Two nodes, told by numbers, draw the same set. -/
def sameAtB (p : List (List Int)) (a b : Int) : Bool := nodeB p a && nodeB p b && simB p a.toNat b.toNat
/-- How long two nodes hold; 1000 for ever. -/
def heldN (p : List (List Int)) (a b : Nat) : Nat := ((List.range (p.length + 1)).find? fun r => !left p (r + 1) a b).getD 1000
theorem heldN_sim {p : List (List Int)} {a b : Nat} (ha : a < p.length) (hb : b < p.length) (h : simB p a b = true) : heldN p a b = 1000 ∧ ∀ r, left p r a b = true := by
  have key : ∀ r, left p r a b = true := fun r => same_left ((simB_iff ha hb).1 h) r
  refine ⟨?_, key⟩
  unfold heldN
  rw [List.find?_eq_none.2 (fun r _ => by simp [key])]
  rfl
theorem heldN_apart {p : List (List Int)} {a b : Nat} (h : simB p a b = false) : heldN p a b < p.length ∧ (∀ r, r ≤ heldN p a b → left p r a b = true) ∧ ∀ r, heldN p a b < r → left p r a b = false := by
  have hpos : 0 < p.length := by
    rcases Nat.eq_zero_or_pos p.length with e | e
    · unfold simB at h; rw [e] at h; cases h
    · exact e
  have hf : ∃ r, (List.range (p.length + 1)).find? (fun r => !left p (r + 1) a b) = some r := by
    cases e : (List.range (p.length + 1)).find? fun r => !left p (r + 1) a b with
    | some r => exact ⟨r, rfl⟩
    | none =>
      rw [List.find?_eq_none] at e
      have := e (p.length - 1) (by simp; omega)
      rw [show p.length - 1 + 1 = p.length by omega] at this
      unfold simB at h
      rw [h] at this; simp at this
  obtain ⟨r, hr⟩ := hf
  have e : heldN p a b = r := by unfold heldN; rw [hr]; rfl
  rw [List.find?_range_eq_some] at hr
  obtain ⟨h1, h2, h3⟩ := hr
  have hfalse : left p (r + 1) a b = false := by simpa using h1
  rw [e]
  refine ⟨?_, fun m hm => ?_, fun m hm => ?_⟩
  · rcases Nat.lt_or_ge r p.length with h' | h'
    · exact h'
    · have := h3 (p.length - 1) (by omega)
      rw [show p.length - 1 + 1 = p.length by omega] at this
      unfold simB at h
      rw [h] at this; simp at this
  · cases m with
    | zero => rfl
    | succ m => simpa using h3 m (by omega)
  · cases hx : left p m a b
    · rfl
    · have := left_anti (r := r + 1) (by omega) hx
      rw [hfalse] at this; cases this
/-- What HeldFor answers. -/
def heldOk (p : List (List Int)) (a b : Int) : Bool := nodeB p a && nodeB p b && !simB p a.toNat b.toNat
def heldI (p : List (List Int)) (a b : Int) : Int := if heldOk p a b = true then (heldN p a.toNat b.toNat : Int) else -1
theorem nodeB_nat {p : List (List Int)} {a : Int} (h : nodeB p a = true) : ∃ n : Nat, a = n ∧ n < p.length ∧ picB p = true := by
  unfold nodeB at h
  simp only [Bool.and_eq_true, decide_eq_true_eq] at h
  obtain ⟨n, rfl⟩ := Int.eq_ofNat_of_zero_le h.1.2
  exact ⟨n, rfl, by omega, h.1.1⟩
theorem nodeB_of {p : List (List Int)} {n : Nat} (h : picB p = true) (hn : n < p.length) : nodeB p n = true := by
  unfold nodeB; rw [h]; simp; exact hn
theorem leftR_pic {p : List (List Int)} {r : Nat} (h : picB p = true) (hr : r ≤ 30) : leftR p r = mat p.length p.length (left p r) := by
  unfold leftR
  rw [h, if_pos (by simp; omega)]
  rfl
theorem leftR_no {p : List (List Int)} {r : Int} (h : picB p = false) : leftR p r = [] := by unfold leftR; rw [h]; rfl
end Go.Hyp
namespace Go.Proofs.Ytfjodcfbhpglhaa
open Go.RowKit Go.Hyp Go.Deep

end Go.Proofs.Ytfjodcfbhpglhaa
namespace Go.Hyp
def kindsS (p : List (List Int)) : List Int := if picB p = true then kindsL p p.length else []
theorem kindsS_no {p : List (List Int)} (h : picB p = false) : kindsS p = [] := by unfold kindsS; rw [h]; rfl
theorem kindsS_yes {p : List (List Int)} (h : picB p = true) : kindsS p = kindsL p p.length := by unfold kindsS; rw [h]; rfl
end Go.Hyp
namespace Go.Proofs.Ytfjodcfbhpglhaa
open Go.RowKit Go.Hyp Go.Deep

set_option maxRecDepth 4000 in
set_option maxHeartbeats 800000 in
theorem specKindsOf_any (a : Option Addr) (cap : Nat) (p : List (List Int)) (w : World) (B C : Nat) (h : RdII w B C a p) (hC : C ≤ w.heap.size) (hl : p.length ≤ maxLen) :
    Calls Try.prog 63 #[.slice a p.length cap] w (RetI 3 (kindsS p) w) := by
  have HB0 := Lib.hid (below_alloc w (.cells #[] 3))
  have HO0 := Lib.hid (OwI_empty w 3)
  have F := Lib.hid (h.below HB0.out hC)
  clear h
  have hcall := specSameRows_any a cap p _ B C F.out (by simp; omega) hl
  cases hp : picB p
  · rw [leftR_no hp] at hcall
    have HC := Lib.hid hcall
    have HK := Lib.hid (kindsS_no hp)
    clear hp hcall
    go_enter Try.func63, Try.ntmps63
    go_wp2_with fail
    refine HC.out.mono ?_
    rintro e w1 ⟨x, c, rfl, ho, hb⟩
    have HB1 := Lib.hid (HB0.out.trans (hb.mono (by simp)))
    have HO1 := Lib.hid (HO0.out.below hb (by simp))
    have hz1 : (w.alloc (.cells #[] 3)).heap.size ≤ w1.heap.size := hb.size
    simp at hz1
    clear ho hb
    go_wp2_with fail
    go_loopw [3, 5] (fun o k wr => o = .slice (some ⟨w.heap.size, 0, none⟩) 0 0 ∧ k = .int .i64 0 ∧ wr = w1) (fun _ _ _ => 0)
    case atStart => exact ⟨rfl, rfl, rfl⟩
    case round =>
      obtain ⟨rfl, rfl, rfl⟩ := hrel
      go_wp2_with fail
      go_ret
      exact retI_of (l := []) HK.out.symm (HO1.out.mono (Nat.le_refl _) hz1) HB1.out
  · rw [leftR_pic hp (by have := (picB_sq hp).2.2; omega)] at hcall
    obtain ⟨sq, s1, s5⟩ := picB_sq hp
    have HC := Lib.hid hcall
    have HK := Lib.hid (kindsS_yes hp)
    clear hp hcall sq
    go_enter Try.func63, Try.ntmps63
    go_wp2_with fail
    refine HC.out.mono ?_
    intro e w1 hret
    obtain ⟨x, c, rfl, ho, hb⟩ := hret.toM
    have HX := Lib.hid ho.rd
    have HB1 := Lib.hid (HB0.out.trans (hb.mono (by simp)))
    have HO1 := Lib.hid (HO0.out.below hb (by simp))
    have hz1 : (w.alloc (.cells #[] 3)).heap.size ≤ w1.heap.size := hb.size
    simp at hz1
    clear ho hb hret
    go_wp2_with fail
    go_loopw [3, 5] (fun o i wr => ∃ (k : Nat) (ax : Option Addr) (cx : Nat), k ≤ p.length ∧ i = .int .i64 k ∧ o = .slice ax (kindsL p k).length cx ∧ OwI wr 3 w.heap.size wr.heap.size ax cx (kindsL p k) ∧ (blockOf ax = some w.heap.size ∨ ∃ g, blockOf ax = some g ∧ w1.heap.size ≤ g) ∧ RdII wr (w.heap.size + 1) w1.heap.size x (mat p.length p.length (left p p.length)) ∧ Below w.heap.size w wr ∧ w1.heap.size ≤ wr.heap.size) (fun _ i _ => p.length - (intOf i).toNat)
    case atStart => exact ⟨0, _, 0, Nat.zero_le _, rfl, rfl, HO1.out.mono (Nat.le_refl _) hz1, .inl rfl, by simpa using HX.out, HB1.out, Nat.le_refl _⟩
    case round =>
      obtain ⟨k, ax, cx, hk, rfl, rfl, ho, hbl, hx, hb, hzw⟩ := hrel
      have HO := Lib.hid ho
      have HXR := Lib.hid hx
      have HB := Lib.hid hb
      have HBL := Lib.hid hbl
      have hkl := kindsL_len p k
      have HKL := Lib.hid hkl
      have hkl2 : (kindsL p k).length ≤ 5 := by omega
      clear ho hx hb hbl hkl HO1 HX HB1
      by_cases hlt : k < p.length
      · obtain ⟨k1, k2, k3, k4⟩ := kind_spec hlt
        have HK4 := Lib.hid k4
        have HK2 := Lib.hid k2
        have hki : (k : Int) < (p.length : Int) := by omega
        clear k2 k4
        obtain ⟨wk, rfl⟩ : ∃ wk : World, wk = wr := ⟨_, rfl⟩
        go_wp2_with fail
        go_loopw [3, 6] (fun o i wr => ∃ j : Nat, j ≤ kind p k ∧ i = .int .i64 j ∧ o = .slice ax (kindsL p k).length cx ∧ wr = wk) (fun _ i _ => kind p k - (intOf i).toNat)
        case atStart => exact ⟨0, Nat.zero_le _, rfl, rfl, rfl⟩
        case round =>
          obtain ⟨j, hj, rfl, rfl, rfl⟩ := hrel
          have hjp : j < p.length := by omega
          have hji : (j : Int) < (p.length : Int) := by omega
          obtain ⟨b1, off1, b1', off1', c1', rfl, _, _, hc1, _, _, hd1⟩ := HXR.out.bit (mat_sq _ _) k j (by rw [mat_len]; exact hlt) (by rw [mat_len]; exact hjp)
          rw [mat_len] at hc1
          rw [mat_arr _ _ _ _ _ hlt hjp] at hd1
          by_cases hjk : j < kind p k
          · have hno : left p p.length k j = false := HK4.out j hjk
            rw [hno] at hd1
            simp only [Bool.false_eq_true, if_false] at hd1
            clear hno
            go_wp2_with fail
            go_roundw
            case rel => exact ⟨j + 1, by omega, by go_num, rfl, by first | rfl | trivial⟩
            case measure => simp [intOf]; omega
          · obtain rfl : j = kind p k := by omega
            have hyes : left p p.length k (kind p k) = true := HK2.out
            rw [hyes] at hd1
            simp only [if_true] at hd1
            clear hyes
            obtain ⟨K, hK⟩ : ∃ K : Nat, K = kind p k := ⟨_, rfl⟩
            rw [← hK] at hd1 hji hjp ⊢
            have HKK := Lib.hid hK
            clear hK
            go_wp2_with (at_builtin; go_loud (refine wpList_appI Try.underlying24 Try.infoInt _ rfl _ _ rfl w.heap.size wr.heap.size ax cx (kindsL p k) rfl (HO.out.agr ((Agr.refl _ _ _).alloc (Nat.le_refl _) _)) (by simp; omega) ⟨wr.heap.size, 0, none⟩ K rfl (new_cellE _ _ _ rfl) (by omega) ?_); intro g2 c2 w3 hown hgrow hat hg2; have HG := Lib.hid hgrow; have HO3 := Lib.hid hown; clear hown hgrow)
            have hbl2 : blockOf (some ⟨g2, 0, none⟩) = some w.heap.size ∨ ∃ g, blockOf (some ⟨g2, 0, none⟩) = some g ∧ w1.heap.size ≤ g := by
              rcases hat with h | h
              · rcases HBL.out with h' | ⟨g, h', h2⟩
                · left; rw [h] at h'; exact h'
                · right; exact ⟨g, by rw [h] at h'; exact h', h2⟩
              · right; exact ⟨g2, rfl, by simp at h; omega⟩
            have HBL2 := Lib.hid hbl2
            have HB3 := Lib.hid (below_app HB.out HG.out (HO.out.app_in (Nat.le_refl _)) (Nat.le_refl _) (Nat.le_refl _))
            have hz3 : wr.heap.size + 1 ≤ w3.heap.size := by have := HG.out.size; simpa using this
            have HX3 := Lib.hid (HXR.out.agr (fun b h1 h2 => (HG.out.block b (by simp; omega) (fun e => by
              rcases HBL.out with h' | ⟨g, h', h2'⟩
              · rw [h'] at e; injection e with e; omega
              · rw [h'] at e; injection e with e; omega)).trans (Below.heap_alloc _ _ _ (by omega))))
            clear hat hbl2
            have HL2 : Hid (kindsL p (k + 1) = kindsL p k ++ [(K : Int)]) := Lib.hid (by rw [kindsL_succ, HKK.out])
            go_wp2_with fail
            go_roundw
            case rel => exact ⟨k + 1, some ⟨g2, 0, none⟩, c2, by omega, by go_num, by rw [HL2.out]; simp, by rw [HL2.out]; exact HO3.out, HBL2.out, HX3.out, HB3.out, by omega⟩
            case measure => simp [intOf]; omega
      · obtain rfl : k = p.length := by omega
        go_wp2_with fail
        go_ret
        exact retI_of HK.out.symm HO.out HB.out
end Go.Proofs.Ytfjodcfbhpglhaa
