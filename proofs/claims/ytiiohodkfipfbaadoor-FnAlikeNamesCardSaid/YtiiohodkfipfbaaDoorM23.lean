/- Sentences as the laws' arguments: read, copied, measured, compared. Systems of pictures: impl.SystemOf, spec.SystemOf. -/
import Derived.Deep.RegionLaw
import Derived.Test.YtiiohodkfipfbaaDoorM3
import Derived.Test.YtiiohodkfipfbaaDoorM1
namespace Go.Hyp
open Go.RowKit Go.Deep

/-- A sentence's slice, under way: block g has n pairs of cells, of which the first k are in place, the names each in a block of their own from B on. -/
def PartY (w : World) (E T B g n : Nat) (s : List (List Int × Int)) (k : Nat) : Prop :=
  ∃ (ra : Nat → Option Addr) (rc : Nat → Nat) (G : Nat → Value), w.rowIs g T (n * 2) G ∧
    (∀ j, j < k → G (j * 2) = .slice (ra j) (s.getD j ([], 0)).1.length (rc j) ∧ G (j * 2 + 1) = .int .i64 (s.getD j ([], 0)).2) ∧
    (∀ j, j < k → OwI w E B w.heap.size (ra j) (rc j) (s.getD j ([], 0)).1) ∧ (∀ i j, i < j → j < k → Dis (ra i) (ra j))
theorem PartY.start {w : World} {E T B g n : Nat} {s : List (List Int × Int)} {G : Nat → Value} (h : w.rowIs g T (n * 2) G) : PartY w E T B g n s 0 :=
  ⟨fun _ => none, fun _ => 0, G, h, fun j hj => by omega, fun j hj => by omega, fun i j _ hj => by omega⟩
theorem PartY.cells {w : World} {E T B g n : Nat} {s : List (List Int × Int)} {k : Nat} (h : PartY w E T B g n s k) (hk : k < n) :
    (∃ v, w.cell? ⟨g, k * 2, none⟩ = some v) ∧ (∃ v, w.cell? ⟨g, k * 2 + 1, none⟩ = some v) ∧ (∀ o, w.frozen? ⟨g, o, none⟩ = false) ∧ g < w.heap.size := by
  obtain ⟨ra, rc, G, h1, _⟩ := h
  exact ⟨⟨_, h1.cell (by omega)⟩, ⟨_, h1.cell (by omega)⟩, h1.frozen, h1.lt⟩
theorem PartY.below {w w1 : World} {E T B g n : Nat} {s : List (List Int × Int)} {k : Nat} (h : PartY w E T B g n s k) (hb : Below w.heap.size w w1) : PartY w1 E T B g n s k := by
  obtain ⟨ra, rc, G, h1, h2, h3, h4⟩ := h
  exact ⟨ra, rc, G, h1.of_block (hb.block g h1.lt), h2, fun j hj => ((h3 j hj).agr (agr_below hb (Nat.le_refl _))).mono (Nat.le_refl _) hb.size, h4⟩
theorem PartY.step {w w1 : World} {E T B g n : Nat} {s : List (List Int × Int)} {k : Nat} {a' : Option Addr} {c' : Nat} {l : List Int} {c : Int} (h : PartY w E T B g n s k) (hb : Below w.heap.size w w1)
    (ho : OwI w1 E w.heap.size w1.heap.size a' c' l) (hl : l = (s.getD k ([], 0)).1) (hc : c = (s.getD k ([], 0)).2) (hg : g < B) (hB : B ≤ w.heap.size) :
    PartY ((w1.setCell ⟨g, k * 2, none⟩ (.slice a' l.length c')).setCell ⟨g, k * 2 + 1, none⟩ (.int .i64 c)) E T B g n s (k + 1) := by
  subst hl hc
  obtain ⟨ra, rc, G, h1, h2, h3, h4⟩ := h
  have hgw := h1.lt
  have hA : ∀ lo hi, g < lo → Agr lo hi w1 ((w1.setCell ⟨g, k * 2, none⟩ (.slice a' (s.getD k ([], 0)).1.length c')).setCell ⟨g, k * 2 + 1, none⟩ (.int .i64 (s.getD k ([], 0)).2)) := fun lo hi hlo => ((Agr.refl _ _ _).set (by left; exact hlo) _).set (by left; exact hlo) _
  refine ⟨fun j => if j = k then a' else ra j, fun j => if j = k then c' else rc j, _, ((h1.of_block (hb.block g hgw)).set (k * 2) _).set (k * 2 + 1) _, fun j hj => ?_, fun j hj => ?_, fun i j hij hj => ?_⟩
  · by_cases e : j = k
    · subst e; simp
    · have n1 : ¬ j * 2 = k * 2 + 1 := by omega
      have n2 : ¬ j * 2 = k * 2 := by omega
      have n3 : ¬ j * 2 + 1 = k * 2 + 1 := by omega
      have n4 : ¬ j * 2 + 1 = k * 2 := by omega
      simp only [if_neg e, if_neg n1, if_neg n2, if_neg n3, if_neg n4]
      exact h2 j (by omega)
  · simp only [World.size_setCell]
    by_cases e : j = k
    · subst e
      simp only [if_true]
      exact (ho.agr (hA _ _ (by omega))).mono hB (Nat.le_refl _)
    · simp only [if_neg e]
      exact ((h3 j (by omega)).agr (fun k' k1 k2 => (hA B w.heap.size hg k' k1 k2).trans (hb.block k' k2))).mono (Nat.le_refl _) hb.size
  · by_cases e : j = k
    · subst e
      simp only [if_true, if_neg (show i ≠ j by omega)]
      exact (h3 i hij).dis ho (Nat.le_refl _)
    · simp only [if_neg e, if_neg (show i ≠ k by omega)]
      exact h4 i j hij (by omega)
theorem PartY.done {w : World} {E T g n : Nat} {s : List (List Int × Int)} (h : PartY w E T (g + 1) g n s s.length) (hn : n = s.length) (hm : n ≤ maxLen) : OwY w E T g w.heap.size (some ⟨g, 0, none⟩) n s := by
  subst hn
  obtain ⟨ra, rc, G, h1, h2, h3, h4⟩ := h
  refine ⟨ra, rc, .inr ⟨g, G, rfl, Nat.le_refl _, h1.lt, h1, Nat.le_refl _, hm, h2⟩, fun i hi => (h3 i hi).mono (Nat.le_succ _) (Nat.le_refl _), h4, ?_⟩
  intro i hi x y hx hy
  cases hx
  rcases h3 i hi with ⟨e, _⟩ | ⟨g', f', e, b1, b2, _⟩
  · rw [e] at hy; cases hy
  · rw [e] at hy; cases hy
    show g ≠ g'; omega

/-- make of pairs. -/
theorem run_make_two {P : Program} (t e : Nat) (z : Value) (bytes : Nat) (ht : P.underlying t = some (.slice e)) (hinfo : (P.info? e).map (fun i => (i.zero, i.size, i.bytes)) = some (some z, 2, bytes))
    (kl kc : IntKind) (n : Nat) (hbytes : bytes * n ≤ 281474976710656) (h63 : n ≤ 9223372036854775807) (w : World) :
    (Instr.makeSlice t (.int kl (n : Int)) (.int kc (n : Int))).run P w = .ok (.slice (some ⟨w.heap.size, 0, none⟩) n n) (w.alloc (.cells (madeCells z.cells (n * 2)) e)) := by
  obtain ⟨i, hi, hz, hs, hb⟩ := info_parts hinfo
  subst hb
  have hb' : (i.bytes : Int) * (n : Int) ≤ 281474976710656 := by
    have h : ((i.bytes * n : Nat) : Int) ≤ 281474976710656 := Int.ofNat_le.2 hbytes
    rwa [Int.natCast_mul] at h
  have hr := run_make (P := P) w t e i z ht hi hz kl kc n n (by omega) (Int.le_refl _) hb' (by omega)
  simp only [Int.toNat_natCast, hs] at hr
  exact hr
theorem rowIs_any (w : World) (z : Array Value) (n : Nat) (t : Nat) : (w.alloc (.cells (madeCells z n) t)).rowIs w.heap.size t n (fun i => (madeCells z n).toList.getD i undef) :=
  ⟨_, alloc1 _ _, size_madeCells _ _, fun i hi => by
    have h : i < (madeCells z n).size := by rw [size_madeCells]; exact hi
    simp [List.getD, h]⟩

def RetY (E T : Nat) (s : List (List Int × Int)) (w : World) (e : Ending) (w' : World) : Prop :=
  ∃ a cap, e = .returned (.slice a s.length cap) ∧ OwY w' E T w.heap.size w'.heap.size a cap s ∧ Below w.heap.size w w'
/-- All numbers of a system's names. -/
def lensY (s : List (List Int × Int)) : Nat := lens (s.map Prod.fst)
theorem lensY_succ (s : List (List Int × Int)) (k : Nat) (h : k < s.length) : lensY (s.take (k + 1)) = lensY (s.take k) + s[k].1.length := by
  have := lens_succ (s.map Prod.fst) k (by simpa using h)
  simpa [lensY, List.map_take] using this
theorem lensY_le (s : List (List Int × Int)) (k : Nat) : lensY (s.take k) ≤ lensY s := by
  have := lens_le (s.map Prod.fst) k
  simpa [lensY, List.map_take] using this
theorem lensY_at (s : List (List Int × Int)) (k : Nat) (h : k < s.length) : s[k].1.length ≤ lensY s := by
  have := lensY_succ s k h; have := lensY_le s (k + 1); omega
def szY (k : Int) (s : List (List Int × Int)) : Int := if k < s.length + lensY s then -1 else k - (s.length + lensY s)
theorem szY_cases (k : Int) (s : List (List Int × Int)) : (k < s.length + lensY s ∧ szY k s = -1) ∨ ((s.length + lensY s : Int) ≤ k ∧ szY k s = k - (s.length + lensY s)) := by
  unfold szY
  by_cases h : k < s.length + lensY s
  · exact .inl ⟨h, by rw [if_pos h]⟩
  · exact .inr ⟨by omega, by rw [if_neg h]⟩
end Go.Hyp
namespace Go.Proofs.YtiiohodkfipfbaaDoor
open Go.RowKit Go.Hyp Go.Deep

theorem Tryd.infoSaidI : (Tryd.prog.info? 44).map (fun i => (i.zero, i.size, i.bytes)) = some (some (.agg #[.slice none 0 0, .int .i64 0]), 2, 32) := by kernel_rfl

end Go.Proofs.YtiiohodkfipfbaaDoor
namespace Go.Hyp
open Go.RowKit Go.Deep
/-- The system of a picture. -/
def sysOfL (p : List (List Int)) : List (List Int × Int) := p.map fun r => (r, 0)
theorem sysOfL_len (p : List (List Int)) : (sysOfL p).length = p.length := by simp [sysOfL]
def sysOfB (p : List (List Int)) : Bool := picB p && decide (p.length ≤ 3)
/-- What SystemOf answers. -/
def sysOfR (p : List (List Int)) : List (List Int × Int) := if sysOfB p = true then sysOfL p else []
/-- A call that hands back a new system and a truth. -/
def RetYB (E T : Nat) (s : List (List Int × Int)) (b : Bool) (w : World) (e : Ending) (w' : World) : Prop :=
  ∃ a c, e = .returned (.tuple #[.slice a s.length c, .bool b]) ∧ OwY w' E T w.heap.size w'.heap.size a c s ∧ Below w.heap.size w w'
theorem retYB_of {E T : Nat} {p q : List (List Int × Int)} {b : Bool} {w w' : World} {a : Option Addr} {c : Nat} (e : p = q) (h : OwY w' E T w.heap.size w'.heap.size a c p) (hb : Below w.heap.size w w') : RetYB E T q b w (.returned (.tuple #[.slice a p.length c, .bool b])) w' := by
  subst e; exact ⟨a, c, rfl, h, hb⟩
theorem OwY_nil (w : World) (E T B C : Nat) : OwY w E T B C none 0 [] := ⟨fun _ => none, fun _ => 0, .inl ⟨rfl, rfl, rfl⟩, fun i hi => by simp at hi, fun i j _ hj => by simp at hj, fun i hi => by simp at hi⟩
theorem lens_rows (p : List (List Int)) : lensY (sysOfL p) = lens p := by unfold lensY sysOfL; rw [List.map_map]; congr 1; exact List.map_id p
theorem systemOf_small (p : List (List Int)) : (sysOfR p).length ≤ 1048576 ∧ lensY (sysOfR p) ≤ 1048576 := by
  unfold sysOfR
  split
  · rename_i h
    unfold sysOfB at h
    rw [Bool.and_eq_true, decide_eq_true_eq] at h
    have hs := picB_sq h.1
    rw [sysOfL_len, lens_rows, hs.1.eq_mat, mat_len, lens_mat]
    have := Nat.mul_le_mul h.2 h.2
    omega
  · exact ⟨by simp, by show 0 ≤ _; omega⟩
end Go.Hyp
namespace Go.Proofs.YtiiohodkfipfbaaDoor
open Go.RowKit Go.Hyp Go.Deep

set_option maxRecDepth 8000 in
set_option maxHeartbeats 1600000 in
theorem implSystemOf_any (a : Option Addr) (cap : Nat) (p : List (List Int)) (w : World) (B C : Nat) (h : RdII w B C a p) (hC : C ≤ w.heap.size) (hl : p.length ≤ maxLen) :
    Calls Tryd.prog 12 #[.slice a p.length cap] w (RetYB 3 44 (sysOfR p) (sysOfB p) w) := by
  have HB0 := Lib.hid (below_alloc w (.cells #[] 44))
  have F := Lib.hid h
  have HOK := Lib.hid (isPicture_any a cap p w B C h hl)
  have HL := Lib.hid hl
  unfold maxLen at hl
  clear h
  cases hp : picB p
  · have HP := Lib.hid hp
    have HE : Hid (sysOfB p = false ∧ sysOfR p = []) := Lib.hid (by unfold sysOfR sysOfB; rw [hp]; exact ⟨rfl, rfl⟩)
    rw [HE.out.1]
    clear hp
    go_enter Tryd.func12, Tryd.ntmps12
    go_wp2_with fail
    refine HOK.out.mono ?_
    rintro e w' ⟨rfl, rfl⟩
    rw [HP.out]
    go_wp2_with fail
    go_ret2
    exact retYB_of HE.out.2.symm (OwY_nil _ _ _ _ _) (Below.refl _ _)
  · by_cases h3 : p.length ≤ 3
    · have HP := Lib.hid hp
      obtain ⟨sq, s1, s5⟩ := picB_sq hp
      have HS := Lib.hid sq
      have HE : Hid (sysOfB p = true ∧ sysOfR p = sysOfL p) := Lib.hid (by
        have e : sysOfB p = true := by unfold sysOfB; rw [hp, decide_eq_true h3]; rfl
        exact ⟨e, by unfold sysOfR; rw [e]; rfl⟩)
      rw [HE.out.1]
      have h3i : ¬ ((3 : Int) < (p.length : Int)) := by omega
      clear hp sq
      go_enter Tryd.func12, Tryd.ntmps12
      go_wp2_with fail
      refine HOK.out.mono ?_
      rintro e w' ⟨rfl, rfl⟩
      rw [HP.out]
      go_wp2_with fail
      go_loopw [4, 18] (fun o i wr => ∃ (k : Nat) (x : Option Addr) (c : Nat) (S : List (List Int × Int)), k ≤ p.length ∧ i = .int .i64 k ∧ S.length = k ∧ S = (sysOfL p).take k ∧ o = .slice x S.length c ∧ OwY wr 3 44 w.heap.size wr.heap.size x c S ∧ Below w.heap.size w wr) (fun _ i _ => p.length - (intOf i).toNat)
      case atStart => exact ⟨0, _, 0, [], Nat.zero_le _, rfl, rfl, by simp, rfl, (OwY_empty w 3 44).mono (Nat.le_refl _) (by simp), below_alloc _ _⟩
      case round =>
        obtain ⟨k, x, c, S, hk, rfl, hSk, hS, rfl, ho, hb⟩ := hrel
        have HO := Lib.hid ho
        have HB := Lib.hid hb
        have HSE := Lib.hid hS
        have hs1 : S.length ≤ k := by omega
        have hs2 : k ≤ S.length := by omega
        have hwz : w.heap.size ≤ wr.heap.size := hb.size
        clear ho hb hS hSk
        by_cases hlt : k < p.length
        · obtain ⟨b, off, an, cn, rfl, _, hbC, hc, hr, hll⟩ := (F.out.below HB.out hC).at k hlt
          have hrow := (HS.out.row k hlt).1
          obtain ⟨L, hL⟩ : ∃ L, L = p[k] := ⟨_, rfl⟩
          have HTK : Hid ((sysOfL p).take (k + 1) = S ++ [(L, 0)]) := Lib.hid (by
            rw [HSE.out, List.take_succ_eq_append_getElem (by rw [sysOfL_len]; exact hlt), hL]
            congr 2
            simp [sysOfL])
          rw [← hL] at hc hr hrow
          have hL3 : L.length ≤ 3 := by omega
          have hL0 : 0 < L.length := by omega
          have hcn : an = none → cn = 0 := by
            intro e
            obtain ⟨b', o', e', _⟩ := hr 0 hL0
            rw [e] at e'; cases e'
          have HRL := Lib.hid (hr.below (below_alloc wr (.cells #[] 3)) (by omega))
          have HEM := Lib.hid (OwI_empty wr 3)
          have hki : (k : Int) < (p.length : Int) := by omega
          have hbw : b < wr.heap.size := by omega
          have hSl : S.length ≤ 1048576 := by omega
          clear hr hL hrow
          go_wp2_with (at_builtin; first
            | (refine wpList_appIs Tryd.underlying38 Tryd.infoInt (wr.alloc (.cells #[] 3)) rfl _ _ rfl wr.heap.size (wr.heap.size + 1) (some ⟨wr.heap.size, 0, none⟩) 0 [] rfl HEM.out (by simp) _ _ an cn L rfl HRL.out hcn (by simp; omega) ?_; intro a3 c3 w3 hown3 hgrow3 hat3; rw [List.nil_append] at hown3; have HO3 := Lib.hid hown3; have HG3 := Lib.hid hgrow3; clear hown3 hgrow3 hat3; have hz3 : wr.heap.size + 1 ≤ w3.heap.size := (by have := HG3.out.size; simpa using this); have HP3 := Lib.hid (HO.out.agr (fun b h1 h2 => (HG3.out.block b (by simp; omega) (fun e => by simp [blockOf] at e; omega)).trans (Below.heap_alloc _ _ _ (by omega)))); have HB3 := Lib.hid (below_app HB.out HG3.out (fun k hk => by simp [blockOf] at hk; exact Nat.le_of_eq hk) hwz (Nat.le_refl _)))
            | (go_loud (refine wpList_appY Tryd.underlying25 Tryd.infoSaidI rfl _ rfl _ _ rfl w.heap.size wr.heap.size x c S rfl (HP3.out.agr ((Agr.refl _ _ _).alloc (by omega) _)) (by simp; omega) (by simp; omega) ⟨w3.heap.size, 0, none⟩ a3 c3 L 0 rfl (by rw [show ((⟨w3.heap.size, 0, none⟩ : Addr).add 0) = ⟨w3.heap.size, 0, none⟩ from rfl, World.cell?_alloc_at _ _ _ _ rfl]; first | rfl | simp) (by rw [show ((⟨w3.heap.size, 0, none⟩ : Addr).add 1) = ⟨w3.heap.size, 1, none⟩ from rfl, World.cell?_alloc_at _ _ _ _ rfl]; rfl) wr.heap.size w3.heap.size (HO3.out.agr ((Agr.refl _ _ _).alloc (Nat.le_refl _) _)) (Nat.le_refl _) hwz (by simp) hSl ?_); intro g5 c5 w5 hown5 hgrow5 hat5 hlt5; have HO5 := Lib.hid hown5; have HB5 := Lib.hid (below_app HB3.out hgrow5 (fun k hk => (HP3.out.block_in hk).1) (Nat.le_refl _) (Nat.le_refl _)); clear hown5 hgrow5 hat5 hlt5))
          go_roundw
          case rel => exact ⟨k + 1, some ⟨g5, 0, none⟩, c5, S ++ [(L, 0)], by omega, by go_num, by rw [List.length_append]; show S.length + 1 = _; omega, HTK.out.symm, by rw [List.length_append]; rfl, HO5.out, HB5.out⟩
          case measure => simp [intOf]; omega
        · obtain rfl : k = p.length := by omega
          have HSS : Hid (S = sysOfR p) := Lib.hid (by rw [HSE.out, HE.out.2, List.take_of_length_le (by rw [sysOfL_len]; exact Nat.le_refl _)])
          go_wp2_with fail
          go_ret2
          exact retYB_of HSS.out HO.out HB.out
    · have HP := Lib.hid hp
      have HE : Hid (sysOfB p = false ∧ sysOfR p = []) := Lib.hid (by
        have e : sysOfB p = false := by unfold sysOfB; rw [hp, decide_eq_false h3]; rfl
        exact ⟨e, by unfold sysOfR; rw [e]; rfl⟩)
      rw [HE.out.1]
      have h3i : (3 : Int) < (p.length : Int) := by omega
      clear hp
      go_enter Tryd.func12, Tryd.ntmps12
      go_wp2_with fail
      refine HOK.out.mono ?_
      rintro e w' ⟨rfl, rfl⟩
      rw [HP.out]
      go_wp2_with fail
      go_ret2
      exact retYB_of HE.out.2.symm (OwY_nil _ _ _ _ _) (Below.refl _ _)

set_option maxRecDepth 8000 in
set_option maxHeartbeats 1600000 in
theorem specSystemOf_any (a : Option Addr) (cap : Nat) (p : List (List Int)) (w : World) (B C : Nat) (h : RdII w B C a p) (hC : C ≤ w.heap.size) (hl : p.length ≤ maxLen) :
    Calls Tryd.prog 13 #[.slice a p.length cap] w (RetYB 3 44 (sysOfR p) (sysOfB p) w) := by
  have HB0 := Lib.hid (below_alloc w (.cells #[] 44))
  have F := Lib.hid h
  have HOK := Lib.hid (specPictureOk_any a cap p _ B C (h.below HB0.out hC) hl)
  have HL := Lib.hid hl
  unfold maxLen at hl
  clear h
  cases hp : picB p
  · have HP := Lib.hid hp
    have HE : Hid (sysOfB p = false ∧ sysOfR p = []) := Lib.hid (by unfold sysOfR sysOfB; rw [hp]; exact ⟨rfl, rfl⟩)
    rw [HE.out.1]
    clear hp
    go_enter Tryd.func13, Tryd.ntmps13
    go_wp2_with fail
    refine HOK.out.mono ?_
    rintro e w' ⟨rfl, rfl⟩
    rw [HP.out]
    go_wp2_with fail
    go_ret2
    exact retYB_of HE.out.2.symm ((OwY_empty w 3 44).mono (Nat.le_refl _) (by simp)) HB0.out
  · by_cases h3 : p.length ≤ 3
    · have HP := Lib.hid hp
      obtain ⟨sq, s1, s5⟩ := picB_sq hp
      have HS := Lib.hid sq
      have HE : Hid (sysOfB p = true ∧ sysOfR p = sysOfL p) := Lib.hid (by
        have e : sysOfB p = true := by unfold sysOfB; rw [hp, decide_eq_true h3]; rfl
        exact ⟨e, by unfold sysOfR; rw [e]; rfl⟩)
      rw [HE.out.1]
      have h3i : ¬ ((3 : Int) < (p.length : Int)) := by omega
      clear hp sq
      go_enter Tryd.func13, Tryd.ntmps13
      go_wp2_with fail
      refine HOK.out.mono ?_
      rintro e w' ⟨rfl, rfl⟩
      rw [HP.out]
      go_wp2_with fail
      go_loopw [4, 5] (fun o i wr => ∃ (k : Nat) (x : Option Addr) (c : Nat) (S : List (List Int × Int)), k ≤ p.length ∧ i = .int .i64 k ∧ S.length = k ∧ S = (sysOfL p).take k ∧ o = .slice x S.length c ∧ OwY wr 3 44 w.heap.size wr.heap.size x c S ∧ Below w.heap.size w wr) (fun _ i _ => p.length - (intOf i).toNat)
      case atStart => exact ⟨0, _, 0, [], Nat.zero_le _, rfl, rfl, by simp, rfl, (OwY_empty w 3 44).mono (Nat.le_refl _) (by simp), below_alloc _ _⟩
      case round =>
        obtain ⟨k, x, c, S, hk, rfl, hSk, hS, rfl, ho, hb⟩ := hrel
        have HO := Lib.hid ho
        have HB := Lib.hid hb
        have HSE := Lib.hid hS
        have hs1 : S.length ≤ k := by omega
        have hs2 : k ≤ S.length := by omega
        have hwz : w.heap.size ≤ wr.heap.size := hb.size
        clear ho hb hS hSk
        by_cases hlt : k < p.length
        · obtain ⟨b, off, an, cn, rfl, _, hbC, hc, hr, hll⟩ := (F.out.below HB.out hC).at k hlt
          have hrow := (HS.out.row k hlt).1
          obtain ⟨L, hL⟩ : ∃ L, L = p[k] := ⟨_, rfl⟩
          have HTK : Hid ((sysOfL p).take (k + 1) = S ++ [(L, 0)]) := Lib.hid (by
            rw [HSE.out, List.take_succ_eq_append_getElem (by rw [sysOfL_len]; exact hlt), hL]
            congr 2
            simp [sysOfL])
          rw [← hL] at hc hr hrow
          have hL3 : L.length ≤ 3 := by omega
          have hL0 : 0 < L.length := by omega
          have hcn : an = none → cn = 0 := by
            intro e
            obtain ⟨b', o', e', _⟩ := hr 0 hL0
            rw [e] at e'; cases e'
          have HRL := Lib.hid (hr.below (below_alloc wr (.cells #[] 3)) (by omega))
          have HEM := Lib.hid (OwI_empty wr 3)
          have hki : (k : Int) < (p.length : Int) := by omega
          have hbw : b < wr.heap.size := by omega
          have hSl : S.length ≤ 1048576 := by omega
          clear hr hL hrow
          go_wp2_with (at_builtin; first
            | (refine wpList_appIs Tryd.underlying38 Tryd.infoInt (wr.alloc (.cells #[] 3)) rfl _ _ rfl wr.heap.size (wr.heap.size + 1) (some ⟨wr.heap.size, 0, none⟩) 0 [] rfl HEM.out (by simp) _ _ an cn L rfl HRL.out hcn (by simp; omega) ?_; intro a3 c3 w3 hown3 hgrow3 hat3; rw [List.nil_append] at hown3; have HO3 := Lib.hid hown3; have HG3 := Lib.hid hgrow3; clear hown3 hgrow3 hat3; have hz3 : wr.heap.size + 1 ≤ w3.heap.size := (by have := HG3.out.size; simpa using this); have HP3 := Lib.hid (HO.out.agr (fun b h1 h2 => (HG3.out.block b (by simp; omega) (fun e => by simp [blockOf] at e; omega)).trans (Below.heap_alloc _ _ _ (by omega)))); have HB3 := Lib.hid (below_app HB.out HG3.out (fun k hk => by simp [blockOf] at hk; exact Nat.le_of_eq hk) hwz (Nat.le_refl _)))
            | (go_loud (refine wpList_appY Tryd.underlying25 Tryd.infoSaidI rfl _ rfl _ _ rfl w.heap.size wr.heap.size x c S rfl (HP3.out.agr ((Agr.refl _ _ _).alloc (by omega) _)) (by simp; omega) (by simp; omega) ⟨w3.heap.size, 0, none⟩ a3 c3 L 0 rfl (by rw [show ((⟨w3.heap.size, 0, none⟩ : Addr).add 0) = ⟨w3.heap.size, 0, none⟩ from rfl, World.cell?_alloc_at _ _ _ _ rfl]; first | rfl | simp) (by rw [show ((⟨w3.heap.size, 0, none⟩ : Addr).add 1) = ⟨w3.heap.size, 1, none⟩ from rfl, World.cell?_alloc_at _ _ _ _ rfl]; rfl) wr.heap.size w3.heap.size (HO3.out.agr ((Agr.refl _ _ _).alloc (Nat.le_refl _) _)) (Nat.le_refl _) hwz (by simp) hSl ?_); intro g5 c5 w5 hown5 hgrow5 hat5 hlt5; have HO5 := Lib.hid hown5; have HB5 := Lib.hid (below_app HB3.out hgrow5 (fun k hk => (HP3.out.block_in hk).1) (Nat.le_refl _) (Nat.le_refl _)); clear hown5 hgrow5 hat5 hlt5))
          go_roundw
          case rel => exact ⟨k + 1, some ⟨g5, 0, none⟩, c5, S ++ [(L, 0)], by omega, by go_num, by rw [List.length_append]; show S.length + 1 = _; omega, HTK.out.symm, by rw [List.length_append]; rfl, HO5.out, HB5.out⟩
          case measure => simp [intOf]; omega
        · obtain rfl : k = p.length := by omega
          have HSS : Hid (S = sysOfR p) := Lib.hid (by rw [HSE.out, HE.out.2, List.take_of_length_le (by rw [sysOfL_len]; exact Nat.le_refl _)])
          go_wp2_with fail
          go_ret2
          exact retYB_of HSS.out HO.out HB.out
    · have HP := Lib.hid hp
      have HE : Hid (sysOfB p = false ∧ sysOfR p = []) := Lib.hid (by
        have e : sysOfB p = false := by unfold sysOfB; rw [hp, decide_eq_false h3]; rfl
        exact ⟨e, by unfold sysOfR; rw [e]; rfl⟩)
      rw [HE.out.1]
      have h3i : (3 : Int) < (p.length : Int) := by omega
      clear hp
      go_enter Tryd.func13, Tryd.ntmps13
      go_wp2_with fail
      refine HOK.out.mono ?_
      rintro e w' ⟨rfl, rfl⟩
      rw [HP.out]
      go_wp2_with fail
      go_ret2
      exact retYB_of HE.out.2.symm ((OwY_empty w 3 44).mono (Nat.le_refl _) (by simp)) HB0.out
end Go.Proofs.YtiiohodkfipfbaaDoor
