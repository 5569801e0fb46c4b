/- The game played out: both ways of finding it. -/
import Derived.Test.YtodjkphelildeaaMove
namespace Go.Hyp
open Go.RowKit Go.Deep
/-- One round of the game for two nodes that are apart. -/
theorem best_step {p : List (List Int)} {i j : Nat} (hp : picB p = true) (hi : i < p.length) (hj : j < p.length) (hs : simB p i j = false) :
    ∃ f o m : Nat, (((bestM p i j).1 = 0 ∧ f = i ∧ o = j) ∨ ((bestM p i j).1 = 1 ∧ f = j ∧ o = i)) ∧ (bestM p i j).2 = m ∧ m < p.length ∧ f < p.length ∧ o < p.length ∧ arr p f m = true ∧
      ((heldN p i j = 0 ∧ arrL p o p.length = []) ∨ ∃ v : Nat, arrL p o p.length ≠ [] ∧ bestA p m o = v ∧ v < p.length ∧ simB p m v = false ∧ heldN p m v + 1 = heldN p i j) := by
  have h5 := (picB_sq hp).2.2
  obtain ⟨b1, b2, _⟩ := bestM_spec h5 hs
  obtain ⟨hn, hleft, _⟩ := heldN_apart hs
  have key : ∀ f m o : Nat, f < p.length → m < p.length → o < p.length → arr p f m = true → longA p m o < heldN p i j → (∀ k, heldN p i j = k + 1 → mtch p (left p k) f o = true) →
      ((heldN p i j = 0 ∧ arrL p o p.length = []) ∨ ∃ v : Nat, arrL p o p.length ≠ [] ∧ bestA p m o = v ∧ v < p.length ∧ simB p m v = false ∧ heldN p m v + 1 = heldN p i j) := by
    intro f m o hf hm ho ha hl hmt
    rcases Nat.eq_zero_or_pos (heldN p i j) with h0 | hpos
    · left
      refine ⟨h0, ?_⟩
      apply Classical.byContradiction
      intro hne
      obtain ⟨v, _, _, _, v4, _⟩ := bestA_some (m := m) hne
      omega
    · right
      obtain ⟨k, hk⟩ : ∃ k, heldN p i j = k + 1 := ⟨heldN p i j - 1, by omega⟩
      obtain ⟨u, hu, hou, hlu⟩ := mtch_iff.1 (hmt k hk) m hm ha
      have hne : arrL p o p.length ≠ [] := fun e => by
        have := arrL_mem.2 ⟨u, rfl, hu, hou⟩
        rw [e] at this; cases this
      obtain ⟨v, v1, v2, v3, v4, v5⟩ := bestA_some (m := m) hne
      have hv : heldN p m v < k + 1 := by omega
      have hsv : simB p m v = false := by
        cases e : simB p m v
        · rfl
        · have := (heldN_sim hm v2 e).1; omega
      have hsu : simB p m u = false := by
        cases e : simB p m u
        · rfl
        · have := (heldN_sim hm hu e).1
          have := v5 u hu hou
          omega
      have hku : k ≤ heldN p m u := by
        rcases Nat.lt_or_ge (heldN p m u) k with h | h
        · have := (heldN_apart hsu).2.2 k h
          rw [hlu] at this; cases this
        · exact h
      have := v5 u hu hou
      exact ⟨v, hne, v1, v2, hsv, by omega⟩
  have hm1 : ∀ k, heldN p i j = k + 1 → mtch p (left p k) i j = true ∧ mtch p (left p k) j i = true := fun k hk => by
    have := hleft (k + 1) (by omega)
    exact (left_succ.1 this).2
  rcases moves_mem.1 b1 with ⟨c1, c2⟩ | ⟨c1, c2⟩
  · obtain ⟨m, d1, d2, d3⟩ := arrL_mem.1 c2
    refine ⟨i, j, m, .inl ⟨c1, rfl, rfl⟩, d1, d2, hi, hj, d3, key i m j hi d2 hj d3 ?_ (fun k hk => (hm1 k hk).1)⟩
    unfold moveZ at b2
    rw [if_pos c1, d1] at b2
    exact b2
  · obtain ⟨m, d1, d2, d3⟩ := arrL_mem.1 c2
    refine ⟨j, i, m, .inr ⟨c1, rfl, rfl⟩, d1, d2, hj, hi, d3, key j m i hj d2 hi d3 ?_ (fun k hk => (hm1 k hk).2)⟩
    unfold moveZ at b2
    rw [if_neg (by rw [c1]; decide), d1] at b2
    exact b2
/-- The rounds of the game for two nodes that hold n rounds. -/
def playL (p : List (List Int)) : Nat → Nat → Nat → List (List Int)
  | 0, i, j => [[(bestM p i j).1, (bestM p i j).2, -1]]
  | n + 1, i, j => [(bestM p i j).1, (bestM p i j).2, bestA p (bestM p i j).2.toNat (if (bestM p i j).1 = 1 then i else j)] ::
      (if (bestM p i j).1 = 1 then playL p n (bestA p (bestM p i j).2.toNat i).toNat (bestM p i j).2.toNat else playL p n (bestM p i j).2.toNat (bestA p (bestM p i j).2.toNat j).toNat)
theorem playL_zero (p : List (List Int)) (i j : Nat) : playL p 0 i j = [[(bestM p i j).1, (bestM p i j).2, -1]] := rfl
theorem playL_succ (p : List (List Int)) (n i j : Nat) : playL p (n + 1) i j = [(bestM p i j).1, (bestM p i j).2, bestA p (bestM p i j).2.toNat (if (bestM p i j).1 = 1 then i else j)] ::
      (if (bestM p i j).1 = 1 then playL p n (bestA p (bestM p i j).2.toNat i).toNat (bestM p i j).2.toNat else playL p n (bestM p i j).2.toNat (bestA p (bestM p i j).2.toNat j).toNat) := rfl
theorem playL_len (p : List (List Int)) (n i j : Nat) : (playL p n i j).length = n + 1 ∧ lens (playL p n i j) = 3 * (n + 1) := by
  induction n generalizing i j with
  | zero => exact ⟨rfl, rfl⟩
  | succ n ih =>
    unfold playL
    constructor
    · rw [List.length_cons]
      split <;> rw [(ih _ _).1]
    · have e : ∀ (x : List Int) (L : List (List Int)), lens (x :: L) = x.length + lens L := fun x L => by unfold lens; simp
      rw [e]
      split <;> rw [(ih _ _).2] <;> simp <;> omega
/-- What PlayedOut answers. -/
def playedR (p : List (List Int)) (a b : Int) : List (List Int) := if heldOk p a b = true then playL p (heldN p a.toNat b.toNat) a.toNat b.toNat else []
theorem played_no {p : List (List Int)} {a b : Int} (h : heldOk p a b = false) : playedR p a b = [] := by unfold playedR; rw [h]; rfl
theorem played_yes {p : List (List Int)} {i j : Nat} (h : heldOk p i j = true) : playedR p i j = playL p (heldN p i j) i j := by unfold playedR; rw [h]; rfl
theorem heldN_sym2 (p : List (List Int)) (a b : Nat) : heldN p a b = heldN p b a := by
  unfold heldN
  have e : (fun r => !left p (r + 1) a b) = fun r => !left p (r + 1) b a := by funext r; rw [left_symm]
  rw [e]
theorem simB_sym2 (p : List (List Int)) (a b : Nat) : simB p a b = simB p b a := by unfold simB; rw [left_symm]
theorem playedOut_small (p : List (List Int)) (a b : Int) : (playedR p a b).length ≤ 1048576 ∧ lens (playedR p a b) ≤ 1048576 := by
  cases h : heldOk p a b
  · rw [played_no h]; exact ⟨by simp, by show 0 ≤ _; omega⟩
  · obtain ⟨i, j, rfl, rfl, hi, hj, hp, hs⟩ := heldOk_nodes2 h
    rw [played_yes h, (playL_len p _ i j).1, (playL_len p _ i j).2]
    have := (heldN_apart hs).1
    have := (picB_sq hp).2.2
    omega
/-- A new row of three. -/
theorem OwI_three (w : World) (E : Nat) (x y z : Int) : OwI (w.alloc (.cells #[.int .i64 x, .int .i64 y, .int .i64 z] E)) E w.heap.size (w.heap.size + 1) (some ⟨w.heap.size, 0, none⟩) 3 [x, y, z] := by
  refine .inr ⟨_, fun i => .int .i64 ([x, y, z].getD i 0), rfl, Nat.le_refl _, Nat.lt_succ_self _, World.rowIs_alloc w _ _ _ (fun i hi => ?_), Nat.le_refl _, by unfold maxLen; omega, fun i hi => rfl⟩
  match i, hi with
  | 0, _ => rfl
  | 1, _ => rfl
  | 2, _ => rfl
/-- A call that hands back new rows and a truth. -/
def RetIIB (E R : Nat) (p : List (List Int)) (b : Bool) (w : World) (e : Ending) (w' : World) : Prop :=
  ∃ a c, e = .returned (.tuple #[.slice a p.length c, .bool b]) ∧ OwII w' E R w.heap.size w'.heap.size a c p ∧ Below w.heap.size w w'
theorem retIIB_of {E R : Nat} {p q : List (List Int)} {b : Bool} {w w' : World} {a : Option Addr} {c : Nat} (e : p = q) (h : OwII w' E R w.heap.size w'.heap.size a c p) (hb : Below w.heap.size w w') : RetIIB E R q b w (.returned (.tuple #[.slice a p.length c, .bool b])) w' := by
  subst e; exact ⟨a, c, rfl, h, hb⟩
end Go.Hyp
namespace Go.Proofs.Ytodjkphelildeaa
open Go.RowKit Go.Hyp Go.Deep

set_option maxRecDepth 4000 in
set_option maxHeartbeats 1600000 in
theorem implPlayedOut_any (a : Option Addr) (cap : Nat) (p : List (List Int)) (i j : Int) (w : World) (B C : Nat) (h : RdII w B C a p) (hC : C ≤ w.heap.size) (hl : p.length ≤ maxLen) :
    Calls Try.prog 28 #[.slice a p.length cap, .int .i64 i, .int .i64 j] w (RetIIB 3 33 (playedR p i j) (heldOk p i j) w) := by
  have F := Lib.hid h
  have HL := Lib.hid hl
  unfold maxLen at hl
  clear h
  have HN := fun n => Lib.hid (hasNode_any a cap p n w B C F.out HL.out)
  cases h1 : nodeB p i
  · have e1 : heldOk p i j = false := by unfold heldOk; rw [h1]; rfl
    have E2 := Lib.hid (played_no e1)
    have H1 := Lib.hid h1
    rw [e1]
    clear h1 e1
    go_enter Try.func28, Try.ntmps28
    go_wp2_with fail
    refine (HN i).out.mono ?_
    rintro e w' ⟨rfl, rfl⟩
    rw [H1.out]
    go_wp2_with fail
    go_ret2
    exact retIIB_of E2.out.symm (OwII_nil _ _ _ _ _) (Below.refl _ _)
  · cases h2 : nodeB p j
    · have e1 : heldOk p i j = false := by unfold heldOk; rw [h1, h2]; rfl
      have E2 := Lib.hid (played_no e1)
      have H1 := Lib.hid h1
      have H2 := Lib.hid h2
      rw [e1]
      clear h1 h2 e1
      go_enter Try.func28, Try.ntmps28
      go_wp2_with fail
      refine (HN i).out.mono ?_
      rintro e w' ⟨rfl, rfl⟩
      rw [H1.out]
      go_wp2_with fail
      refine (HN j).out.mono ?_
      rintro e w' ⟨rfl, rfl⟩
      rw [H2.out]
      go_wp2_with fail
      go_ret2
      exact retIIB_of E2.out.symm (OwII_nil _ _ _ _ _) (Below.refl _ _)
    · obtain ⟨n, rfl, hn, hp⟩ := nodeB_nat h1
      obtain ⟨m, rfl, hm, _⟩ := nodeB_nat h2
      obtain ⟨sq, s1, s5⟩ := picB_sq hp
      have HS := Lib.hid sq
      have HP := Lib.hid hp
      have H1 := Lib.hid h1
      have H2 := Lib.hid h2
      have hok : heldOk p n m = !simB p n m := by unfold heldOk; rw [h1, h2]; rfl
      cases h3 : simB p n m
      · have e1 : heldOk p n m = true := by rw [hok, h3]; rfl
        have E1 := Lib.hid e1
        have E2 := Lib.hid (played_yes e1)
        have H3 := Lib.hid h3
        rw [e1]
        obtain ⟨hlt, _, _⟩ := heldN_apart h3
        have hne : ((heldN p n m : Int) == 1000) = false := beq_eq_false_iff_ne.2 (by omega)
        clear h1 h2 h3 e1 sq hp hok
        go_enter Try.func28, Try.ntmps28
        go_wp2_with fail
        refine (HN n).out.mono ?_
        rintro e w' ⟨rfl, rfl⟩
        rw [H1.out]
        go_wp2_with fail
        refine (HN m).out.mono ?_
        rintro e w' ⟨rfl, rfl⟩
        rw [H2.out]
        go_wp2_with fail
        refine (heldFor_any a cap p n m _ B C F.out hC HS.out hn hm (by omega)).mono ?_
        rintro e w1 ⟨rfl, hb⟩
        have HB := Lib.hid (hb.alloc hb.size (.cells #[] 33))
        have HO := Lib.hid (OwII_empty w1 3 33)
        have hz1 : w.heap.size ≤ w1.heap.size := hb.size
        clear hb
        go_wp2_with fail
        rename_i hzz
        clear hzz hne
        go_loopw [1, 2, 8] (fun x y l wr => ∃ (xn yn : Nat) (L : List (List Int)) (a' : Option Addr) (c' : Nat), x = .int .i64 xn ∧ y = .int .i64 yn ∧ xn < p.length ∧ yn < p.length ∧ simB p xn yn = false ∧ l = .slice a' L.length c' ∧ L.length ≤ 1048576 ∧ L ++ playL p (heldN p xn yn) xn yn = playL p (heldN p n m) n m ∧ OwII wr 3 33 w.heap.size wr.heap.size a' c' L ∧ Below w.heap.size w wr) (fun x y _ _ => heldN p (intOf x).toNat (intOf y).toNat)
        case atStart => exact ⟨n, m, [], _, 0, rfl, rfl, hn, hm, H3.out, rfl, by simp, rfl, HO.out.mono hz1 (by simp), HB.out⟩
        case round =>
          obtain ⟨x, y, L, a', c', rfl, rfl, hx, hy, hsim, rfl, hLl, hL, ho, hb⟩ := hrel
          have HB2 := Lib.hid hb
          have HO2 := Lib.hid ho
          have HLL := Lib.hid hL
          have hzr : w.heap.size ≤ wr.heap.size := hb.size
          have hL5 : L.length + heldN p x y = heldN p n m := by
            have := congrArg List.length hL
            rw [List.length_append, (playL_len p _ x y).1, (playL_len p _ n m).1] at this
            omega
          clear hb ho hL HB HO
          obtain ⟨f, o, mm, hside, hmm, hmp, hf, hoo, ha, hcase⟩ := best_step HP.out hx hy hsim
          have hcall := moveOf_any a cap p x y wr B C (F.out.below HB2.out hC) (by omega) HS.out hx hy (by omega)
          rw [hmm] at hcall
          rcases hside with ⟨hS, e1, e2⟩ | ⟨hS, e1, e2⟩
          · obtain rfl : x = f := e1.symm
            obtain rfl : y = o := e2.symm
            rw [hS] at hcall
            have HCALL := Lib.hid hcall
            have hoi : (y : Int) < (p.length : Int) := by omega
            rcases hcase with ⟨h0, hem⟩ | ⟨v, hne2, hv, hvp, hsv, hh⟩
            · have HEQ : Hid (L ++ [[(0 : Int), (mm : Int), -1]] = playL p (heldN p n m) n m) := Lib.hid (by
                have := HLL.out
                rw [h0, playL_zero] at this
                rw [hS, hmm] at this
                exact this)
              have HBA := Lib.hid (bestA_none (m := mm) hem).1
              clear hS hmm ha hem hcall hsim
              go_wp2_with fail
              refine HCALL.out.mono ?_
              rintro e w3 ⟨rfl, hb3⟩
              have HB3 := Lib.hid (HB2.out.trans (hb3.mono hzr))
              have HO3 := Lib.hid (HO2.out.below hb3 (Nat.le_refl _))
              have hz3 : wr.heap.size ≤ w3.heap.size := hb3.size
              clear hb3
              go_wp2_with fail
              refine (answerTo_any a cap p mm y w3 B C (F.out.below HB3.out hC) (by omega) HS.out hmp hoo (by omega)).mono ?_
              rintro e w4 ⟨rfl, hb4⟩
              rw [HBA.out]
              have HB4 := Lib.hid (HB3.out.trans (hb4.mono HB3.out.size))
              have HO4 := Lib.hid (HO3.out.below hb4 hz3)
              have hz4 : w3.heap.size ≤ w4.heap.size := hb4.size
              clear hb4 HO3 HB3
              go_wp2_with (at_builtin; go_loud (refine wpList_appII Try.underlying22 Try.infoRow _ rfl _ _ rfl w.heap.size wr.heap.size a' c' L rfl (HO4.out.agr (((Agr.refl _ _ _).alloc (by omega) _).alloc (by simp; omega) _)) (by simp; omega) (by simp; omega) ⟨w4.heap.size + 1, 0, none⟩ (some ⟨w4.heap.size, 0, none⟩) 3 [(0 : Int), (mm : Int), -1] rfl (new_cellE _ _ _ (by simp)) w4.heap.size (w4.heap.size + 1) ((OwI_three w4 3 0 mm (-1)).agr ((Agr.refl _ _ _).alloc (by simp) _)) (by omega) (by omega) (by simp) hLl ?_); intro a1 c1 w5 hown hgrow hat; have HX := Lib.hid hown; have HG := Lib.hid hgrow; clear hown hgrow hat)
              have HB5 := Lib.hid (below_app (HB4.out.alloc HB4.out.size (.cells #[.int .i64 0, .int .i64 mm, .int .i64 (-1)] 3)) HG.out (HO4.out.app_in (Nat.le_refl _)) (Nat.le_refl _) (Nat.le_refl _))
              first | go_ret2 | (go_wp2_with fail; go_ret2)
              have := retIIB_of (b := true) (HEQ.out.trans E2.out.symm) HX.out HB5.out
              rw [List.length_append] at this
              exact this
            · have HEQ : Hid (L ++ [[(0 : Int), (mm : Int), (v : Int)]] ++ playL p (heldN p mm v) mm v = playL p (heldN p n m) n m) := Lib.hid (by
                have := HLL.out
                rw [← hh, playL_succ] at this
                rw [hS, hmm, Int.toNat_natCast] at this
                simp only [Int.reduceEq, if_true, if_false, reduceIte] at this
                rw [hv, Int.toNat_natCast] at this
                rw [List.append_assoc]
                exact this)
              have HBA := Lib.hid hv
              have HSV : Hid (simB p mm v = false) := Lib.hid (by exact hsv)
              have HHH : Hid (heldN p mm v + 1 = heldN p x y) := Lib.hid (by rw [← hh])
              clear hS hmm ha hne2 hcall hsim hv hsv
              go_wp2_with fail
              refine HCALL.out.mono ?_
              rintro e w3 ⟨rfl, hb3⟩
              have HB3 := Lib.hid (HB2.out.trans (hb3.mono hzr))
              have HO3 := Lib.hid (HO2.out.below hb3 (Nat.le_refl _))
              have hz3 : wr.heap.size ≤ w3.heap.size := hb3.size
              clear hb3
              go_wp2_with fail
              refine (answerTo_any a cap p mm y w3 B C (F.out.below HB3.out hC) (by omega) HS.out hmp hoo (by omega)).mono ?_
              rintro e w4 ⟨rfl, hb4⟩
              rw [HBA.out]
              have HB4 := Lib.hid (HB3.out.trans (hb4.mono HB3.out.size))
              have HO4 := Lib.hid (HO3.out.below hb4 hz3)
              have hz4 : w3.heap.size ≤ w4.heap.size := hb4.size
              clear hb4 HO3 HB3
              go_wp2_with (at_builtin; go_loud (refine wpList_appII Try.underlying22 Try.infoRow _ rfl _ _ rfl w.heap.size wr.heap.size a' c' L rfl (HO4.out.agr (((Agr.refl _ _ _).alloc (by omega) _).alloc (by simp; omega) _)) (by simp; omega) (by simp; omega) ⟨w4.heap.size + 1, 0, none⟩ (some ⟨w4.heap.size, 0, none⟩) 3 [(0 : Int), (mm : Int), (v : Int)] rfl (new_cellE _ _ _ (by simp)) w4.heap.size (w4.heap.size + 1) ((OwI_three w4 3 0 mm v).agr ((Agr.refl _ _ _).alloc (by simp) _)) (by omega) (by omega) (by simp) hLl ?_); intro a1 c1 w5 hown hgrow hat; have HX := Lib.hid hown; have HG := Lib.hid hgrow; clear hown hgrow hat)
              have HB5 := Lib.hid (below_app (HB4.out.alloc HB4.out.size (.cells #[.int .i64 0, .int .i64 mm, .int .i64 v] 3)) HG.out (HO4.out.app_in (Nat.le_refl _)) (Nat.le_refl _) (Nat.le_refl _))
              first | go_roundw | (go_wp2_with fail; go_roundw)
              case rel =>
                have e4 : Value.slice a1 (L.length + 1) c1 = .slice a1 (L ++ [[(0 : Int), (mm : Int), (v : Int)]]).length c1 := by rw [List.length_append]; rfl
                have e5 : (L ++ [[(0 : Int), (mm : Int), (v : Int)]]).length ≤ 1048576 := by rw [List.length_append]; show L.length + 1 ≤ _; omega
                first
                  | exact ⟨mm, v, L ++ [[(0 : Int), (mm : Int), (v : Int)]], a1, c1, rfl, rfl, by omega, by omega, HSV.out, e4, e5, HEQ.out, HX.out, HB5.out⟩
                  | ((repeat apply Exists.intro); exact ⟨⟨mm, v, L ++ [[(0 : Int), (mm : Int), (v : Int)]], a1, c1, rfl, rfl, by omega, by omega, HSV.out, e4, e5, HEQ.out, HX.out, HB5.out⟩, rfl⟩)
              case measure => have := HHH.out; simp [intOf]; omega
          · obtain rfl : y = f := e1.symm
            obtain rfl : x = o := e2.symm
            rw [hS] at hcall
            have HCALL := Lib.hid hcall
            have hoi : (x : Int) < (p.length : Int) := by omega
            rcases hcase with ⟨h0, hem⟩ | ⟨v, hne2, hv, hvp, hsv, hh⟩
            · have HEQ : Hid (L ++ [[(1 : Int), (mm : Int), -1]] = playL p (heldN p n m) n m) := Lib.hid (by
                have := HLL.out
                rw [h0, playL_zero] at this
                rw [hS, hmm] at this
                exact this)
              have HBA := Lib.hid (bestA_none (m := mm) hem).1
              clear hS hmm ha hem hcall hsim
              go_wp2_with fail
              refine HCALL.out.mono ?_
              rintro e w3 ⟨rfl, hb3⟩
              have HB3 := Lib.hid (HB2.out.trans (hb3.mono hzr))
              have HO3 := Lib.hid (HO2.out.below hb3 (Nat.le_refl _))
              have hz3 : wr.heap.size ≤ w3.heap.size := hb3.size
              clear hb3
              go_wp2_with fail
              refine (answerTo_any a cap p mm x w3 B C (F.out.below HB3.out hC) (by omega) HS.out hmp hoo (by omega)).mono ?_
              rintro e w4 ⟨rfl, hb4⟩
              rw [HBA.out]
              have HB4 := Lib.hid (HB3.out.trans (hb4.mono HB3.out.size))
              have HO4 := Lib.hid (HO3.out.below hb4 hz3)
              have hz4 : w3.heap.size ≤ w4.heap.size := hb4.size
              clear hb4 HO3 HB3
              go_wp2_with (at_builtin; go_loud (refine wpList_appII Try.underlying22 Try.infoRow _ rfl _ _ rfl w.heap.size wr.heap.size a' c' L rfl (HO4.out.agr (((Agr.refl _ _ _).alloc (by omega) _).alloc (by simp; omega) _)) (by simp; omega) (by simp; omega) ⟨w4.heap.size + 1, 0, none⟩ (some ⟨w4.heap.size, 0, none⟩) 3 [(1 : Int), (mm : Int), -1] rfl (new_cellE _ _ _ (by simp)) w4.heap.size (w4.heap.size + 1) ((OwI_three w4 3 1 mm (-1)).agr ((Agr.refl _ _ _).alloc (by simp) _)) (by omega) (by omega) (by simp) hLl ?_); intro a1 c1 w5 hown hgrow hat; have HX := Lib.hid hown; have HG := Lib.hid hgrow; clear hown hgrow hat)
              have HB5 := Lib.hid (below_app (HB4.out.alloc HB4.out.size (.cells #[.int .i64 1, .int .i64 mm, .int .i64 (-1)] 3)) HG.out (HO4.out.app_in (Nat.le_refl _)) (Nat.le_refl _) (Nat.le_refl _))
              first | go_ret2 | (go_wp2_with fail; go_ret2)
              have := retIIB_of (b := true) (HEQ.out.trans E2.out.symm) HX.out HB5.out
              rw [List.length_append] at this
              exact this
            · have HEQ : Hid (L ++ [[(1 : Int), (mm : Int), (v : Int)]] ++ playL p (heldN p v mm) v mm = playL p (heldN p n m) n m) := Lib.hid (by
                have := HLL.out
                rw [← hh, playL_succ, heldN_sym2 p mm v] at this
                rw [hS, hmm, Int.toNat_natCast] at this
                simp only [Int.reduceEq, if_true, if_false, reduceIte] at this
                rw [hv, Int.toNat_natCast] at this
                rw [List.append_assoc]
                exact this)
              have HBA := Lib.hid hv
              have HSV : Hid (simB p v mm = false) := Lib.hid (by rw [simB_sym2]; exact hsv)
              have HHH : Hid (heldN p v mm + 1 = heldN p x y) := Lib.hid (by rw [← hh, heldN_sym2 p v mm])
              clear hS hmm ha hne2 hcall hsim hv hsv
              go_wp2_with fail
              refine HCALL.out.mono ?_
              rintro e w3 ⟨rfl, hb3⟩
              have HB3 := Lib.hid (HB2.out.trans (hb3.mono hzr))
              have HO3 := Lib.hid (HO2.out.below hb3 (Nat.le_refl _))
              have hz3 : wr.heap.size ≤ w3.heap.size := hb3.size
              clear hb3
              go_wp2_with fail
              refine (answerTo_any a cap p mm x w3 B C (F.out.below HB3.out hC) (by omega) HS.out hmp hoo (by omega)).mono ?_
              rintro e w4 ⟨rfl, hb4⟩
              rw [HBA.out]
              have HB4 := Lib.hid (HB3.out.trans (hb4.mono HB3.out.size))
              have HO4 := Lib.hid (HO3.out.below hb4 hz3)
              have hz4 : w3.heap.size ≤ w4.heap.size := hb4.size
              clear hb4 HO3 HB3
              go_wp2_with (at_builtin; go_loud (refine wpList_appII Try.underlying22 Try.infoRow _ rfl _ _ rfl w.heap.size wr.heap.size a' c' L rfl (HO4.out.agr (((Agr.refl _ _ _).alloc (by omega) _).alloc (by simp; omega) _)) (by simp; omega) (by simp; omega) ⟨w4.heap.size + 1, 0, none⟩ (some ⟨w4.heap.size, 0, none⟩) 3 [(1 : Int), (mm : Int), (v : Int)] rfl (new_cellE _ _ _ (by simp)) w4.heap.size (w4.heap.size + 1) ((OwI_three w4 3 1 mm v).agr ((Agr.refl _ _ _).alloc (by simp) _)) (by omega) (by omega) (by simp) hLl ?_); intro a1 c1 w5 hown hgrow hat; have HX := Lib.hid hown; have HG := Lib.hid hgrow; clear hown hgrow hat)
              have HB5 := Lib.hid (below_app (HB4.out.alloc HB4.out.size (.cells #[.int .i64 1, .int .i64 mm, .int .i64 v] 3)) HG.out (HO4.out.app_in (Nat.le_refl _)) (Nat.le_refl _) (Nat.le_refl _))
              first | go_roundw | (go_wp2_with fail; go_roundw)
              case rel =>
                have e4 : Value.slice a1 (L.length + 1) c1 = .slice a1 (L ++ [[(1 : Int), (mm : Int), (v : Int)]]).length c1 := by rw [List.length_append]; rfl
                have e5 : (L ++ [[(1 : Int), (mm : Int), (v : Int)]]).length ≤ 1048576 := by rw [List.length_append]; show L.length + 1 ≤ _; omega
                first
                  | exact ⟨v, mm, L ++ [[(1 : Int), (mm : Int), (v : Int)]], a1, c1, rfl, rfl, by omega, by omega, HSV.out, e4, e5, HEQ.out, HX.out, HB5.out⟩
                  | ((repeat apply Exists.intro); exact ⟨⟨v, mm, L ++ [[(1 : Int), (mm : Int), (v : Int)]], a1, c1, rfl, rfl, by omega, by omega, HSV.out, e4, e5, HEQ.out, HX.out, HB5.out⟩, rfl⟩)
              case measure => have := HHH.out; simp [intOf]; omega
      · have e1 : heldOk p n m = false := by rw [hok, h3]; rfl
        have E1 := Lib.hid e1
        have E2 := Lib.hid (played_no e1)
        have hne : ((heldN p n m : Int) == 1000) = true := by rw [(heldN_sim hn hm h3).1]; rfl
        clear h1 h2 h3 e1 sq hp hok
        rw [E1.out]
        go_enter Try.func28, Try.ntmps28
        go_wp2_with fail
        refine (HN n).out.mono ?_
        rintro e w' ⟨rfl, rfl⟩
        rw [H1.out]
        go_wp2_with fail
        refine (HN m).out.mono ?_
        rintro e w' ⟨rfl, rfl⟩
        rw [H2.out]
        go_wp2_with fail
        refine (heldFor_any a cap p n m _ B C F.out hC HS.out hn hm (by omega)).mono ?_
        rintro e w1 ⟨rfl, hb⟩
        go_wp2_with fail
        go_ret2
        exact retIIB_of E2.out.symm (OwII_nil _ _ _ _ _) hb

set_option maxRecDepth 4000 in
set_option maxHeartbeats 1600000 in
theorem specPlayedOut_any (a : Option Addr) (cap : Nat) (p : List (List Int)) (i j : Int) (w : World) (B C : Nat) (h : RdII w B C a p) (hC : C ≤ w.heap.size) (hl : p.length ≤ maxLen) :
    Calls Try.prog 27 #[.slice a p.length cap, .int .i64 i, .int .i64 j] w (RetIIB 3 33 (playedR p i j) (heldOk p i j) w) := by
  have F := Lib.hid h
  have HL := Lib.hid hl
  clear h
  have HB0 := Lib.hid (below_alloc w (.cells #[] 33))
  have HO0 := Lib.hid (OwII_empty w 3 33)
  have hcall := specHeldFor_any a cap p i j _ B C (F.out.below HB0.out hC) (by simp; omega) HL.out
  cases hok : heldOk p i j
  · rw [hok] at hcall
    have HC := Lib.hid hcall
    have E2 := Lib.hid (played_no hok)
    clear hok hcall
    go_enter Try.func27, Try.ntmps27
    go_wp2_with fail
    refine HC.out.mono ?_
    rintro e w1 ⟨rfl, hb⟩
    have HO1 := Lib.hid (HO0.out.below hb (by simp))
    have HB1 := Lib.hid (HB0.out.trans (hb.mono (by simp)))
    have hz1 : (w.alloc (.cells #[] 33)).heap.size ≤ w1.heap.size := hb.size
    simp at hz1
    clear hb
    go_wp2_with fail
    go_ret2
    exact retIIB_of E2.out.symm (HO1.out.mono (Nat.le_refl _) hz1) HB1.out
  · obtain ⟨n, m, rfl, rfl, hn, hm, hp, h3⟩ := heldOk_nodes2 hok
    obtain ⟨sq, s1, s5⟩ := picB_sq hp
    rw [hok] at hcall
    have HC := Lib.hid hcall
    have E2 := Lib.hid (played_yes hok)
    have HS := Lib.hid sq
    have HP := Lib.hid hp
    have H3 := Lib.hid h3
    obtain ⟨hlt, _, _⟩ := heldN_apart h3
    clear hok hcall sq hp h3
    go_enter Try.func27, Try.ntmps27
    go_wp2_with fail
    refine HC.out.mono ?_
    rintro e w1 ⟨rfl, hb⟩
    have HO := Lib.hid (HO0.out.below hb (by simp))
    have HB := Lib.hid (HB0.out.trans (hb.mono (by simp)))
    have hz1 : (w.alloc (.cells #[] 33)).heap.size ≤ w1.heap.size := hb.size
    simp at hz1
    clear hb HC
    go_wp2_with fail
    go_loopw [11, 12, 8] (fun x y l wr => ∃ (xn yn : Nat) (L : List (List Int)) (a' : Option Addr) (c' : Nat), x = .int .i64 xn ∧ y = .int .i64 yn ∧ xn < p.length ∧ yn < p.length ∧ simB p xn yn = false ∧ l = .slice a' L.length c' ∧ L.length ≤ 1048576 ∧ L ++ playL p (heldN p xn yn) xn yn = playL p (heldN p n m) n m ∧ OwII wr 3 33 w.heap.size wr.heap.size a' c' L ∧ Below w.heap.size w wr) (fun x y _ _ => heldN p (intOf x).toNat (intOf y).toNat)
    case atStart => exact ⟨n, m, [], _, 0, rfl, rfl, hn, hm, H3.out, rfl, by simp, rfl, HO.out.mono (Nat.le_refl _) hz1, HB.out⟩
    case round =>
      obtain ⟨x, y, L, a', c', rfl, rfl, hx, hy, hsim, rfl, hLl, hL, ho, hb⟩ := hrel
      have HB2 := Lib.hid hb
      have HO2 := Lib.hid ho
      have HLL := Lib.hid hL
      have hzr : w.heap.size ≤ wr.heap.size := hb.size
      have hL5 : L.length + heldN p x y = heldN p n m := by
        have := congrArg List.length hL
        rw [List.length_append, (playL_len p _ x y).1, (playL_len p _ n m).1] at this
        omega
      clear hb ho hL HB HO
      obtain ⟨f, o, mm, hside, hmm, hmp, hf, hoo, ha, hcase⟩ := best_step HP.out hx hy hsim
      have hok : heldOk p x y = true := by unfold heldOk; rw [nodeB_of HP.out hx, nodeB_of HP.out hy, Int.toNat_natCast, Int.toNat_natCast, hsim]; rfl
      have hcall := specMoveOf_any a cap p x y wr B C (F.out.below HB2.out hC) (by omega) HL.out
      rw [hok, (move_yes hok).1, (move_yes hok).2, hmm] at hcall
      have hao : answerOk p f mm o = !(arrL p o p.length).isEmpty := by unfold answerOk; rw [nodeB_of HP.out hf, nodeB_of HP.out hmp, nodeB_of HP.out hoo, Int.toNat_natCast, Int.toNat_natCast, Int.toNat_natCast, ha]; rfl
      clear hok
      rcases hside with ⟨hS, e1, e2⟩ | ⟨hS, e1, e2⟩
      · obtain rfl : x = f := e1.symm
        obtain rfl : y = o := e2.symm
        rw [hS] at hcall
        have HCALL := Lib.hid hcall
        have hoi : (y : Int) < (p.length : Int) := by omega
        rcases hcase with ⟨h0, hem⟩ | ⟨v, hne2, hv, hvp, hsv, hh⟩
        · have HEQ : Hid (L ++ [[(0 : Int), (mm : Int), -1]] = playL p (heldN p n m) n m) := Lib.hid (by
            have := HLL.out
            rw [h0, playL_zero] at this
            rw [hS, hmm] at this
            exact this)
          have hao2 : answerOk p x mm y = false := by rw [hao, hem]; rfl
          have HAO := Lib.hid hao2
          have HAI : Hid (answerI p x mm y = -1) := Lib.hid (by unfold answerI; rw [hao2]; rfl)
          clear hS hmm ha hem hcall hsim hao hao2
          go_wp2_with fail
          refine HCALL.out.mono ?_
          rintro e w3 ⟨rfl, hb3⟩
          have HB3 := Lib.hid (HB2.out.trans (hb3.mono hzr))
          have HO3 := Lib.hid (HO2.out.below hb3 (Nat.le_refl _))
          have hz3 : wr.heap.size ≤ w3.heap.size := hb3.size
          have hca := specAnswerTo_any a cap p x mm y w3 B C (F.out.below HB3.out hC) (by omega) HL.out
          rw [HAO.out, HAI.out] at hca
          have HCA := Lib.hid hca
          clear hb3 hca
          go_wp2_with fail
          refine HCA.out.mono ?_
          rintro e w4 ⟨rfl, hb4⟩
          have HB4 := Lib.hid (HB3.out.trans (hb4.mono HB3.out.size))
          have HO4 := Lib.hid (HO3.out.below hb4 hz3)
          have hz4 : w3.heap.size ≤ w4.heap.size := hb4.size
          clear hb4 HO3 HB3 HCA
          go_wp2_with (at_builtin; go_loud (refine wpList_appII Try.underlying22 Try.infoRow _ rfl _ _ rfl w.heap.size wr.heap.size a' c' L rfl (HO4.out.agr (((Agr.refl _ _ _).alloc (by omega) _).alloc (by simp; omega) _)) (by simp; omega) (by simp; omega) ⟨w4.heap.size + 1, 0, none⟩ (some ⟨w4.heap.size, 0, none⟩) 3 [(0 : Int), (mm : Int), -1] rfl (new_cellE _ _ _ (by simp)) w4.heap.size (w4.heap.size + 1) ((OwI_three w4 3 0 mm (-1)).agr ((Agr.refl _ _ _).alloc (by simp) _)) (by omega) (by omega) (by simp) hLl ?_); intro a1 c1 w5 hown hgrow hat; have HX := Lib.hid hown; have HG := Lib.hid hgrow; clear hown hgrow hat)
          have HB5 := Lib.hid (below_app (HB4.out.alloc HB4.out.size (.cells #[.int .i64 0, .int .i64 mm, .int .i64 (-1)] 3)) HG.out (HO4.out.app_in (Nat.le_refl _)) (Nat.le_refl _) (Nat.le_refl _))
          first | go_ret2 | (go_wp2_with fail; go_ret2)
          have := retIIB_of (b := true) (HEQ.out.trans E2.out.symm) HX.out HB5.out
          rw [List.length_append] at this
          exact this
        · have HEQ : Hid (L ++ [[(0 : Int), (mm : Int), (v : Int)]] ++ playL p (heldN p mm v) mm v = playL p (heldN p n m) n m) := Lib.hid (by
            have := HLL.out
            rw [← hh, playL_succ] at this
            rw [hS, hmm, Int.toNat_natCast] at this
            simp only [Int.reduceEq, if_true, if_false, reduceIte] at this
            rw [hv, Int.toNat_natCast] at this
            rw [List.append_assoc]
            exact this)
          have hao2 : answerOk p x mm y = true := by
            rw [hao]
            cases hq : arrL p y p.length with
            | nil => exact absurd hq hne2
            | cons _ _ => rfl
          have HAO := Lib.hid hao2
          have HAI : Hid (answerI p x mm y = v) := Lib.hid (by unfold answerI; rw [hao2, if_pos rfl, Int.toNat_natCast, Int.toNat_natCast, hv])
          have HSV : Hid (simB p mm v = false) := Lib.hid (by exact hsv)
          have HHH : Hid (heldN p mm v + 1 = heldN p x y) := Lib.hid (by rw [← hh])
          clear hS hmm ha hne2 hcall hsim hv hsv hao hao2
          go_wp2_with fail
          refine HCALL.out.mono ?_
          rintro e w3 ⟨rfl, hb3⟩
          have HB3 := Lib.hid (HB2.out.trans (hb3.mono hzr))
          have HO3 := Lib.hid (HO2.out.below hb3 (Nat.le_refl _))
          have hz3 : wr.heap.size ≤ w3.heap.size := hb3.size
          have hca := specAnswerTo_any a cap p x mm y w3 B C (F.out.below HB3.out hC) (by omega) HL.out
          rw [HAO.out, HAI.out] at hca
          have HCA := Lib.hid hca
          clear hb3 hca
          go_wp2_with fail
          refine HCA.out.mono ?_
          rintro e w4 ⟨rfl, hb4⟩
          have HB4 := Lib.hid (HB3.out.trans (hb4.mono HB3.out.size))
          have HO4 := Lib.hid (HO3.out.below hb4 hz3)
          have hz4 : w3.heap.size ≤ w4.heap.size := hb4.size
          clear hb4 HO3 HB3 HCA
          go_wp2_with (at_builtin; go_loud (refine wpList_appII Try.underlying22 Try.infoRow _ rfl _ _ rfl w.heap.size wr.heap.size a' c' L rfl (HO4.out.agr (((Agr.refl _ _ _).alloc (by omega) _).alloc (by simp; omega) _)) (by simp; omega) (by simp; omega) ⟨w4.heap.size + 1, 0, none⟩ (some ⟨w4.heap.size, 0, none⟩) 3 [(0 : Int), (mm : Int), v] rfl (new_cellE _ _ _ (by simp)) w4.heap.size (w4.heap.size + 1) ((OwI_three w4 3 0 mm (v)).agr ((Agr.refl _ _ _).alloc (by simp) _)) (by omega) (by omega) (by simp) hLl ?_); intro a1 c1 w5 hown hgrow hat; have HX := Lib.hid hown; have HG := Lib.hid hgrow; clear hown hgrow hat)
          have HB5 := Lib.hid (below_app (HB4.out.alloc HB4.out.size (.cells #[.int .i64 0, .int .i64 mm, .int .i64 (v)] 3)) HG.out (HO4.out.app_in (Nat.le_refl _)) (Nat.le_refl _) (Nat.le_refl _))
          first | go_roundw | (go_wp2_with fail; go_roundw)
          case rel =>
            have e4 : Value.slice a1 (L.length + 1) c1 = .slice a1 (L ++ [[(0 : Int), (mm : Int), (v : Int)]]).length c1 := by rw [List.length_append]; rfl
            have e5 : (L ++ [[(0 : Int), (mm : Int), (v : Int)]]).length ≤ 1048576 := by rw [List.length_append]; show L.length + 1 ≤ _; omega
            first
              | exact ⟨mm, v, L ++ [[(0 : Int), (mm : Int), (v : Int)]], a1, c1, rfl, rfl, by omega, by omega, HSV.out, e4, e5, HEQ.out, HX.out, HB5.out⟩
              | ((repeat apply Exists.intro); exact ⟨⟨mm, v, L ++ [[(0 : Int), (mm : Int), (v : Int)]], a1, c1, rfl, rfl, by omega, by omega, HSV.out, e4, e5, HEQ.out, HX.out, HB5.out⟩, rfl⟩)
          case measure => have := HHH.out; simp [intOf]; omega
      · obtain rfl : y = f := e1.symm
        obtain rfl : x = o := e2.symm
        rw [hS] at hcall
        have HCALL := Lib.hid hcall
        have hoi : (x : Int) < (p.length : Int) := by omega
        rcases hcase with ⟨h0, hem⟩ | ⟨v, hne2, hv, hvp, hsv, hh⟩
        · have HEQ : Hid (L ++ [[(1 : Int), (mm : Int), -1]] = playL p (heldN p n m) n m) := Lib.hid (by
            have := HLL.out
            rw [h0, playL_zero] at this
            rw [hS, hmm] at this
            exact this)
          have hao2 : answerOk p y mm x = false := by rw [hao, hem]; rfl
          have HAO := Lib.hid hao2
          have HAI : Hid (answerI p y mm x = -1) := Lib.hid (by unfold answerI; rw [hao2]; rfl)
          clear hS hmm ha hem hcall hsim hao hao2
          go_wp2_with fail
          refine HCALL.out.mono ?_
          rintro e w3 ⟨rfl, hb3⟩
          have HB3 := Lib.hid (HB2.out.trans (hb3.mono hzr))
          have HO3 := Lib.hid (HO2.out.below hb3 (Nat.le_refl _))
          have hz3 : wr.heap.size ≤ w3.heap.size := hb3.size
          have hca := specAnswerTo_any a cap p y mm x w3 B C (F.out.below HB3.out hC) (by omega) HL.out
          rw [HAO.out, HAI.out] at hca
          have HCA := Lib.hid hca
          clear hb3 hca
          go_wp2_with fail
          refine HCA.out.mono ?_
          rintro e w4 ⟨rfl, hb4⟩
          have HB4 := Lib.hid (HB3.out.trans (hb4.mono HB3.out.size))
          have HO4 := Lib.hid (HO3.out.below hb4 hz3)
          have hz4 : w3.heap.size ≤ w4.heap.size := hb4.size
          clear hb4 HO3 HB3 HCA
          go_wp2_with (at_builtin; go_loud (refine wpList_appII Try.underlying22 Try.infoRow _ rfl _ _ rfl w.heap.size wr.heap.size a' c' L rfl (HO4.out.agr (((Agr.refl _ _ _).alloc (by omega) _).alloc (by simp; omega) _)) (by simp; omega) (by simp; omega) ⟨w4.heap.size + 1, 0, none⟩ (some ⟨w4.heap.size, 0, none⟩) 3 [(1 : Int), (mm : Int), -1] rfl (new_cellE _ _ _ (by simp)) w4.heap.size (w4.heap.size + 1) ((OwI_three w4 3 1 mm (-1)).agr ((Agr.refl _ _ _).alloc (by simp) _)) (by omega) (by omega) (by simp) hLl ?_); intro a1 c1 w5 hown hgrow hat; have HX := Lib.hid hown; have HG := Lib.hid hgrow; clear hown hgrow hat)
          have HB5 := Lib.hid (below_app (HB4.out.alloc HB4.out.size (.cells #[.int .i64 1, .int .i64 mm, .int .i64 (-1)] 3)) HG.out (HO4.out.app_in (Nat.le_refl _)) (Nat.le_refl _) (Nat.le_refl _))
          first | go_ret2 | (go_wp2_with fail; go_ret2)
          have := retIIB_of (b := true) (HEQ.out.trans E2.out.symm) HX.out HB5.out
          rw [List.length_append] at this
          exact this
        · have HEQ : Hid (L ++ [[(1 : Int), (mm : Int), (v : Int)]] ++ playL p (heldN p v mm) v mm = playL p (heldN p n m) n m) := Lib.hid (by
            have := HLL.out
            rw [← hh, playL_succ, heldN_sym2 p mm v] at this
            rw [hS, hmm, Int.toNat_natCast] at this
            simp only [Int.reduceEq, if_true, if_false, reduceIte] at this
            rw [hv, Int.toNat_natCast] at this
            rw [List.append_assoc]
            exact this)
          have hao2 : answerOk p y mm x = true := by
            rw [hao]
            cases hq : arrL p x p.length with
            | nil => exact absurd hq hne2
            | cons _ _ => rfl
          have HAO := Lib.hid hao2
          have HAI : Hid (answerI p y mm x = v) := Lib.hid (by unfold answerI; rw [hao2, if_pos rfl, Int.toNat_natCast, Int.toNat_natCast, hv])
          have HSV : Hid (simB p v mm = false) := Lib.hid (by rw [simB_sym2]; exact hsv)
          have HHH : Hid (heldN p v mm + 1 = heldN p x y) := Lib.hid (by rw [← hh, heldN_sym2 p v mm])
          clear hS hmm ha hne2 hcall hsim hv hsv hao hao2
          go_wp2_with fail
          refine HCALL.out.mono ?_
          rintro e w3 ⟨rfl, hb3⟩
          have HB3 := Lib.hid (HB2.out.trans (hb3.mono hzr))
          have HO3 := Lib.hid (HO2.out.below hb3 (Nat.le_refl _))
          have hz3 : wr.heap.size ≤ w3.heap.size := hb3.size
          have hca := specAnswerTo_any a cap p y mm x w3 B C (F.out.below HB3.out hC) (by omega) HL.out
          rw [HAO.out, HAI.out] at hca
          have HCA := Lib.hid hca
          clear hb3 hca
          go_wp2_with fail
          refine HCA.out.mono ?_
          rintro e w4 ⟨rfl, hb4⟩
          have HB4 := Lib.hid (HB3.out.trans (hb4.mono HB3.out.size))
          have HO4 := Lib.hid (HO3.out.below hb4 hz3)
          have hz4 : w3.heap.size ≤ w4.heap.size := hb4.size
          clear hb4 HO3 HB3 HCA
          go_wp2_with (at_builtin; go_loud (refine wpList_appII Try.underlying22 Try.infoRow _ rfl _ _ rfl w.heap.size wr.heap.size a' c' L rfl (HO4.out.agr (((Agr.refl _ _ _).alloc (by omega) _).alloc (by simp; omega) _)) (by simp; omega) (by simp; omega) ⟨w4.heap.size + 1, 0, none⟩ (some ⟨w4.heap.size, 0, none⟩) 3 [(1 : Int), (mm : Int), v] rfl (new_cellE _ _ _ (by simp)) w4.heap.size (w4.heap.size + 1) ((OwI_three w4 3 1 mm (v)).agr ((Agr.refl _ _ _).alloc (by simp) _)) (by omega) (by omega) (by simp) hLl ?_); intro a1 c1 w5 hown hgrow hat; have HX := Lib.hid hown; have HG := Lib.hid hgrow; clear hown hgrow hat)
          have HB5 := Lib.hid (below_app (HB4.out.alloc HB4.out.size (.cells #[.int .i64 1, .int .i64 mm, .int .i64 (v)] 3)) HG.out (HO4.out.app_in (Nat.le_refl _)) (Nat.le_refl _) (Nat.le_refl _))
          first | go_roundw | (go_wp2_with fail; go_roundw)
          case rel =>
            have e4 : Value.slice a1 (L.length + 1) c1 = .slice a1 (L ++ [[(1 : Int), (mm : Int), (v : Int)]]).length c1 := by rw [List.length_append]; rfl
            have e5 : (L ++ [[(1 : Int), (mm : Int), (v : Int)]]).length ≤ 1048576 := by rw [List.length_append]; show L.length + 1 ≤ _; omega
            first
              | exact ⟨v, mm, L ++ [[(1 : Int), (mm : Int), (v : Int)]], a1, c1, rfl, rfl, by omega, by omega, HSV.out, e4, e5, HEQ.out, HX.out, HB5.out⟩
              | ((repeat apply Exists.intro); exact ⟨⟨v, mm, L ++ [[(1 : Int), (mm : Int), (v : Int)]], a1, c1, rfl, rfl, by omega, by omega, HSV.out, e4, e5, HEQ.out, HX.out, HB5.out⟩, rfl⟩)
          case measure => have := HHH.out; simp [intOf]; omega
end Go.Proofs.Ytodjkphelildeaa
