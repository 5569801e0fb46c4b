/- Walks of the functions that ask for a stream's bit at a place. Walks of the functions by which the laws draw: the reader of a code, and what it picks. -/
import Derived.IntWalk
import Derived.Test.YtgfoolneophkcaaM3
namespace Go.Proofs.Ytgfoolneophkcaa
open Go.RowKit Go.Hyp Go.Deep

set_option maxHeartbeats 400000 in
theorem specBitAt_any (a1 a2 : Option Addr) (c1 c2 : Nat) (l1 l2 : List Int) (n : Int) (w : World) (B C B' C' : Nat) (h1 : RdI w B C a1 l1) (h2 : RdI w B' C' a2 l2) (hC : C ≤ w.heap.size) (hC' : C' ≤ w.heap.size)
    (hl1 : l1.length ≤ 1048576) (hl2 : l2.length ≤ 1048576) :
    Calls Try.prog 69 #[.agg #[.slice a1 l1.length c1, .slice a2 l2.length c2], .int .i64 n] w fun e w' => e = .returned (.int .i64 (bitAtI l1 l2 n)) ∧ Below w.heap.size w w' := by
  have hb0 := below_alloc w (.cells #[.slice a1 l1.length c1, .slice a2 l2.length c2] 34)
  have F1 := Lib.hid (h1.below hb0 hC)
  have F2 := Lib.hid (h2.below hb0 hC')
  have B0 := Lib.hid (alloc1 w (.cells #[.slice a1 l1.length c1, .slice a2 l2.length c2] 34))
  have H0 := Lib.hid hb0
  clear h1 h2 hb0
  have hx : streamB l1 l2 = true ∨ streamB l1 l2 = false := by cases streamB l1 l2 <;> simp
  generalize hy : streamB l1 l2 = y at hx
  have HY := Lib.hid hy
  clear hy
  rcases hx with rfl | rfl
  · have hx : (decide (0 ≤ n) && decide (n ≤ 999)) = true ∨ (decide (0 ≤ n) && decide (n ≤ 999)) = false := by cases (decide (0 ≤ n) && decide (n ≤ 999)) <;> simp
    generalize hy : (decide (0 ≤ n) && decide (n ≤ 999)) = y at hx
    have HZ := Lib.hid hy
    clear hy
    rcases hx with rfl | rfl
    · obtain ⟨h0, h9⟩ : 0 ≤ n ∧ n ≤ 999 := by have := HZ.out; simpa using this
      obtain ⟨k, rfl⟩ := Int.eq_ofNat_of_zero_le h0
      have hpos := streamB_pos HY.out
      have E : Hid (bitAtI l1 l2 k = bitOf l1 l2 k) := by
        show _ = _
        unfold bitAtI; rw [HY.out]; simp [h0, h9]
      by_cases hlt : k < l1.length
      · go_enter Try.func69, Try.ntmps69
        go_wp2_with fail
        refine (specStreamOk_any _ _ _ _ _ _ _ _ _ _ _ F1.out F2.out (by simp; omega) (by simp; omega) hl1 hl2).mono ?_
        rintro e w1 ⟨rfl, hb1⟩
        rw [HY.out]
        obtain ⟨p1, p2, _, _⟩ := blk2 (hb1.blk B0.out (by simp))
        have H1 := Lib.hid (below_trans H0.out hb1)
        obtain ⟨b, off, rfl, _, _, hc⟩ := (F1.out.below hb1 (by simp; omega)).at k hlt
        have e : Hid (l1[k] = bitOf l1 l2 k) := by
          show _ = _
          unfold bitOf; rw [if_pos hlt]; simp [List.getD, hlt]
        clear hb1
        go_wp2_with (go_at_call 64; refine (l1In_any _ _ _ _).mono ?_; rintro e w' ⟨rfl, rfl⟩; rw [HZ.out])
        go_ret
        exact ⟨ret_int (by rw [E.out]; exact e.out), H1.out⟩
      · obtain ⟨j, hj⟩ : ∃ j : Nat, j = k - l1.length := ⟨_, rfl⟩
        obtain ⟨m, hm⟩ : ∃ m : Nat, m = j % l2.length := ⟨_, rfl⟩
        have hml : m < l2.length := by rw [hm]; exact Nat.mod_lt _ (by omega)
        have hw : IntKind.i64.wrap ((k : Int) - (l1.length : Int)) = (j : Int) := by rw [IntWalk.i64_in _ (by omega)]; omega
        have hr : (j : Int).tmod (l2.length : Int) = (m : Int) := by rw [IntWalk.rem_in _ _ (by omega), hm]; rfl
        have hz : ((l2.length : Int) == 0) = false := beq_eq_false_iff_ne.2 (by omega)
        have e : Hid (l2[m] = bitOf l1 l2 k) := by
          show _ = _
          unfold bitOf; rw [if_neg hlt, ← hj, ← hm]; simp [List.getD, hml]
        have hmi : (m : Int) < (l2.length : Int) := by omega
        have hm0 : (0 : Int) ≤ (m : Int) := by omega
        clear hj hm
        go_enter Try.func69, Try.ntmps69
        go_wp2_with fail
        refine (specStreamOk_any _ _ _ _ _ _ _ _ _ _ _ F1.out F2.out (by simp; omega) (by simp; omega) hl1 hl2).mono ?_
        rintro e w1 ⟨rfl, hb1⟩
        rw [HY.out]
        obtain ⟨p1, p2, _, _⟩ := blk2 (hb1.blk B0.out (by simp))
        have H1 := Lib.hid (below_trans H0.out hb1)
        obtain ⟨b, off, rfl, _, _, hc⟩ := (F2.out.below hb1 (by simp; omega)).at m hml
        clear hb1
        go_wp2_with (go_at_call 64; refine (l1In_any _ _ _ _).mono ?_; rintro e w' ⟨rfl, rfl⟩; rw [HZ.out])
        go_quiet (fail)
        go_wp2_with fail
        go_ret
        exact ⟨ret_int (by rw [E.out]; exact e.out), below_drewN H1.out _⟩
    · go_enter Try.func69, Try.ntmps69
      go_wp2_with fail
      refine (specStreamOk_any _ _ _ _ _ _ _ _ _ _ _ F1.out F2.out (by simp; omega) (by simp; omega) hl1 hl2).mono ?_
      rintro e w1 ⟨rfl, hb1⟩
      rw [HY.out]
      have H1 := Lib.hid (below_trans H0.out hb1)
      clear hb1
      go_wp2_with (go_at_call 64; refine (l1In_any _ _ _ _).mono ?_; rintro e w' ⟨rfl, rfl⟩; rw [HZ.out])
      go_ret
      exact ⟨ret_int (by unfold bitAtI; rw [HY.out, Bool.true_and, HZ.out]; rfl), H1.out⟩
  · go_enter Try.func69, Try.ntmps69
    go_wp2_with fail
    refine (specStreamOk_any _ _ _ _ _ _ _ _ _ _ _ F1.out F2.out (by simp; omega) (by simp; omega) hl1 hl2).mono ?_
    rintro e w1 ⟨rfl, hb1⟩
    rw [HY.out]
    have H1 := Lib.hid (below_trans H0.out hb1)
    clear hb1
    go_wp2_with fail
    go_ret
    exact ⟨ret_int (by unfold bitAtI; rw [HY.out]; simp), H1.out⟩

end Go.Proofs.Ytgfoolneophkcaa
namespace Go.Proofs.Ytgfoolneophkcaa
open Go.RowKit Go.Hyp Go.Deep

theorem xor64_nonneg (X : Nat) (hX : X ≤ 1000000000) : ∃ Y : Nat, bits .xor .i64 (X : Int) ((X : Int) / 64) = (Y : Int) := by
  have d : ((X : Int) / 64) = ((X / 64 : Nat) : Int) := rfl
  have hb : X / 64 ≤ 1000000000 := Nat.le_trans (Nat.div_le_self _ _) hX
  rw [d]
  generalize X / 64 = Z at hb
  have hx : X ^^^ Z < 2 ^ 30 := Nat.xor_lt_two_pow (by omega) (by omega)
  have h1 : (BitVec.ofInt 64 (X : Int)).toNat = X := by
    rw [BitVec.ofInt_natCast, BitVec.toNat_ofNat]; exact Nat.mod_eq_of_lt (by omega)
  have h2 : (BitVec.ofInt 64 (Z : Int)).toNat = Z := by
    rw [BitVec.ofInt_natCast, BitVec.toNat_ofNat]; exact Nat.mod_eq_of_lt (by omega)
  refine ⟨X ^^^ Z, ?_⟩
  show IntKind.i64.wrap ((BitVec.ofInt 64 (X : Int) ^^^ BitVec.ofInt 64 (Z : Int)).toNat : Int) = _
  rw [BitVec.toNat_xor, h1, h2, IntWalk.i64_in _ (by omega)]
/-- The sums of a pick, in the walk's own spelling. -/
theorem pick_facts (p L u v : Nat) (_hL : 1 ≤ L) (hp : p ≤ 1048576) (hu : u ≤ 255) (hv : v ≤ 255) :
    ∃ K7 K73 A D S1 K29 S2 Q X : Nat,
      (p : Int).tmod (L : Int) = ((p % L : Nat) : Int) ∧ IntKind.i64.wrap ((p : Int) * 7) = (K7 : Int) ∧ IntKind.i64.wrap ((K7 : Int) + 3) = (K73 : Int) ∧ (K73 : Int).tmod (L : Int) = (((7 * p + 3) % L : Nat) : Int) ∧
      IntKind.i64.wrap (u : Int) = (u : Int) ∧ IntKind.i64.wrap ((u : Int) * 131) = (A : Int) ∧ IntKind.i64.wrap (v : Int) = (v : Int) ∧ IntKind.i64.wrap ((v : Int) * 1117) = (D : Int) ∧ IntKind.i64.wrap ((A : Int) + (D : Int)) = (S1 : Int) ∧
      IntKind.i64.wrap ((p : Int) * 29) = (K29 : Int) ∧ IntKind.i64.wrap ((S1 : Int) + (K29 : Int)) = (S2 : Int) ∧ IntKind.i64.wrap ((p : Int) / (L : Int)) = ((p / L : Nat) : Int) ∧
      IntKind.i64.wrap (((p / L : Nat) : Int) * 53) = (Q : Int) ∧ IntKind.i64.wrap ((S2 : Int) + (Q : Int)) = (X : Int) ∧ X ≤ 1000000000 := by
  have hq : p / L ≤ p := Nat.div_le_self _ _
  have hq0 : (0 : Int) ≤ ((p / L : Nat) : Int) := Int.natCast_nonneg _
  refine ⟨7 * p, 7 * p + 3, u * 131, v * 1117, u * 131 + v * 1117, p * 29, u * 131 + v * 1117 + p * 29, p / L * 53, u * 131 + v * 1117 + p * 29 + p / L * 53, ?_, ?_, ?_, ?_, ?_, ?_, ?_, ?_, ?_, ?_, ?_, ?_, ?_, ?_, by omega⟩
  · rw [IntWalk.rem_in _ _ (by omega)]; rfl
  · rw [IntWalk.i64_in _ (by omega)]; omega
  · rw [IntWalk.i64_in _ (by omega)]; omega
  · rw [IntWalk.rem_in _ _ (by omega)]; rfl
  · rw [IntWalk.i64_in _ (by omega)]
  · rw [IntWalk.i64_in _ (by omega)]; omega
  · rw [IntWalk.i64_in _ (by omega)]
  · rw [IntWalk.i64_in _ (by omega)]; omega
  · rw [IntWalk.i64_in _ (by omega)]; omega
  · rw [IntWalk.i64_in _ (by omega)]; omega
  · rw [IntWalk.i64_in _ (by omega)]; omega
  · rw [show (p : Int) / (L : Int) = ((p / L : Nat) : Int) from rfl, IntWalk.i64_in _ (by omega)]
  · rw [IntWalk.i64_in _ (by omega)]; omega
  · rw [IntWalk.i64_in _ (by omega)]; omega

set_option maxHeartbeats 400000 in
theorem pick_any (rb : Nat) (a : Option Addr) (cap : Nat) (l : List Int) (p : Nat) (n : Int) (w : World) (hr : w.heap[rb]? = some (.cells #[.slice a l.length cap, .int .i64 p] 92 (0, 0))) (hB : RdB w rb a l) (hl : l.length ≤ 2000) (hp : p ≤ 1048576) (hn : n ≤ 1048576) :
    Calls Try.prog 94 #[.pointer (some ⟨rb, 0, none⟩), .int .i64 n] w (PickPost rb p n w) := by
  obtain ⟨p1, p2, f1, f2⟩ := blk2 hr
  by_cases h1 : n < 1
  · go_enter Try.func94, Try.ntmps94
    go_wp2_with fail
    go_ret
    exact ⟨0, rfl, Int.le_refl _, .inr ⟨h1, rfl⟩, 0, rfl⟩
  · have hn1 : 1 ≤ n := by omega
    obtain ⟨N, rfl⟩ := Int.eq_ofNat_of_zero_le (show 0 ≤ n by omega)
    clear h1
    by_cases h0 : l.length = 0
    · have hz : ((l.length : Int) == 0) = true := beq_iff_eq.2 (by omega)
      have H0 := Lib.hid h0
      clear h0
      go_enter Try.func94, Try.ntmps94
      go_wp2_with fail
      go_ret
      exact ⟨0, rfl, Int.le_refl _, .inl (by omega), 0, rfl⟩
    · have hz : ((l.length : Int) == 0) = false := beq_eq_false_iff_ne.2 (by omega)
      have HR : Hid (rb < w.heap.size) := blk_lt hr
      by_cases hk : p < l.length
      · obtain ⟨b, off, rfl, hb, hc, hv0, hv1⟩ := hB.at p hk
        have hc' : (w.setCell ⟨rb, 1, none⟩ (.int .i64 ((p : Int) + 1))).cell? ⟨b, off + p, none⟩ = some (.int .u8 l[p]) := by
          rw [World.cell?_of_block (w := w) (a := ⟨b, off + p, none⟩) (Below.heap_setCell _ _ _ _ (by show b ≠ rb; omega)), hc]
        have hnz : ((N : Int) == 0) = false := beq_eq_false_iff_ne.2 (by omega)
        clear hB hc
        go_enter Try.func94, Try.ntmps94
        go_wp2_with fail
        go_ret
        exact ⟨_, rfl, Int.emod_nonneg _ (by omega), .inl (Int.emod_lt_of_pos _ (by omega)), 0, rfl⟩
      · obtain ⟨m1, h1⟩ : ∃ m : Nat, m = p % l.length := ⟨_, rfl⟩
        obtain ⟨m2, h2⟩ : ∃ m : Nat, m = (7 * p + 3) % l.length := ⟨_, rfl⟩
        obtain ⟨q, h3⟩ : ∃ m : Nat, m = p / l.length := ⟨_, rfl⟩
        have hm1 : m1 < l.length := by rw [h1]; exact Nat.mod_lt _ (by omega)
        have hm2 : m2 < l.length := by rw [h2]; exact Nat.mod_lt _ (by omega)
        have hq : q ≤ p := by rw [h3]; exact Nat.div_le_self _ _
        obtain ⟨b, off, rfl, hb, hc, hv0, hv1⟩ := hB.at m1 hm1
        obtain ⟨b', off', he, hb', hd, hu0, hu1⟩ := hB.at m2 hm2
        cases he
        have hc' : (w.setCell ⟨rb, 1, none⟩ (.int .i64 ((p : Int) + 1))).cell? ⟨b, off + m1, none⟩ = some (.int .u8 l[m1]) := by
          rw [World.cell?_of_block (w := w) (a := ⟨b, off + m1, none⟩) (Below.heap_setCell _ _ _ _ (by show b ≠ rb; omega)), hc]
        have hd' : (w.setCell ⟨rb, 1, none⟩ (.int .i64 ((p : Int) + 1))).cell? ⟨b, off + m2, none⟩ = some (.int .u8 l[m2]) := by
          rw [World.cell?_of_block (w := w) (a := ⟨b, off + m2, none⟩) (Below.heap_setCell _ _ _ _ (by show b ≠ rb; omega)), hd]
        have hs0 : (w.setCell ⟨rb, 1, none⟩ (.int .i64 ((p : Int) + 1))).cell? ⟨rb, 0, none⟩ = some (.slice (some ⟨b, off, none⟩) l.length cap) := by
          rw [World.cell?_setCell_other]; exact p1; simp
        obtain ⟨u, hu⟩ := Int.eq_ofNat_of_zero_le hv0
        obtain ⟨v, hv⟩ := Int.eq_ofNat_of_zero_le hu0
        rw [hu] at hc' hv1
        rw [hv] at hd' hu1
        obtain ⟨K7, K73, A, D, S1, K29, S2, Q, X, e1, e2, e3, e4, e5, e6, e7, e8, e9, e10, e11, e12, e13, e14, hX⟩ := pick_facts p l.length u v (by omega) hp (by omega) (by omega)
        rw [← h1] at e1
        rw [← h2] at e4
        rw [← h3] at e12 e13
        have hi1 : (m1 : Int) < (l.length : Int) := by omega
        have hi2 : (m2 : Int) < (l.length : Int) := by omega
        clear hB hc hd h1 h2 h3 hu hv hv0 hu0 hr
        go_enter Try.func94, Try.ntmps94
        go_wp2_with fail
        go_quiet (fail)
        clear e1 e2 e3 e4 e5 e6 e7 e8 e9 e10 e11 e12 e13 e14
        go_wp2_with fail
        go_ret
        obtain ⟨Y, hY⟩ := xor64_nonneg X (by omega)
        refine ⟨_, rfl, ?_, .inl ?_, _, rfl⟩
        · rw [hY, IntWalk.rem_in _ _ (by omega)]; exact Int.emod_nonneg _ (by omega)
        · rw [hY, IntWalk.rem_in _ _ (by omega)]; exact Int.emod_lt_of_pos _ (by omega)

/-- A pick, in the reader's words. -/
theorem pick_rdr (rb : Nat) (l : List Int) (p : Nat) (n : Int) (w : World) (hr : Rdr w rb 92 l p) (hp : p ≤ 1048576) (hn : n ≤ 1048576) :
    Calls Try.prog 94 #[.pointer (some ⟨rb, 0, none⟩), .int .i64 n] w (PickR rb 92 l p n w) := by
  obtain ⟨a, cap, hb, hB, hl⟩ := id hr
  refine (pick_any rb a cap l p n w hb hB hl hp hn).mono ?_
  rintro e w' ⟨v, rfl, h0, h1, q, rfl⟩
  exact ⟨v, rfl, h0, h1, hr.next.agr (fun _ _ _ => rfl), ((Chg.refl (· = rb) _).set (.inl rfl) _).drewN _, by simp⟩

set_option maxHeartbeats 400000 in
theorem odd_rdr (rb : Nat) (l : List Int) (p : Nat) (n : Nat) (w : World) (hr : Rdr w rb 92 l p) (hp : p ≤ 1048576) (hn : n ≤ 1048576) :
    Calls Try.prog 95 #[.pointer (some ⟨rb, 0, none⟩), .int .i64 n] w fun e w' => ∃ b : Bool, e = .returned (.bool b) ∧ ∃ p', p ≤ p' ∧ p' ≤ p + 1 ∧ Rdr w' rb 92 l p' ∧ Chg (· = rb) w w' := by
  by_cases h0 : 0 < n
  · go_enter Try.func95, Try.ntmps95
    go_wp2_with fail
    refine (pick_rdr rb l p n w hr hp (by omega)).mono ?_
    rintro e w1 ⟨v, rfl, v0, v1, hr1, hc1, _⟩
    go_wp2_with fail
    go_ret
    exact ⟨_, rfl, _, by omega, Nat.le_refl _, hr1, hc1⟩
  · go_enter Try.func95, Try.ntmps95
    go_wp2_with fail
    go_ret
    exact ⟨_, rfl, _, Nat.le_refl _, by omega, hr, Chg.refl _ _⟩

/-- A new reader: its block, which holds the code's first bytes. -/
def OpenPost (w : World) (e : Ending) (w' : World) : Prop :=
  ∃ l, e = .returned (.pointer (some ⟨w.heap.size, 0, none⟩)) ∧ Rdr w' w.heap.size 92 l 0 ∧ Below w.heap.size w w' ∧ w'.heap.size = w.heap.size + 1
set_option maxHeartbeats 400000 in
theorem open_any (a : Option Addr) (cap : Nat) (l : List Int) (w : World) (h : RdB w w.heap.size a l) (_hl : l.length ≤ maxLen) (hcap : l.length ≤ cap) :
    Calls Try.prog 74 #[.slice a l.length cap] w (OpenPost w) := by
  by_cases hbig : 2000 < l.length
  · obtain ⟨b, off, rfl, _⟩ := h.at 0 (by omega)
    have hb : (2000 : Int) < (l.length : Int) := by omega
    have hc : (2000 : Int) ≤ (cap : Int) := by omega
    go_enter Try.func74, Try.ntmps74
    go_wp2_with fail
    go_ret
    have hlen : (l.take 2000).length = 2000 := by simp; omega
    refine ⟨l.take 2000, rfl, ⟨some ⟨b, off, none⟩, cap, by rw [hlen]; exact alloc1 _ _, (RdB.take h 2000).agr ((Agr.refl _ _ _).alloc (Nat.le_refl _) _), by omega⟩, below_alloc _ _, by simp⟩
  · go_enter Try.func74, Try.ntmps74
    go_wp2_with fail
    go_ret
    exact ⟨l, rfl, ⟨a, cap, alloc1 _ _, h.agr ((Agr.refl _ _ _).alloc (Nat.le_refl _) _), by omega⟩, below_alloc _ _, by simp⟩

end Go.Proofs.Ytgfoolneophkcaa
