/- Drawn systems with pictures and nodes: DrawSolutionOk. -/
import Derived.Test.YtfjodcfbhpglhaaGreatDoorM5
import Derived.Test.YtfjodcfbhpglhaaGreatDoorM6
import Derived.Test.YtfjodcfbhpglhaaGreatDoorM7
import Derived.Test.YtfjodcfbhpglhaaGreatDoorM25
import Derived.Test.YtfjodcfbhpglhaaGreatDoorM32
import Derived.Test.YtfjodcfbhpglhaaGreatDoorM34
namespace Go.Hyp
open Go.RowKit Go.Deep
/-- A drawn system, pictures and nodes; nothing that was there has turned. -/
def DrewSol (w : World) (e : Ending) (w' : World) : Prop :=
  ∃ a c s a1 c1 PL a2 c2 NL, e = .returned (.tuple #[.slice a (s : List (List Int × Int)).length c, .slice a1 (PL : List (List (List Int))).length c1, .slice a2 (NL : List Int).length c2]) ∧ RdY w' w.heap.size w'.heap.size a s ∧ s.length ≤ 3 ∧
    RdIII w' w.heap.size w'.heap.size a1 PL ∧ PL.length ≤ 3 ∧ (∀ q ∈ PL, q.length ≤ 5) ∧ RdI w' 0 w'.heap.size a2 NL ∧ NL.length ≤ 3 ∧ Below w.heap.size w w'
theorem Chg.on {S T : Nat → Prop} {a b c : World} (h : Chg S a b) (k : Chg T b c) (hT : ∀ n, T n → S n ∨ a.heap.size ≤ n) : Chg S a c :=
  ⟨k.os.trans h.os, k.tape.trans h.tape, k.output.trans h.output, Nat.le_trans h.size k.size, fun i hi hs => (k.block i (Nat.lt_of_lt_of_le hi h.size) (fun ht => by rcases hT i ht with h1 | h1; exact hs h1; omega)).trans (h.block i hi hs)⟩
theorem pics_le {Q : List (List (List Int))} {q : List (List Int)} (h : ∀ x ∈ Q, x.length ≤ 5) (hq : q.length ≤ 5) : ∀ x ∈ Q ++ [q], x.length ≤ 5 := fun x hx => by
  rcases List.mem_append.1 hx with h1 | h1
  · exact h x h1
  · simp at h1; subst h1; exact hq
end Go.Hyp
namespace Go.Proofs.YtfjodcfbhpglhaaGreatDoor
open Go.RowKit Go.Hyp Go.Deep

set_option maxRecDepth 4000 in
set_option maxHeartbeats 1600000 in
theorem drawSolutionOk_any (a : Option Addr) (cap : Nat) (l : List Int) (w : World) (h : RdB w w.heap.size a l) (hl : l.length ≤ maxLen) (hcap : l.length ≤ cap) :
    Calls Tryz.prog 35 #[.slice a l.length cap] w (DrewSol w) := by
  have HB := Lib.hid h
  clear h
  go_enter Tryz.func35, Tryz.ntmps35
  go_wp2_with fail
  refine (open_any a cap l _ HB.out hl hcap).mono ?_
  rintro e w1 ⟨l', rfl, hr1, hb1, hz1⟩
  have HR1 := Lib.hid hr1
  have HH1 := Lib.hid hb1
  have hz1' : w.heap.size + 1 ≤ w1.heap.size := by omega
  clear hr1 hb1 hz1
  go_wp2_with fail
  refine (l20System_any _ l' 0 14 w1 HR1.out (by omega) (by omega)).mono ?_
  rintro e w2 ⟨a2, c2, s, rfl, hrd, hs3, hn3, ⟨p2, _, hp2, hr2⟩, hc2⟩
  have HRD := Lib.hid hrd
  have HR2 := Lib.hid hr2
  have HC2 := Lib.hid hc2
  have hz2 : w1.heap.size ≤ w2.heap.size := hc2.size
  have HM : Hid (s.length ≤ maxLen) := Lib.hid (by unfold maxLen; omega)
  clear hrd hr2 hc2 hn3 HR1
  go_wp2_with fail
  refine (specSolvedBy_any a2 c2 s w2 _ _ HRD.out (Nat.le_refl _) HM.out).mono ?_
  rintro e w3 ⟨aP, cP, rfl, hoP, hb3⟩
  have HP := Lib.hid hoP.rd
  have HRD3 := Lib.hid (HRD.out.below hb3 (Nat.le_refl _))
  have HR3 := Lib.hid (HR2.out.below hb3 (by omega))
  have HH3 := Lib.hid ((HH1.out.trans (HC2.out.below (D := w.heap.size) (fun k hk => by omega) (by omega))).trans (hb3.mono (by omega)))
  have hz3 : w2.heap.size ≤ w3.heap.size := hb3.size
  obtain ⟨P, hP⟩ : ∃ P, P = solR s := ⟨_, rfl⟩
  rw [← hP] at HP ⊢
  have hP5 : P.length ≤ 5 := by
    rw [hP]; unfold solR; split
    · rw [solL_len]; omega
    · exact Nat.zero_le _
  clear hoP hb3 HRD HR2 HH1 HC2 hP
  have HST := Lib.hid (DueLo.start (w.heap.size + 1) w3 22 3 (K := fun b => b < w3.heap.size) (fun b hb => hb))
  go_wp2_with fail
  go_loopw [8, 9, 10] (fun xv yv kv wr => ∃ (k : Nat) (x : Option Addr) (c : Nat) (y : Option Addr) (d : Nat) (Q : List (List (List Int))) (A : List Int) (p' : Nat), k ≤ s.length ∧ kv = .int .i64 k ∧ xv = .slice x Q.length c ∧ yv = .slice y A.length d ∧ Q.length = k ∧ A.length = k ∧ (∀ q ∈ Q, q.length ≤ 5) ∧
    DueLo (w.heap.size + 1) wr 22 3 (fun b => b < w3.heap.size) x c y d Q A ∧ p' ≤ p2 + 42 * k ∧ Rdr wr w.heap.size 78 l' p' ∧ Chg (· = w.heap.size) w3 wr) (fun _ _ kv _ => s.length - (intOf kv).toNat)
  case atStart => exact ⟨0, _, 0, _, 0, [], [], p2, Nat.zero_le _, rfl, rfl, rfl, rfl, rfl, fun q hq => by simp at hq, HST.out, by omega, (HR3.out.below (below_alloc _ _) (by omega)).below (below_alloc _ _) (by simp; omega), ((Chg.refl _ _).alloc _).alloc _⟩
  case round =>
    obtain ⟨k, x, c, y, d, Q, A, p', hk, rfl, rfl, rfl, hQl, hAl, hq5, hds, hp', hr, hch⟩ := hrel
    have HQ5 := Lib.hid hq5
    have HDS := Lib.hid hds
    have HR := Lib.hid hr
    have HC := Lib.hid hch
    have HQL := Lib.hid hQl
    have HAL := Lib.hid hAl
    have hQl3 : Q.length ≤ 3 := by omega
    have hAl3 : A.length ≤ 3 := by omega
    have hzr : w3.heap.size ≤ wr.heap.size := hch.size
    clear hq5 hds hr hch hQl hAl HST HR3
    obtain ⟨wo, hwo⟩ : ∃ v : World, v = wr := ⟨_, rfl⟩
    subst hwo
    by_cases hlt : k < s.length
    · have hki : (k : Int) < (s.length : Int) := by omega
      go_wp2_with fail
      refine (pick_rdr _ l' p' 4 wo HR.out (by omega) (by omega)).mono ?_
      rintro e w4 ⟨v, rfl, v0, v1, hr4, hc4, hz4⟩
      have HR4 := Lib.hid hr4
      have HC4 := Lib.hid (HC.out.trans hc4)
      have HDS4 := Lib.hid (HDS.out.low hc4 (fun b hb => by omega) (fun b hb => by omega))
      have hz4' : w3.heap.size ≤ w4.heap.size := by omega
      clear hr4 hc4 hz4 HR HC HDS v1
      by_cases h0 : v = 0
      · subst h0
        have HNI := Lib.hid (specNameIs_any a2 c2 s k w4 _ _ (HRD3.out.agr (HC4.out.agr (by omega) (fun b h1 h2 h3 => by omega))) (by omega) HM.out)
        go_wp2_with fail
        refine HNI.out.mono ?_
        rintro e wq ⟨aq, cq, rfl, hoq, hbq⟩
        obtain ⟨q, hq⟩ : ∃ q, q = nameR s k := ⟨_, rfl⟩
        have hq5 : q.length ≤ 5 := by rw [hq]; exact nameR_len s k
        rw [← hq] at hoq ⊢
        obtain ⟨Bq, hBq⟩ : ∃ B, B = w4.heap.size := ⟨_, rfl⟩
        obtain ⟨Cq, hCq⟩ : ∃ C, C = wq.heap.size := ⟨_, rfl⟩
        have HRQ := hoq.rd
        rw [← hBq, ← hCq] at HRQ
        have HRQ := Lib.hid HRQ
        have HDSq := Lib.hid (HDS4.out.below hbq)
        have HCq := Lib.hid (HC4.out.then_below hbq)
        have HRq := Lib.hid (HR4.out.below hbq (by omega))
        have HDJ : Hid (∀ b, Bq ≤ b → b < Cq → blockOf x ≠ some b ∧ blockOf y ≠ some b) := Lib.hid fun b h1 h2 => ⟨fun h => by have := HDS4.out.x_lt h; omega, fun h => by have := HDS4.out.y_lt h; omega⟩
        have hzq : w4.heap.size ≤ wq.heap.size := hbq.size
        have hBqD : w.heap.size + 1 ≤ Bq := by omega
        have hCqD : Cq ≤ wq.heap.size := by omega
        obtain ⟨pq, hpq⟩ : ∃ pq, pq = p' + 1 := ⟨_, rfl⟩
        rw [← hpq] at HRq
        have hpq' : pq ≤ p' + 42 := by omega
        clear hoq hbq hq hBq hCq hpq HDS4 HC4 HR4 HNI
        have HQQ5 := Lib.hid hq5
        have HKX : Hid (∀ b, blockOf x = some b → w3.heap.size ≤ b) := Lib.hid fun b hb => by have := HDSq.out.kx b hb; omega
        have HKY : Hid (∀ b, blockOf y = some b → w3.heap.size ≤ b) := Lib.hid fun b hb => by have := HDSq.out.ky b hb; omega
        clear hq5
        go_wp2_with (at_builtin; go_loud (first
          | (refine wpList_loQ Tryz.underlying45 Tryz.infoRows rfl (by omega) wq rfl _ _ rfl _ x c y d Q A rfl HDSq.out aq cq q rfl Bq Cq HRQ.out (by omega) (by omega) HDJ.out (by omega) ?_
             intro x1 cx w7 hst7 hch7
             have HDS7 := Lib.hid hst7
             have HC7 := Lib.hid (HCq.out.on hch7 (fun b hb => .inr (HKX.out b hb)))
             have HR7 := Lib.hid (HRq.out.agr (hch7.agr (by omega) (fun b h1 h2 h3 => by have := HKX.out b h3; omega)))
             have hz7 : wq.heap.size ≤ w7.heap.size := hch7.size
             clear hst7 hch7)
          | (refine wpList_loA Tryz.underlying35 Tryz.infoInt w7 rfl _ _ rfl _ x1 cx y d (Q ++ [q]) A rfl HDS7.out 0 rfl (by omega) ?_
             intro y1 dy w8 hst8 hch8
             have HDS8 := Lib.hid hst8
             have HC8 := Lib.hid (HC7.out.on hch8 (fun b hb => .inr (HKY.out b hb)))
             have HR8 := Lib.hid (HR7.out.agr (hch8.agr (by omega) (fun b h1 h2 h3 => by have := HKY.out b h3; omega)))
             clear hst8 hch8)))
        go_roundw
        case rel => exact ⟨k + 1, x1, cx, y1, dy, Q ++ [q], A ++ [0], pq, by omega, by go_num, by simp, by simp, by have := HQL.out; simp; omega, by have := HAL.out; simp; omega, pics_le HQ5.out HQQ5.out, HDS8.out, by omega, HR8.out, HC8.out⟩
        case measure => simp [intOf]; omega
      · have e0 : (v == 0) = false := beq_eq_false_iff_ne.2 h0
        by_cases h1 : v = 1
        · subst h1
          go_wp2_with fail
          refine (odd_rdr _ l' _ 2 w4 HR4.out (by omega) (by omega)).mono ?_
          rintro e w5 ⟨bb, rfl, p5, hp5, hp5', hr5, hc5⟩
          have HR5 := Lib.hid hr5
          have HC5 := Lib.hid (HC4.out.trans hc5)
          have HDS5 := Lib.hid (HDS4.out.low hc5 (fun b hb => by omega) (fun b hb => by omega))
          have hz5 : w4.heap.size ≤ w5.heap.size := hc5.size
          clear hr5 hc5 HR4 HC4 HDS4 e0
          cases bb
          · have HRQ : Hid (RdII w5 w2.heap.size w3.heap.size aP P) := Lib.hid (HP.out.agr (HC5.out.agr (Nat.le_refl _) (fun b h1 h2 h3 => by omega)))
            obtain ⟨Bq, hBq⟩ : ∃ B, B = w2.heap.size := ⟨_, rfl⟩
            obtain ⟨Cq, hCq⟩ : ∃ C, C = w3.heap.size := ⟨_, rfl⟩
            rw [← hBq, ← hCq] at HRQ
            obtain ⟨q, hq⟩ : ∃ q, q = P := ⟨_, rfl⟩
            subst hq
            obtain ⟨aq, haq⟩ : ∃ aq, aq = aP := ⟨_, rfl⟩
            subst haq
            obtain ⟨cq, hcq⟩ : ∃ cq, cq = cP := ⟨_, rfl⟩
            subst hcq
            obtain ⟨wq, hwq⟩ : ∃ wq, wq = w5 := ⟨_, rfl⟩
            subst hwq
            have HDSq := HDS5
            have HCq := HC5
            have HRq := HR5
            have hq5 := hP5
            have HDJ : Hid (∀ b, Bq ≤ b → b < Cq → blockOf x ≠ some b ∧ blockOf y ≠ some b) := Lib.hid fun b h1 h2 => ⟨fun h => by have := HDS5.out.kx b h; omega, fun h => by have := HDS5.out.ky b h; omega⟩
            have hBqD : w.heap.size + 1 ≤ Bq := by omega
            have hCqD : Cq ≤ wq.heap.size := by omega
            obtain ⟨pq, hpq⟩ : ∃ pq, pq = p5 := ⟨_, rfl⟩
            rw [← hpq] at HRq
            have hpq' : pq ≤ p' + 42 := by omega
            clear hBq hCq HDS5 HC5 HR5 hpq
            have HQQ5 := Lib.hid hq5
            have HKX : Hid (∀ b, blockOf x = some b → w3.heap.size ≤ b) := Lib.hid fun b hb => by have := HDSq.out.kx b hb; omega
            have HKY : Hid (∀ b, blockOf y = some b → w3.heap.size ≤ b) := Lib.hid fun b hb => by have := HDSq.out.ky b hb; omega
            clear hq5
            go_wp2_with (at_builtin; go_loud (first
              | (refine wpList_loQ Tryz.underlying45 Tryz.infoRows rfl (by omega) wq rfl _ _ rfl _ x c y d Q A rfl HDSq.out aq cq q rfl Bq Cq HRQ.out (by omega) (by omega) HDJ.out (by omega) ?_
                 intro x1 cx w7 hst7 hch7
                 have HDS7 := Lib.hid hst7
                 have HC7 := Lib.hid (HCq.out.on hch7 (fun b hb => .inr (HKX.out b hb)))
                 have HR7 := Lib.hid (HRq.out.agr (hch7.agr (by omega) (fun b h1 h2 h3 => by have := HKX.out b h3; omega)))
                 have hz7 : wq.heap.size ≤ w7.heap.size := hch7.size
                 clear hst7 hch7)
              | (refine wpList_loA Tryz.underlying35 Tryz.infoInt w7 rfl _ _ rfl _ x1 cx y d (Q ++ [q]) A rfl HDS7.out (k : Int) rfl (by omega) ?_
                 intro y1 dy w8 hst8 hch8
                 have HDS8 := Lib.hid hst8
                 have HC8 := Lib.hid (HC7.out.on hch8 (fun b hb => .inr (HKY.out b hb)))
                 have HR8 := Lib.hid (HR7.out.agr (hch8.agr (by omega) (fun b h1 h2 h3 => by have := HKY.out b h3; omega)))
                 clear hst8 hch8)))
            go_roundw
            case rel => exact ⟨k + 1, x1, cx, y1, dy, Q ++ [q], A ++ [(k : Int)], pq, by omega, by go_num, by simp, by simp, by have := HQL.out; simp; omega, by have := HAL.out; simp; omega, pics_le HQ5.out HQQ5.out, HDS8.out, by omega, HR8.out, HC8.out⟩
            case measure => simp [intOf]; omega
          · go_wp2_with fail
            refine (l20Picture_any _ l' p5 20 w5 HR5.out (by omega) (by omega)).mono ?_
            rintro e wq ⟨aq, cq, q, rfl, hoq, _, hq5, _, ⟨pq, hpq1, hpq2, hrq⟩, hcq⟩
            obtain ⟨Bq, hBq⟩ : ∃ B, B = w5.heap.size := ⟨_, rfl⟩
            obtain ⟨Cq, hCq⟩ : ∃ C, C = wq.heap.size := ⟨_, rfl⟩
            rw [← hBq, ← hCq] at hoq
            have HRQ := Lib.hid hoq
            have HDSq := Lib.hid (HDS5.out.low hcq (fun b hb => by omega) (fun b hb => by omega))
            have HCq := Lib.hid (HC5.out.trans hcq)
            have HRq := Lib.hid hrq
            have HDJ : Hid (∀ b, Bq ≤ b → b < Cq → blockOf x ≠ some b ∧ blockOf y ≠ some b) := Lib.hid fun b h1 h2 => ⟨fun h => by have := HDS5.out.x_lt h; omega, fun h => by have := HDS5.out.y_lt h; omega⟩
            have hzq : w5.heap.size ≤ wq.heap.size := hcq.size
            have hBqD : w.heap.size + 1 ≤ Bq := by omega
            have hCqD : Cq ≤ wq.heap.size := by omega
            have hpq' : pq ≤ p' + 42 := by omega
            clear hoq hcq hrq hBq hCq hpq1 hpq2 HDS5 HC5 HR5
            have HQQ5 := Lib.hid hq5
            have HKX : Hid (∀ b, blockOf x = some b → w3.heap.size ≤ b) := Lib.hid fun b hb => by have := HDSq.out.kx b hb; omega
            have HKY : Hid (∀ b, blockOf y = some b → w3.heap.size ≤ b) := Lib.hid fun b hb => by have := HDSq.out.ky b hb; omega
            clear hq5
            go_wp2_with (at_builtin; go_loud (first
              | (refine wpList_loQ Tryz.underlying45 Tryz.infoRows rfl (by omega) wq rfl _ _ rfl _ x c y d Q A rfl HDSq.out aq cq q rfl Bq Cq HRQ.out (by omega) (by omega) HDJ.out (by omega) ?_
                 intro x1 cx w7 hst7 hch7
                 have HDS7 := Lib.hid hst7
                 have HC7 := Lib.hid (HCq.out.on hch7 (fun b hb => .inr (HKX.out b hb)))
                 have HR7 := Lib.hid (HRq.out.agr (hch7.agr (by omega) (fun b h1 h2 h3 => by have := HKX.out b h3; omega)))
                 have hz7 : wq.heap.size ≤ w7.heap.size := hch7.size
                 clear hst7 hch7)
              | (refine wpList_loA Tryz.underlying35 Tryz.infoInt w7 rfl _ _ rfl _ x1 cx y d (Q ++ [q]) A rfl HDS7.out 0 rfl (by omega) ?_
                 intro y1 dy w8 hst8 hch8
                 have HDS8 := Lib.hid hst8
                 have HC8 := Lib.hid (HC7.out.on hch8 (fun b hb => .inr (HKY.out b hb)))
                 have HR8 := Lib.hid (HR7.out.agr (hch8.agr (by omega) (fun b h1 h2 h3 => by have := HKY.out b h3; omega)))
                 clear hst8 hch8)))
            go_roundw
            case rel => exact ⟨k + 1, x1, cx, y1, dy, Q ++ [q], A ++ [0], pq, by omega, by go_num, by simp, by simp, by have := HQL.out; simp; omega, by have := HAL.out; simp; omega, pics_le HQ5.out HQQ5.out, HDS8.out, by omega, HR8.out, HC8.out⟩
            case measure => simp [intOf]; omega
        · have e1 : (v == 1) = false := beq_eq_false_iff_ne.2 h1
          have HRQ : Hid (RdII w4 w2.heap.size w3.heap.size aP P) := Lib.hid (HP.out.agr (HC4.out.agr (Nat.le_refl _) (fun b h1 h2 h3 => by omega)))
          obtain ⟨Bq, hBq⟩ : ∃ B, B = w2.heap.size := ⟨_, rfl⟩
          obtain ⟨Cq, hCq⟩ : ∃ C, C = w3.heap.size := ⟨_, rfl⟩
          rw [← hBq, ← hCq] at HRQ
          obtain ⟨q, hq⟩ : ∃ q, q = P := ⟨_, rfl⟩
          subst hq
          obtain ⟨aq, haq⟩ : ∃ aq, aq = aP := ⟨_, rfl⟩
          subst haq
          obtain ⟨cq, hcq⟩ : ∃ cq, cq = cP := ⟨_, rfl⟩
          subst hcq
          obtain ⟨wq, hwq⟩ : ∃ wq, wq = w4 := ⟨_, rfl⟩
          subst hwq
          have HDSq := HDS4
          have HCq := HC4
          have HRq := HR4
          have hq5 := hP5
          have HDJ : Hid (∀ b, Bq ≤ b → b < Cq → blockOf x ≠ some b ∧ blockOf y ≠ some b) := Lib.hid fun b h1 h2 => ⟨fun h => by have := HDS4.out.kx b h; omega, fun h => by have := HDS4.out.ky b h; omega⟩
          have hBqD : w.heap.size + 1 ≤ Bq := by omega
          have hCqD : Cq ≤ wq.heap.size := by omega
          obtain ⟨pq, hpq⟩ : ∃ pq, pq = p' + 1 := ⟨_, rfl⟩
          rw [← hpq] at HRq
          have hpq' : pq ≤ p' + 42 := by omega
          clear hBq hCq HDS4 HC4 HR4 hpq
          have HQQ5 := Lib.hid hq5
          have HKX : Hid (∀ b, blockOf x = some b → w3.heap.size ≤ b) := Lib.hid fun b hb => by have := HDSq.out.kx b hb; omega
          have HKY : Hid (∀ b, blockOf y = some b → w3.heap.size ≤ b) := Lib.hid fun b hb => by have := HDSq.out.ky b hb; omega
          clear hq5
          go_wp2_with (at_builtin; go_loud (first
            | (refine wpList_loQ Tryz.underlying45 Tryz.infoRows rfl (by omega) wq rfl _ _ rfl _ x c y d Q A rfl HDSq.out aq cq q rfl Bq Cq HRQ.out (by omega) (by omega) HDJ.out (by omega) ?_
               intro x1 cx w7 hst7 hch7
               have HDS7 := Lib.hid hst7
               have HC7 := Lib.hid (HCq.out.on hch7 (fun b hb => .inr (HKX.out b hb)))
               have HR7 := Lib.hid (HRq.out.agr (hch7.agr (by omega) (fun b h1 h2 h3 => by have := HKX.out b h3; omega)))
               have hz7 : wq.heap.size ≤ w7.heap.size := hch7.size
               clear hst7 hch7)
            | (refine wpList_loA Tryz.underlying35 Tryz.infoInt w7 rfl _ _ rfl _ x1 cx y d (Q ++ [q]) A rfl HDS7.out (k : Int) rfl (by omega) ?_
               intro y1 dy w8 hst8 hch8
               have HDS8 := Lib.hid hst8
               have HC8 := Lib.hid (HC7.out.on hch8 (fun b hb => .inr (HKY.out b hb)))
               have HR8 := Lib.hid (HR7.out.agr (hch8.agr (by omega) (fun b h1 h2 h3 => by have := HKY.out b h3; omega)))
               clear hst8 hch8)))
          go_roundw
          case rel => exact ⟨k + 1, x1, cx, y1, dy, Q ++ [q], A ++ [(k : Int)], pq, by omega, by go_num, by simp, by simp, by have := HQL.out; simp; omega, by have := HAL.out; simp; omega, pics_le HQ5.out HQQ5.out, HDS8.out, by omega, HR8.out, HC8.out⟩
          case measure => simp [intOf]; omega
    · obtain rfl : k = s.length := by omega
      have HKX : Hid (∀ b, blockOf x = some b → w3.heap.size ≤ b) := Lib.hid fun b hb => by have := HDS.out.kx b hb; omega
      have HRDr := Lib.hid (HRD3.out.agr (HC.out.agr (by omega) (fun b h1 h2 h3 => by omega)))
      have HHr := Lib.hid (HH3.out.trans (HC.out.below (D := w.heap.size) (fun b hb => by omega) (by omega)))
      go_wp2_with fail
      go_ret3
      exact ⟨a2, c2, s, x, c, Q, y, d, A, rfl, HRDr.out.mono (by omega) (by omega), hs3, (HDS.out.rdQ (fun k hk => by have := HQ5.out _ (List.getElem_mem hk); simp only [List.getD, List.getElem?_eq_getElem hk, Option.getD_some]; unfold maxLen; omega) (fun b hb => by have := HKX.out b hb; omega)).mono (by omega) (Nat.le_refl _), hQl3, HQ5.out, HDS.out.n.rd, hAl3, HHr.out⟩
end Go.Proofs.YtfjodcfbhpglhaaGreatDoor
