/- Codes at nodes, as the program finds them: impl.onLoop, comesBack, codeAt, CodeAt. impl.Has, walked. -/
import Derived.Deep.RegionLaw
import Derived.Deep.RegionHeld3
import Derived.Test.YtfjodcfbhpglhaaGreatDoorM15
import Derived.Test.YtfjodcfbhpglhaaGreatDoorM10
import Derived.Test.YtfjodcfbhpglhaaGreatDoorM12
namespace Go.Hyp
open Go.RowKit Go.Deep
/-- Some arrow of n leads back to n. -/
def onLoopB (p : List (List Int)) (n : Nat) : Bool := (arrL p n p.length).any fun x => decide (((n : Nat) : Int) ∈ natL (reachL p x.toNat))
/-- Some node that is reached from n lies on a loop. -/
def backB (p : List (List Int)) (n : Nat) : Bool := (natL (reachL p n)).any fun x => onLoopB p x.toNat
theorem mem_natL {l : List Nat} {n : Nat} : ((n : Nat) : Int) ∈ natL l ↔ n ∈ l := by
  unfold natL
  rw [List.mem_map]
  constructor
  · rintro ⟨x, hx, e⟩
    have : x = n := Int.ofNat.inj e
    exact this ▸ hx
  · exact fun h => ⟨n, h, rfl⟩
theorem onLoopB_iff {p : List (List Int)} {n : Nat} (hn : n < p.length) : onLoopB p n = true ↔ OnLoop p n := by
  unfold onLoopB OnLoop
  rw [List.any_eq_true]
  constructor
  · rintro ⟨x, hx, h⟩
    obtain ⟨k, rfl, h1, h2⟩ := arrL_mem.1 hx
    rw [decide_eq_true_eq, mem_natL, Int.toNat_natCast, reachL_mem h1] at h
    exact ⟨k, ⟨h1, h2⟩, h.2⟩
  · rintro ⟨k, ⟨h1, h2⟩, h3⟩
    refine ⟨k, arrL_mem.2 ⟨k, rfl, h1, h2⟩, ?_⟩
    rw [decide_eq_true_eq, mem_natL, Int.toNat_natCast, reachL_mem h1]
    exact ⟨hn, h3⟩
theorem backB_iff {p : List (List Int)} {n : Nat} (hn : n < p.length) : backB p n = true ↔ Back p n := by
  unfold backB Back
  rw [List.any_eq_true]
  constructor
  · rintro ⟨x, hx, h⟩
    obtain ⟨k, hk, rfl⟩ := List.mem_map.1 hx
    obtain ⟨h1, h2⟩ := (reachL_mem hn).1 hk
    exact ⟨k, h1, h2, (onLoopB_iff h1).1 (by simpa using h)⟩
  · rintro ⟨k, h1, h2, h3⟩
    exact ⟨(k : Nat), mem_natL.2 ((reachL_mem hn).2 ⟨h1, h2⟩), by rw [Int.toNat_natCast]; exact (onLoopB_iff h1).2 h3⟩
/-- What codeAt has found: the set of the codes of the first k members. -/
def SetK (p : List (List Int)) (L : List Int) (k S : Nat) : Prop :=
  S < 65536 ∧ (∀ j, j < k → ∃ m, m ≤ 15 ∧ Code p (L.getD j 0).toNat m) ∧ ∀ m, S.testBit m = true ↔ ∃ j, j < k ∧ Code p (L.getD j 0).toNat m
theorem SetK.zero (p : List (List Int)) (L : List Int) : SetK p L 0 0 := ⟨by omega, fun j hj => by omega, fun m => by simp⟩
theorem SetK.step {p : List (List Int)} {L : List Int} {k S m : Nat} (h : SetK p L k S) (hv : (L.getD k 0).toNat < p.length) (hm : m ≤ 15) (hc : Code p (L.getD k 0).toNat m) : SetK p L (k + 1) (S ||| 2 ^ m) := by
  obtain ⟨h1, h2, h3⟩ := h
  refine ⟨Nat.or_lt_two_pow (n := 16) (by omega) (Nat.pow_lt_pow_of_lt (by omega) (by omega)), fun j hj => ?_, fun x => ?_⟩
  · rcases Nat.lt_or_ge j k with h | h
    · exact h2 j h
    · obtain rfl : j = k := by omega
      exact ⟨m, hm, hc⟩
  · rw [testBit_put, Bool.or_eq_true, h3, decide_eq_true_eq]
    constructor
    · rintro (⟨j, hj, hx⟩ | rfl)
      · exact ⟨j, by omega, hx⟩
      · exact ⟨k, by omega, hc⟩
    · rintro ⟨j, hj, hx⟩
      rcases Nat.lt_or_ge j k with h | h
      · exact .inl ⟨j, h, hx⟩
      · obtain rfl : j = k := by omega
        exact .inr (hc.one hv hx)
theorem SetK.code {p : List (List Int)} {i S : Nat} (h : SetK p (arrL p i p.length) (arrL p i p.length).length S) : Code p i S := by
  obtain ⟨h1, h2, h3⟩ := h
  have hat : ∀ v, Mem p i v → ∃ j, j < (arrL p i p.length).length ∧ ((arrL p i p.length).getD j 0).toNat = v := fun v hv => by
    obtain ⟨j, hj, e⟩ := List.getElem_of_mem (arrL_mem.2 ⟨v, rfl, hv.1, hv.2⟩)
    exact ⟨j, hj, by rw [getD_lt hj, e, Int.toNat_natCast]⟩
  have hex : ∀ v, Mem p i v → ∃ m, m ≤ 15 ∧ Code p v m := fun v hv => by
    obtain ⟨j, hj, e⟩ := hat v hv
    rw [← e]; exact h2 j hj
  have hmem : ∀ j, j < (arrL p i p.length).length → Mem p i ((arrL p i p.length).getD j 0).toNat := fun j hj => by
    obtain ⟨x, e, h4, h5⟩ := arrL_at hj
    rw [getD_lt hj, e, Int.toNat_natCast]; exact ⟨h4, h5⟩
  have hch : ∃ c : Nat → Nat, ∀ v, Mem p i v → c v ≤ 15 ∧ Code p v (c v) := by
    classical
    refine ⟨fun v => if hv : Mem p i v then Classical.choose (hex v hv) else 0, fun v hv => ?_⟩
    show (if hv : Mem p i v then Classical.choose (hex v hv) else 0) ≤ 15 ∧ Code p v (if hv : Mem p i v then Classical.choose (hex v hv) else 0)
    rw [dif_pos hv]
    exact Classical.choose_spec (hex v hv)
  obtain ⟨c, hc⟩ := hch
  refine .mk i S c (fun v hv => (hc v hv).1) (fun v hv => (hc v hv).2) fun m => ?_
  rw [h3]
  constructor
  · rintro ⟨j, hj, hx⟩
    exact ⟨_, hmem j hj, (hc _ (hmem j hj)).2.one (hmem j hj).1 hx⟩
  · rintro ⟨v, hv, rfl⟩
    obtain ⟨j, hj, e⟩ := hat v hv
    exact ⟨j, hj, by rw [e]; exact (hc v hv).2⟩
/-- What CodeAt tells of a node. -/
def CodeRes (p : List (List Int)) (i : Nat) (c : Int) (b : Bool) : Prop := (b = true ∧ ∃ m : Nat, c = m ∧ Code p i m) ∨ (b = false ∧ ∀ m, ¬ Code p i m)
def CodePost (p : List (List Int)) (i : Nat) (w : World) (e : Ending) (w' : World) : Prop :=
  ∃ (c : Int) (b : Bool), e = .returned (.tuple #[.int .i64 c, .bool b]) ∧ CodeRes p i c b ∧ Below w.heap.size w w'
end Go.Hyp
namespace Go.Proofs.YtfjodcfbhpglhaaGreatDoor
open Go.RowKit Go.Hyp Go.Deep

set_option maxHeartbeats 800000 in
theorem onLoop1_any (a : Option Addr) (cap : Nat) (p : List (List Int)) (v n bb nb : Nat) (w : World) (B C : Nat) (h : RdII w B C a p) (hC : C ≤ w.heap.size) (hs : Sq p) (hv : v < p.length) (hn : n < p.length) (hl : p.length ≤ 1024)
    (hb : w.cell? ⟨bb, 0, none⟩ = some (.slice a p.length cap)) (hnc : w.cell? ⟨nb, 0, none⟩ = some (.int .i64 n)) (hbl : bb < w.heap.size) (hnl : nb < w.heap.size) :
    Calls Tryz.prog 118 (#[.int .i64 v] ++ #[.pointer (some ⟨bb, 0, none⟩), .pointer (some ⟨nb, 0, none⟩)]) w fun e w' => e = .returned (.bool (decide (((n : Nat) : Int) ∈ natL (reachL p v)))) ∧ Below w.heap.size w w' := by
  have F := Lib.hid h
  have HS := Lib.hid hs
  clear h hs
  go_enter Tryz.func118, Tryz.ntmps118
  go_wp2_with fail
  go_region_held3 (fun w' => w'.cell? ⟨bb, 0, none⟩ = some (.slice a p.length cap) ∧ w'.cell? ⟨nb, 0, none⟩ = some (.int .i64 n)) (go_keep)
    (first
      | (go_at_call 97
         go_loud (
         refine (reachedFrom_any a cap p v _ B C (by exact F.out) (by exact hC) HS.out hv hl).mono ?_
         rintro e w3 ⟨L, ar, cr, rfl, hre, hll, ho, hb3⟩
         obtain rfl := hre.unique (reachL_is hv)
         replace hb3 := undrew hb3
         have hd1' := (bcell hb3).1 bb 0 hbl
         have hd2' := (bcell hb3).1 nb 0 hnl
         rw [hb] at hd1'
         rw [hnc] at hd2'
         have HRD := Lib.hid ho.rd
         have HB3 := Lib.hid hb3
         clear hb3 ho hre))
      | (go_at_call 92
         go_loud (
         refine (contains_any ar cr _ n _ _ _ (by exact HRD.out) (by omega)).mono ?_
         rintro e w' ⟨rfl, rfl⟩)))
  all_goals
    go_wp2_with fail
    go_ret
    exact ⟨rfl, HB3.out⟩

theorem entersL1 : EntersF Tryz.prog 118 := fun _ _ => by kernel_rfl

set_option maxHeartbeats 800000 in
theorem onLoop_any (a : Option Addr) (cap : Nat) (p : List (List Int)) (n : Nat) (w : World) (B C : Nat) (h : RdII w B C a p) (hC : C ≤ w.heap.size) (hs : Sq p) (hn : n < p.length) (hl : p.length ≤ 1024) :
    Calls Tryz.prog 99 #[.slice a p.length cap, .int .i64 n] w fun e w' => e = .returned (.bool (onLoopB p n)) ∧ Below w.heap.size w w' := by
  have F := Lib.hid h
  have HS := Lib.hid hs
  clear h hs
  have HB0 := Lib.hid ((below_alloc w (.cells #[.slice a p.length cap] 22)).alloc (by simp) (.cells #[.int .i64 n] 3))
  have HX0 := Lib.hid (alloc2 w (.cells #[.slice a p.length cap] 22) (.cells #[.int .i64 n] 3))
  have hle := arrL_le p n p.length
  have hni : (n : Int) < (p.length : Int) := by omega
  go_enter Tryz.func99, Tryz.ntmps99
  go_wp2_with fail
  refine (arrowsOf_any a cap p n _ B C (F.out.below HB0.out hC) (by simp; omega) HS.out hn hl).mono ?_
  rintro e w1 ⟨x1, c1, rfl, o1, hb1⟩
  have HX1 := Lib.hid (hb1.blk HX0.out.1 (by simp; omega))
  have HY1 := Lib.hid (hb1.blk HX0.out.2 (by simp))
  have HB1 := Lib.hid (HB0.out.trans (hb1.mono (by simp; omega)))
  have O1 := Lib.hid (o1.mono (Nat.zero_le _) (Nat.le_refl _)).rd
  have hz1 : w.heap.size + 1 < w1.heap.size := blk_lt HY1.out
  clear o1 hb1 HX0 HB0
  have HT := Lib.hid (show TellsF Tryz.prog 118 #[.pointer (some ⟨w.heap.size, 0, none⟩), .pointer (some ⟨w.heap.size + 1, 0, none⟩)] (fun x => decide (((n : Nat) : Int) ∈ natL (reachL p x.toNat))) (arrL p n p.length) w1 from by
    intro x hx w2 hb2
    obtain ⟨v, rfl, hv, _⟩ := arrL_mem.1 hx
    have hz2 := hb2.size
    exact onLoop1_any a cap p v n w.heap.size (w.heap.size + 1) w2 B C (F.out.below (HB1.out.trans (hb2.mono (by omega))) hC) (by omega) HS.out hv hn hl (blk1 (hb2.blk HX1.out (by omega))).1 (blk1 (hb2.blk HY1.out (by omega))).1 (by omega) (by omega))
  go_wp2_with fail
  refine (containsFunc_any x1 c1 (arrL p n p.length) _ _ _ w1 _ _ entersL1 O1.out (Nat.le_refl _) (by omega) HT.out).mono ?_
  rintro e w3 ⟨rfl, hb3⟩
  have HB3 := Lib.hid (HB1.out.trans (hb3.mono (by omega)))
  clear hb3
  go_wp2_with fail
  go_ret
  exact ⟨rfl, HB3.out⟩

theorem onBack1_any (a : Option Addr) (cap : Nat) (p : List (List Int)) (v bb : Nat) (w : World) (B C : Nat) (h : RdII w B C a p) (hC : C ≤ w.heap.size) (hs : Sq p) (hv : v < p.length) (hl : p.length ≤ 1024)
    (hb : w.cell? ⟨bb, 0, none⟩ = some (.slice a p.length cap)) :
    Calls Tryz.prog 98 (#[.int .i64 v] ++ #[.pointer (some ⟨bb, 0, none⟩)]) w fun e w' => e = .returned (.bool (onLoopB p v)) ∧ Below w.heap.size w w' := by
  have F := Lib.hid h
  have HS := Lib.hid hs
  clear h hs
  go_enter Tryz.func98, Tryz.ntmps98
  go_wp2_with fail
  refine (onLoop_any a cap p v w B C F.out hC HS.out hv hl).mono ?_
  rintro e w1 ⟨rfl, hb1⟩
  have HB1 := Lib.hid hb1
  clear hb1
  go_wp2_with fail
  go_ret
  exact ⟨rfl, HB1.out⟩
theorem entersL2 : EntersF Tryz.prog 98 := fun _ _ => by kernel_rfl

set_option maxHeartbeats 800000 in
theorem comesBack_any (a : Option Addr) (cap : Nat) (p : List (List Int)) (n : Nat) (w : World) (B C : Nat) (h : RdII w B C a p) (hC : C ≤ w.heap.size) (hs : Sq p) (hn : n < p.length) (hl : p.length ≤ 1024) :
    Calls Tryz.prog 66 #[.slice a p.length cap, .int .i64 n] w fun e w' => e = .returned (.bool (backB p n)) ∧ Below w.heap.size w w' := by
  have F := Lib.hid h
  have HS := Lib.hid hs
  clear h hs
  have HB0 := Lib.hid (below_alloc w (.cells #[.slice a p.length cap] 22))
  have HX0 := Lib.hid (alloc1 w (.cells #[.slice a p.length cap] 22))
  have hni : (n : Int) < (p.length : Int) := by omega
  go_enter Tryz.func66, Tryz.ntmps66
  go_wp2_with fail
  refine (reachedFrom_any a cap p n _ B C (F.out.below HB0.out hC) (by simp; omega) HS.out hn hl).mono ?_
  rintro e w1 ⟨L, x1, c1, rfl, hre, hll, o1, hb1⟩
  obtain rfl := hre.unique (reachL_is hn)
  have HX1 := Lib.hid (hb1.blk HX0.out (by simp))
  have HB1 := Lib.hid (HB0.out.trans (hb1.mono (by simp)))
  have O1 := Lib.hid (o1.mono (Nat.zero_le _) (Nat.le_refl _)).rd
  have hz1 : w.heap.size < w1.heap.size := blk_lt HX1.out
  clear o1 hb1 HX0 HB0 hre
  have HT := Lib.hid (show TellsF Tryz.prog 98 #[.pointer (some ⟨w.heap.size, 0, none⟩)] (fun x => onLoopB p x.toNat) (natL (reachL p n)) w1 from by
    intro x hx w2 hb2
    obtain ⟨v, hv, rfl⟩ := List.mem_map.1 hx
    have hz2 := hb2.size
    exact onBack1_any a cap p v w.heap.size w2 B C (F.out.below (HB1.out.trans (hb2.mono (by omega))) hC) (by omega) HS.out ((reachL_mem hn).1 hv).1 hl (blk1 (hb2.blk HX1.out (by omega))).1)
  obtain ⟨L, hL⟩ : ∃ L, L = natL (reachL p n) := ⟨_, rfl⟩
  have HB := Lib.hid (show backB p n = L.any fun x => onLoopB p x.toNat by rw [hL]; rfl)
  rw [← hL] at hll O1 HT ⊢
  clear hL
  go_wp2_with fail
  refine (containsFunc_any x1 c1 L _ _ _ w1 _ _ entersL2 O1.out (Nat.le_refl _) (by omega) HT.out).mono ?_
  rintro e w3 ⟨rfl, hb3⟩
  have HB3 := Lib.hid (HB1.out.trans (hb3.mono (by omega)))
  clear hb3
  go_wp2_with fail
  go_ret
  exact ⟨by rw [HB.out]; rfl, HB3.out⟩

set_option maxHeartbeats 1000000 in
theorem codeAt_any (a : Option Addr) (cap : Nat) (p : List (List Int)) (hs : Sq p) (hl : p.length ≤ 1024) : ∀ (r i : Nat) (w : World) (B C : Nat), reachN p i = r → ¬ Back p i → i < p.length → RdII w B C a p → C ≤ w.heap.size →
    Calls Tryz.prog 67 #[.slice a p.length cap, .int .i64 i] w (CodePost p i w) := by
  intro r
  refine Nat.strongRecOn r fun r ih => ?_
  intro i w B C hr hnb hi h hC
  have F := Lib.hid h
  have HS := Lib.hid hs
  have HIH : Hid (∀ v, Mem p i v → ∀ (w : World) (B C : Nat), RdII w B C a p → C ≤ w.heap.size → Calls Tryz.prog 67 #[.slice a p.length cap, .int .i64 v] w (CodePost p v w)) :=
    Lib.hid fun v hv w B C h1 h2 => ih (reachN p v) (by rw [← hr]; exact reachN_lt hi hv hnb) v w B C rfl (fun hb => hnb (hb.step hi hv)) hv.1 h1 h2
  clear h hs ih hr hnb
  have hii : (i : Int) < (p.length : Int) := by omega
  go_enter Tryz.func67, Tryz.ntmps67
  go_wp2_with fail
  refine (arrowsOf_any a cap p i _ B C F.out hC HS.out hi hl).mono ?_
  rintro e w1 ⟨x1, c1, rfl, o1, hb1⟩
  obtain ⟨L, hL⟩ : ∃ L, L = arrL p i p.length := ⟨_, rfl⟩
  rw [← hL] at o1 ⊢
  have hLL : L.length ≤ p.length := by rw [hL]; exact arrL_le _ _ _
  have HL := Lib.hid hL
  have O1 := Lib.hid o1.rd
  have HB1 := Lib.hid hb1
  have hz1 : w.heap.size ≤ w1.heap.size := hb1.size
  clear o1 hb1 hL
  go_wp2_with fail
  go_loopw [6, 15] (fun si ki wr => ∃ k S : Nat, k ≤ L.length ∧ ki = .int .i64 k ∧ si = .int .i64 S ∧ SetK p L k S ∧ Below w1.heap.size w1 wr) (fun _ ki _ => L.length - (intOf ki).toNat)
  case atStart => exact ⟨0, 0, Nat.zero_le _, rfl, rfl, SetK.zero _ _, Below.refl _ _⟩
  case round =>
    obtain ⟨k, S, hk, rfl, rfl, hset, hb⟩ := hrel
    have HSET := Lib.hid hset
    have HBR := Lib.hid hb
    have HBW := Lib.hid (HB1.out.trans (hb.mono (by omega)))
    have hzr : w1.heap.size ≤ wr.heap.size := hb.size
    have hS : S < 65536 := hset.1
    clear hset hb
    by_cases hlt : k < L.length
    · have hmem : ∃ v : Nat, L[k] = (v : Int) ∧ Mem p i v := by
        have h1 : L[k] ∈ arrL p i p.length := by rw [← HL.out]; exact List.getElem_mem hlt
        obtain ⟨v, e, h2, h3⟩ := arrL_mem.1 h1
        exact ⟨v, e, h2, h3⟩
      obtain ⟨v, hv, hmv⟩ := hmem
      have HGV := Lib.hid (show (L.getD k 0).toNat = v by rw [getD_lt hlt, hv, Int.toNat_natCast])
      have HMV := Lib.hid hmv
      have hvp := hmv.1
      obtain ⟨b1, o1, rfl, _, hb1, hd1⟩ := (O1.out.below HBR.out (Nat.le_refl _)).at k hlt
      rw [hv] at hd1
      have hki : (k : Int) < (L.length : Int) := by omega
      clear hv hmv
      go_wp2_with fail
      refine (HIH.out v HMV.out wr B C (F.out.below HBW.out hC) (by omega)).mono ?_
      rintro e w3 ⟨c, b, rfl, hres, hb3⟩
      have HB3 := Lib.hid (HBR.out.trans (hb3.mono hzr))
      have HBX := Lib.hid (HBW.out.trans (hb3.mono (by omega)))
      clear hb3
      rcases hres with ⟨rfl, m, rfl, hcode⟩ | ⟨rfl, hno⟩
      · have HCODE := Lib.hid hcode
        by_cases hm : m ≤ 15
        · have hmi : ¬ (15 : Int) < (m : Int) := by omega
          have HST := Lib.hid (HSET.out.step (m := m) (by rw [HGV.out]; exact hvp) hm (by rw [HGV.out]; exact hcode))
          have HOB := Lib.hid (or_bit hS (show m < 16 by omega))
          clear hcode hd1
          go_wp2_with fail
          go_roundw
          case rel => exact ⟨k + 1, S ||| 2 ^ m, by omega, by go_num, by rw [HOB.out], HST.out, HB3.out⟩
          case measure => simp [intOf]; omega
        · have hmi : (15 : Int) < (m : Int) := by omega
          clear hcode hd1
          go_wp2_with fail
          go_ret2
          exact ⟨0, false, rfl, .inr ⟨rfl, fun n hn => hm (hn.mem_le HMV.out HCODE.out)⟩, HBX.out⟩
      · have HNO := Lib.hid hno
        clear hno hd1
        go_wp2_with fail
        go_ret2
        exact ⟨0, false, rfl, .inr ⟨rfl, fun n hn => by
          obtain ⟨m, _, h1⟩ := hn.mem HMV.out
          exact HNO.out m h1⟩, HBX.out⟩
    · obtain rfl : k = L.length := by omega
      go_wp2_with fail
      go_ret2
      exact ⟨S, true, rfl, .inl ⟨rfl, S, rfl, by have := HSET.out; rw [HL.out] at this; exact this.code⟩, HBW.out⟩

set_option maxHeartbeats 1000000 in
theorem implCodeAt_any (a : Option Addr) (cap : Nat) (p : List (List Int)) (n : Int) (w : World) (B C : Nat) (h : RdII w B C a p) (hC : C ≤ w.heap.size) (hl : p.length ≤ maxLen) :
    Calls Tryz.prog 21 #[.slice a p.length cap, .int .i64 n] w fun e w' => ∃ (c : Int) (b : Bool), e = .returned (.tuple #[.int .i64 c, .bool b]) ∧ Below w.heap.size w w' ∧ (b = false → c = -1) ∧ (nodeB p n = true → CodeRes p n.toNat c b) ∧ (nodeB p n = false → b = false) := by
  have F := Lib.hid h
  have HL := Lib.hid hl
  clear h
  cases h1 : nodeB p n
  · have H1 := Lib.hid h1
    clear h1
    go_enter Tryz.func21, Tryz.ntmps21
    go_wp2_with (go_at_call 45; refine (hasNode_any _ _ _ _ _ B C F.out HL.out).mono ?_; rintro e w' ⟨rfl, rfl⟩; rw [H1.out])
    go_ret2
    exact ⟨-1, false, rfl, Below.refl _ _, fun _ => rfl, fun h => by first | cases h | (rw [H1.out] at h; cases h), fun _ => rfl⟩
  · have H1 := Lib.hid h1
    obtain ⟨i, rfl, hi, hp⟩ := nodeB_nat h1
    obtain ⟨sq, s1, s5⟩ := picB_sq hp
    have HS := Lib.hid sq
    clear h1 hp sq
    have HCB := Lib.hid (comesBack_any a cap p i w B C F.out hC HS.out hi (by omega))
    cases hbk : backB p i
    · have hnb : ¬ Back p i := fun h => by rw [(backB_iff hi).2 h] at hbk; cases hbk
      have HNB := Lib.hid hnb
      rw [hbk] at HCB
      clear hbk hnb
      go_enter Tryz.func21, Tryz.ntmps21
      go_wp2_with (first | (go_at_call 45; refine (hasNode_any _ _ _ _ _ B C F.out HL.out).mono ?_; rintro e w' ⟨rfl, rfl⟩; rw [H1.out]) | (go_at_call 66; refine HCB.out.mono ?_; rintro e w1 ⟨rfl, hb1⟩; have HB1 := Lib.hid hb1; have hz1 := hb1.size; clear hb1))
      refine (codeAt_any a cap p HS.out (by omega) _ i w1 B C rfl HNB.out hi (F.out.below HB1.out hC) (by omega)).mono ?_
      rintro e w2 ⟨c, b, rfl, hres, hb2⟩
      have HRES := Lib.hid hres
      have HB2 := Lib.hid (HB1.out.trans (hb2.mono hz1))
      clear hres hb2
      cases b
      · go_wp2_with fail
        go_ret2
        refine ⟨-1, false, rfl, HB2.out, fun _ => rfl, fun _ => ?_, fun _ => rfl⟩
        rcases HRES.out with ⟨h, _⟩ | ⟨_, h⟩
        · cases h
        · exact .inr ⟨rfl, h⟩
      · go_wp2_with fail
        go_ret2
        exact ⟨c, true, rfl, HB2.out, (fun h => by cases h), (fun _ => HRES.out), (fun h => by first | cases h | (rw [H1.out] at h; cases h))⟩
    · have hback := (backB_iff hi).1 hbk
      have HBK := Lib.hid hback
      rw [hbk] at HCB
      clear hbk hback
      go_enter Tryz.func21, Tryz.ntmps21
      go_wp2_with (first | (go_at_call 45; refine (hasNode_any _ _ _ _ _ B C F.out HL.out).mono ?_; rintro e w' ⟨rfl, rfl⟩; rw [H1.out]) | (go_at_call 66; refine HCB.out.mono ?_; rintro e w1 ⟨rfl, hb1⟩; have HB1 := Lib.hid hb1; have hz1 := hb1.size; clear hb1))
      go_ret2
      exact ⟨-1, false, rfl, HB1.out, fun _ => rfl, fun _ => .inr ⟨rfl, fun m hm => hm.grd.no_back HBK.out⟩, fun _ => rfl⟩
end Go.Proofs.YtfjodcfbhpglhaaGreatDoor
namespace Go.Hyp
open Go.RowKit
theorem and_one (a : Nat) (ha : a < 65536) : bits .and .i64 (a : Int) 1 = ((a % 2 : Nat) : Int) := by
  have e1 : (BitVec.ofInt 64 (1 : Int)).toNat = 1 := by decide
  show IntKind.i64.wrap ((BitVec.ofInt 64 (a : Int) &&& BitVec.ofInt 64 (1 : Int)).toNat : Int) = _
  rw [BitVec.toNat_and, ofInt_64 a (by omega), e1, Nat.and_one_is_mod, IntWalk.i64_in _ (by omega)]
theorem bit_shr {n m : Nat} (hn : n ≤ 65535) : (bits .and .i64 ((n : Int) / 2 ^ m) 1 == 1) = n.testBit m := by
  have e : ((n : Int) / 2 ^ m) = ((n / 2 ^ m : Nat) : Int) := by rw [Int.natCast_ediv, Int.natCast_pow]; rfl
  have hle : n / 2 ^ m ≤ n := Nat.div_le_self _ _
  rw [e, and_one _ (by omega), Nat.testBit_eq_decide_div_mod_eq, Bool.eq_iff_iff]
  simp
  omega
end Go.Hyp
namespace Go.Proofs.YtfjodcfbhpglhaaGreatDoor
open Go.RowKit Go.Hyp Go.Deep

theorem isCode_any (n : Nat) (w : World) (hn : n ≤ 65535) : Calls Tryz.prog 96 #[.int .i64 n] w fun e w' => e = .returned (.bool true) ∧ w = w' := by
  have h1 : (n : Int) ≤ 65535 := by omega
  go_enter Tryz.func96, Tryz.ntmps96
  go_wp2_with fail
  go_ret
  exact ⟨rfl, rfl⟩
set_option maxHeartbeats 400000 in
theorem implHas_nat (n m : Nat) (w : World) (hn : n ≤ 65535) (hm : m ≤ 65535) : Calls Tryz.prog 65 #[.int .i64 n, .int .i64 m] w fun e w' => e = .returned (.bool (n.testBit m)) ∧ w = w' := by
  by_cases h15 : m ≤ 15
  · have h15i : (m : Int) ≤ 15 := by omega
    go_enter Tryz.func65, Tryz.ntmps65
    go_wp2_with (go_at_call 96; refine (isCode_any _ _ (by omega)).mono ?_; rintro e w' ⟨rfl, rfl⟩)
    go_ret
    exact ⟨ret_bool (bit_shr hn), rfl⟩
  · have h15i : ¬ (m : Int) ≤ 15 := by omega
    have HT : Hid (n.testBit m = false) := Lib.hid (Nat.testBit_lt_two_pow (Nat.lt_of_lt_of_le (show n < 2 ^ 16 by omega) (Nat.pow_le_pow_right (by omega) (by omega))))
    go_enter Tryz.func65, Tryz.ntmps65
    go_wp2_with (go_at_call 96; refine (isCode_any _ _ (by omega)).mono ?_; rintro e w' ⟨rfl, rfl⟩)
    go_ret
    exact ⟨ret_bool HT.out.symm, rfl⟩
end Go.Proofs.YtfjodcfbhpglhaaGreatDoor
