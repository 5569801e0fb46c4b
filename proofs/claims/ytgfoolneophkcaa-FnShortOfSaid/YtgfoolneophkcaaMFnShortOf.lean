/- The law FnShortOf, walked. -/
import Derived.Deep.RegionHeld3
import Derived.Test.YtgfoolneophkcaaM7
import Derived.Test.YtgfoolneophkcaaM8
import Derived.Test.YtgfoolneophkcaaMExShortOf
import Derived.Test.YtgfoolneophkcaaM3
namespace Go.Hyp
theorem short_again {l1 l2 m1 m2 : List Int} (h : ShortAns l1 l2 m1 m2) (hs : streamB l1 l2 = true) : streamB m1 m2 = true ∧ m1.length ≤ l1.length ∧ m2.length ≤ l2.length ∧ SameP m1 m2 l1 l2 ∧ ShortAns m1 m2 m1 m2 := by
  rcases h with ⟨_, hf, h1, h2, h3⟩ | ⟨h0, _⟩
  · have e : bitOf m1 m2 = bitOf l1 l2 := hf.1
    refine ⟨h3, h1, h2, ⟨h3, hs, e⟩, .inl ⟨h3, by rw [e]; exact hf, Nat.le_refl _, Nat.le_refl _, h3⟩⟩
  · rw [hs] at h0; cases h0
theorem short_none {l1 l2 m1 m2 : List Int} (h : ShortAns l1 l2 m1 m2) (hs : streamB l1 l2 = false) : m1 = [] ∧ m2 = [] := by
  rcases h with ⟨h0, _⟩ | ⟨_, h⟩
  · rw [hs] at h0; cases h0
  · exact h
end Go.Hyp
namespace Go.Proofs.Ytgfoolneophkcaa
open Go.RowKit Go.Hyp Go.Deep

set_option maxHeartbeats 400000 in
theorem drawShortOf_any (a : Option Addr) (cap : Nat) (l : List Int) (w : World) (h : RdB w w.heap.size a l) (hl : l.length ≤ maxLen) (hcap : l.length ≤ cap) :
    Calls Try.prog 25 #[.slice a l.length cap] w (DrewS0 w) := by
  have HB := Lib.hid (h.agr2 (below_alloc w (.cells #[.slice none 0 0, .slice none 0 0] 34)) (Nat.le_refl _) (by simp))
  clear h
  go_enter Try.func25, Try.ntmps25
  go_wp2_with fail
  refine (open_any a cap l _ HB.out hl hcap).mono ?_
  rintro e w1 ⟨l', rfl, hr1, hb1, hz1⟩
  rw [World.size_alloc] at hr1
  have HB1 := Lib.hid (hb1.blk (alloc1 w (.cells #[.slice none 0 0, .slice none 0 0] 34)) (by simp))
  have HR1 := Lib.hid hr1
  have HH1 := Lib.hid (below_trans (below_alloc w _) hb1)
  clear hr1 hb1
  simp at hz1
  have HZ1 := Lib.hid hz1
  clear hz1
  go_wp2_with fail
  refine (l20Stream_any _ l' 0 9 w1 HR1.out (by omega) (by omega)).mono ?_
  rintro e w2 ⟨a1, c1, l1, a2, c2, l2, rfl, r1, r2, hl1, hl2, _, hc2⟩
  have HB2 := Lib.hid (hc2.blk HB1.out (by simp))
  have HH2 := Lib.hid (HH1.out.trans (hc2.below (D := w.heap.size) (fun k hk => by subst hk; simp) (by have := HZ1.out; omega)))
  have HR1' := Lib.hid r1
  have HR2' := Lib.hid r2
  have hz2 := hc2.size
  clear r1 r2 hc2
  obtain ⟨q0, q1, q2, q3⟩ := blk2 HB2.out
  go_wp2_with fail
  obtain ⟨r0, r1, _, _⟩ := blk2 (blk_set (.slice a2 l2.length c2) (i := 1) (blk_set (.slice a1 l1.length c1) (i := 0) HB2.out))
  refine bodyPost_ret (v := .agg #[.slice a1 l1.length c1, .slice a2 l2.length c2]) (by simp [results, Try.results25, go_sem, r0, r1]) rfl ⟨a1, c1, l1, a2, c2, l2, rfl, ?_, ?_, hl1, hl2, (HH2.out.setCell (by simp) _).setCell (by simp) _⟩
  · exact (HR1'.out.agr (((Agr.refl _ _ _).set (by have := HZ1.out; omega) _).set (by have := HZ1.out; omega) _)).mono (by have := HZ1.out; omega) (by simp)
  · exact (HR2'.out.agr (((Agr.refl _ _ _).set (by have := HZ1.out; omega) _).set (by have := HZ1.out; omega) _)).mono (by have := HZ1.out; omega) (by simp)

set_option maxHeartbeats 400000 in
theorem sameStream_any (a1 a2 b1 b2 : Option Addr) (c1 c2 d1 d2 : Nat) (l1 l2 : List Int) (w : World) (B : Nat) (h1 : RdI w B w.heap.size a1 l1) (h2 : RdI w B w.heap.size a2 l2) (h3 : RdI w B w.heap.size b1 l1) (h4 : RdI w B w.heap.size b2 l2) (hl1 : l1.length ≤ maxLen) (hl2 : l2.length ≤ maxLen) :
    Calls Try.prog 27 #[.agg #[.slice a1 l1.length c1, .slice a2 l2.length c2], .agg #[.slice b1 l1.length d1, .slice b2 l2.length d2]] w fun e w' => e = .returned (.bool true) ∧ Below w.heap.size w w' := by
  have F1 := Lib.hid h1
  have F2 := Lib.hid h2
  have F3 := Lib.hid h3
  have F4 := Lib.hid h4
  clear h1 h2 h3 h4
  have hbb := Lib.hid ((below_alloc w (.cells #[.slice a1 l1.length c1, .slice a2 l2.length c2] 34)).alloc (by simp) (.cells #[.slice b1 l1.length d1, .slice b2 l2.length d2] 34))
  go_enter Try.func27, Try.ntmps27
  go_wp2_with fail
  refine (sameInts_any a1 b1 c1 d1 l1 l1 _ B _ B _ (F1.out.below hbb.out (by simp)) (F3.out.below hbb.out (by simp)) hl1 hl1).mono ?_
  rintro e w' ⟨rfl, n, rfl⟩
  rw [decide_eq_true rfl]
  go_wp2_with fail
  refine (sameInts_any a2 b2 c2 d2 l2 l2 _ B _ B _ (F2.out.below (below_drewN hbb.out _) (by simp)) (F4.out.below (below_drewN hbb.out _) (by simp)) hl2 hl2).mono ?_
  rintro e w' ⟨rfl, n', rfl⟩
  rw [decide_eq_true rfl]
  go_wp2_with fail
  go_ret
  exact ⟨rfl, below_drewN hbb.out _⟩

set_option maxHeartbeats 400000 in
theorem noStream_any (a1 a2 : Option Addr) (c1 c2 : Nat) (w : World) :
    Calls Try.prog 30 #[.agg #[.slice a1 0 c1, .slice a2 0 c2]] w fun e w' => e = .returned (.bool true) ∧ Below w.heap.size w w' := by
  have hb := Lib.hid (below_alloc w (.cells #[.slice a1 0 c1, .slice a2 0 c2] 34))
  have nil : ∀ (v : World) (B C : Nat) (x : Option Addr), RdI v B C x [] := fun v B C x i hi => absurd hi (Nat.not_lt_zero _)
  go_enter Try.func30, Try.ntmps30
  go_wp2_with fail
  refine (sameStream_any a1 a2 none none c1 c2 0 0 [] [] _ 0 (nil _ _ _ _) (nil _ _ _ _) (nil _ _ _ _) (nil _ _ _ _) (Nat.zero_le _) (Nat.zero_le _)).mono ?_
  rintro e w1 ⟨rfl, hb1⟩
  have H1 := Lib.hid (below_trans hb.out hb1)
  clear hb1
  go_wp2_with fail
  go_ret
  exact ⟨rfl, H1.out⟩

set_option maxRecDepth 8000 in
set_option maxHeartbeats 8000000 in
theorem fnShortOf_any (a : Option Addr) (cap : Nat) (l : List Int) (w : World) (h : RdB w w.heap.size a l) (hl : l.length ≤ maxLen ∧ l.length ≤ cap) :
    Calls Try.prog 5 #[.slice a l.length cap] w fun e w' => e = .returned (.bool true) ∧ Below w.heap.size w w' := by
  obtain ⟨hl, hcap⟩ := hl
  have HB := Lib.hid h
  clear h
  by_cases hbig : 1048576 < l.length
  · go_enter Try.func5, Try.ntmps5
    go_wp2_with fail
    go_ret
    exact ⟨rfl, Below.refl _ _⟩
  go_enter Try.func5, Try.ntmps5
  go_wp2_with fail
  refine (drawShortOf_any a cap l w HB.out hl hcap).mono ?_
  rintro e W1 ⟨xS1, gS1, l1, xS2, gS2, l2, rfl, o1, o2, hq1, hq2, hb⟩
  have hz1 : w.heap.size ≤ W1.heap.size := hb.size
  have H := Lib.hid hb
  have hn1 : l1.length ≤ 1048576 := by omega
  have hn2 : l2.length ≤ 1048576 := by omega
  clear hb
  obtain ⟨loS, hlo⟩ : ∃ v, v = w.heap.size := ⟨_, rfl⟩
  obtain ⟨hiS, hhi⟩ : ∃ v, v = W1.heap.size := ⟨_, rfl⟩
  rw [← hlo, ← hhi] at o1 o2
  have OS1 := Lib.hid o1
  have OS2 := Lib.hid o2
  have DS := Lib.hid True.intro
  have hlhS : loS ≤ hiS := by omega
  have hhwS : hiS ≤ W1.heap.size := by omega
  have hwlS : w.heap.size ≤ loS := by omega
  clear hlo hhi o1 o2
  have hal := below_alloc W1 (.cells #[.slice xS1 l1.length gS1, .slice xS2 l2.length gS2] 34)
  replace OS1 := Lib.hid (OS1.out.below hal (by omega))
  replace OS2 := Lib.hid (OS2.out.below hal (by omega))
  have BS := Lib.hid (blk_new (w := W1) (o := .cells #[.slice xS1 l1.length gS1, .slice xS2 l2.length gS2] 34) rfl)
  replace H := Lib.hid (below_alloc' H.out (.cells #[.slice xS1 l1.length gS1, .slice xS2 l2.length gS2] 34))
  clear hal
  have hcbSS : hiS ≤ W1.heap.size := by omega
  obtain ⟨cS1, cS2, _, _⟩ := blk2 BS.out
  go_wp2_with fail
  clear cS1 cS2
  obtain ⟨W2, hW⟩ : ∃ v, v = W1.alloc (.cells #[.slice xS1 l1.length gS1, .slice xS2 l2.length gS2] 34) := ⟨_, rfl⟩
  have hz2 : W1.heap.size < W2.heap.size := by rw [hW]; simp
  rw [← hW] at BS OS1 OS2 H ⊢
  clear hW
  refine (implShortOf_any xS1 xS2 gS1 gS2 l1 l2 W2 loS hiS loS hiS (by exact OS1.out) (by exact OS2.out) (by exact (show hiS ≤ W2.heap.size by omega)) (by exact (show hiS ≤ W2.heap.size by omega)) hn1 hn2).mono ?_
  rintro e W3 ⟨m1, m2, hsa, xX1, gX1, xX2, gX2, rfl, o1, o2, hd, hb⟩
  have HSA := Lib.hid hsa
  have hm12 := hsa.len
  obtain ⟨hm1, hm2⟩ := hm12
  clear hsa
  have hz3 : W2.heap.size ≤ W3.heap.size := hb.size
  replace BS := Lib.hid (hb.blk BS.out (blk_lt BS.out))
  replace OS1 := Lib.hid (OS1.out.below hb (by omega))
  replace OS2 := Lib.hid (OS2.out.below hb (by omega))
  replace H := Lib.hid (below_then H.out hb)
  obtain ⟨loX, hlo⟩ : ∃ v, v = W2.heap.size := ⟨_, rfl⟩
  obtain ⟨hiX, hhi⟩ : ∃ v, v = W3.heap.size := ⟨_, rfl⟩
  rw [← hlo, ← hhi] at o1 o2
  have OX1 := Lib.hid o1
  have OX2 := Lib.hid o2
  have DX := Lib.hid hd
  have hlhX : loX ≤ hiX := by omega
  have hhwX : hiX ≤ W3.heap.size := by omega
  have hwlX : w.heap.size < loX := by omega
  have hccSX : hiS ≤ loX := by omega
  have hbcSX : W1.heap.size < loX := by omega
  clear hlo hhi o1 o2 hd
  clear hb
  have hal := below_alloc W3 (.cells #[.slice xX1 m1.length gX1, .slice xX2 m2.length gX2] 34)
  replace BS := Lib.hid (blk_old (o := .cells #[.slice xX1 m1.length gX1, .slice xX2 m2.length gX2] 34) BS.out)
  replace OS1 := Lib.hid (OS1.out.below hal (by omega))
  replace OS2 := Lib.hid (OS2.out.below hal (by omega))
  replace OX1 := Lib.hid (OX1.out.below hal (by omega))
  replace OX2 := Lib.hid (OX2.out.below hal (by omega))
  have BX := Lib.hid (blk_new (w := W3) (o := .cells #[.slice xX1 m1.length gX1, .slice xX2 m2.length gX2] 34) rfl)
  replace H := Lib.hid (below_alloc' H.out (.cells #[.slice xX1 m1.length gX1, .slice xX2 m2.length gX2] 34))
  clear hal
  have hcbSX : hiS ≤ W3.heap.size := by omega
  have hcbXX : hiX ≤ W3.heap.size := by omega
  obtain ⟨cS1, cS2, _, _⟩ := blk2 BS.out
  obtain ⟨cX1, cX2, _, _⟩ := blk2 BX.out
  go_wp2_with fail
  clear cS1 cS2 cX1 cX2
  obtain ⟨W4, hW⟩ : ∃ v, v = W3.alloc (.cells #[.slice xX1 m1.length gX1, .slice xX2 m2.length gX2] 34) := ⟨_, rfl⟩
  have hz4 : W3.heap.size < W4.heap.size := by rw [hW]; simp
  rw [← hW] at BS BX OS1 OS2 OX1 OX2 H ⊢
  clear hW
  obtain ⟨cS1, cS2, _, _⟩ := blk2 BS.out
  obtain ⟨cX1, cX2, _, _⟩ := blk2 BX.out
  refine wp_region_held_drew (S := (fun w' => w'.cell? ⟨W3.heap.size, 0, none⟩ = some (.slice xX1 m1.length gX1) ∧ w'.cell? ⟨W3.heap.size, 1, none⟩ = some (.slice xX2 m2.length gX2) ∧ w'.cell? ⟨W1.heap.size, 0, none⟩ = some (.slice xS1 l1.length gS1) ∧ w'.cell? ⟨W1.heap.size, 1, none⟩ = some (.slice xS2 l2.length gS2))) (by kernel_rfl) (by exact ⟨cX1, cX2, cS1, cS2⟩) (fun hHeld => ?_)
  refine wpAnyH_take (i := 0) (v := ?_) rfl (by kernel_rfl) (by kernel_rfl) (by kernel_rfl) (fun _ _ _ h => h) (Or.inl ⟨by rfl, ?_⟩) hHeld ?_
  rotate_left
  · intro w hSw; (try dsimp only at hSw); first | (go_simp; done) | (go_simp; with_reducible rfl)
  simp only [Act.put, List.setIfInBounds_toArray, List.set_cons_zero, List.set_cons_succ, List.getElem_toArray, List.getElem_cons_zero, List.getElem_cons_succ]
  refine wpAnyH_take (i := 1) (v := ?_) rfl (by kernel_rfl) (by kernel_rfl) (by kernel_rfl) (fun _ _ _ h => h) (Or.inl ⟨by rfl, ?_⟩) hHeld ?_
  rotate_left
  · intro w hSw; (try dsimp only at hSw); first | (go_simp; done) | (go_simp; with_reducible rfl)
  simp only [Act.put, List.setIfInBounds_toArray, List.set_cons_zero, List.set_cons_succ, List.getElem_toArray, List.getElem_cons_zero, List.getElem_cons_succ]
  clear cS1 cS2 cX1 cX2
  refine wpAnyH_ready (rs := [2]) (by kernel_rfl) (by simp) ?_
  refine AllReadyH.cons rfl (fun K hK => ?_) AllReadyH.nil
  go_simp
  refine (specShortOf_any xS1 xS2 gS1 gS2 l1 l2 W4.drew loS hiS (by exact OS1.out) (by exact OS2.out) (by exact (show hiS ≤ W4.heap.size by omega)) hn1 hn2).mono ?_
  rintro e W5 ⟨n1, n2, hsa, xY1, gY1, xY2, gY2, rfl, o1, o2, hd, hb0⟩
  obtain ⟨rfl, rfl⟩ := HSA.out.one hsa
  clear hsa
  have hb := undrew hb0
  clear hb0
  replace o1 : OwI W5 3 W4.heap.size W5.heap.size xY1 gY1 m1 := o1
  replace o2 : OwI W5 3 W4.heap.size W5.heap.size xY2 gY2 m2 := o2
  have hz5 : W4.heap.size ≤ W5.heap.size := hb.size
  replace BS := Lib.hid (hb.blk BS.out (blk_lt BS.out))
  replace BX := Lib.hid (hb.blk BX.out (blk_lt BX.out))
  replace OS1 := Lib.hid (OS1.out.below hb (by omega))
  replace OS2 := Lib.hid (OS2.out.below hb (by omega))
  replace OX1 := Lib.hid (OX1.out.below hb (by omega))
  replace OX2 := Lib.hid (OX2.out.below hb (by omega))
  replace H := Lib.hid (below_then H.out hb)
  obtain ⟨loY, hlo⟩ : ∃ v, v = W4.heap.size := ⟨_, rfl⟩
  obtain ⟨hiY, hhi⟩ : ∃ v, v = W5.heap.size := ⟨_, rfl⟩
  rw [← hlo, ← hhi] at o1 o2
  have OY1 := Lib.hid o1
  have OY2 := Lib.hid o2
  have DY := Lib.hid hd
  have hlhY : loY ≤ hiY := by omega
  have hhwY : hiY ≤ W5.heap.size := by omega
  have hwlY : w.heap.size < loY := by omega
  have hccSY : hiS ≤ loY := by omega
  have hccXY : hiX ≤ loY := by omega
  have hbcSY : W1.heap.size < loY := by omega
  have hbcXY : W3.heap.size < loY := by omega
  clear hlo hhi o1 o2 hd
  clear hb
  obtain ⟨cS1, cS2, _, _⟩ := blk2 BS.out
  obtain ⟨cX1, cX2, _, _⟩ := blk2 BX.out
  refine hK.out _ _ (by exact ⟨cX1, cX2, cS1, cS2⟩) (fun hHeld2 => ?_)
  clear hK K hHeld
  have hHeld := hHeld2
  clear hHeld2
  (try simp only [Act.put, List.setIfInBounds_toArray, List.set_cons_zero, List.set_cons_succ])
  clear cS1 cS2 cX1 cX2
  refine wpAnyH_ready (rs := [3]) (by kernel_rfl) (by simp) ?_
  refine AllReadyH.cons rfl (fun K hK => ?_) AllReadyH.nil
  go_simp
  refine (sameStream_any xX1 xX2 xY1 xY2 gX1 gX2 gY1 gY2 m1 m2 W5 0 (OX1.out.rd.mono (Nat.zero_le _) (by omega)) (OX2.out.rd.mono (Nat.zero_le _) (by omega)) (OY1.out.rd.mono (Nat.zero_le _) (by omega)) (OY2.out.rd.mono (Nat.zero_le _) (by omega)) (by unfold maxLen; omega) (by unfold maxLen; omega)).mono ?_
  rintro e W6 ⟨rfl, hb⟩
  have hz6 : W5.heap.size ≤ W6.heap.size := hb.size
  replace BS := Lib.hid (hb.blk BS.out (blk_lt BS.out))
  replace BX := Lib.hid (hb.blk BX.out (blk_lt BX.out))
  replace OS1 := Lib.hid (OS1.out.below hb (by omega))
  replace OS2 := Lib.hid (OS2.out.below hb (by omega))
  replace OX1 := Lib.hid (OX1.out.below hb (by omega))
  replace OX2 := Lib.hid (OX2.out.below hb (by omega))
  replace OY1 := Lib.hid (OY1.out.below hb (by omega))
  replace OY2 := Lib.hid (OY2.out.below hb (by omega))
  replace H := Lib.hid (below_then H.out hb)
  clear hb
  obtain ⟨cS1, cS2, _, _⟩ := blk2 BS.out
  obtain ⟨cX1, cX2, _, _⟩ := blk2 BX.out
  refine hK.out _ _ (by exact ⟨cX1, cX2, cS1, cS2⟩) (fun hHeld2 => ?_)
  clear hK K hHeld
  have hHeld := hHeld2
  clear hHeld2
  (try simp only [Act.put, List.setIfInBounds_toArray, List.set_cons_zero, List.set_cons_succ])
  clear cS1 cS2 cX1 cX2
  refine wpAnyH_take (i := 4) (v := ?_) rfl (by kernel_rfl) (by kernel_rfl) (by kernel_rfl) (fun _ _ _ h => h) (Or.inl ⟨by rfl, ?_⟩) hHeld ?_
  rotate_left
  · intro w hSw; (try dsimp only at hSw); first | (go_simp; done) | (go_simp; with_reducible rfl)
  simp only [Act.put, List.setIfInBounds_toArray, List.set_cons_zero, List.set_cons_succ, List.getElem_toArray, List.getElem_cons_zero, List.getElem_cons_succ]
  refine wpAnyH_done (by kernel_rfl) ?_ _
  clear OY1 OY2 DY
  cases hst : streamB l1 l2
  · have HST := Lib.hid hst
    obtain ⟨rfl, rfl⟩ := short_none HSA.out hst
    clear hst hm1 hm2
    obtain ⟨cS1, cS2, _, _⟩ := blk2 BS.out
    obtain ⟨cX1, cX2, _, _⟩ := blk2 BX.out
    go_wp2_with fail
    clear cS1 cS2 cX1 cX2
    refine (specStreamOk_any xS1 xS2 gS1 gS2 l1 l2 W6 loS hiS loS hiS OS1.out OS2.out (by omega) (by omega) hn1 hn2).mono ?_
    rintro e W7 ⟨rfl, hb⟩
    rw [HST.out]
    have hz7 : W6.heap.size ≤ W7.heap.size := hb.size
    replace BS := Lib.hid (hb.blk BS.out (blk_lt BS.out))
    replace BX := Lib.hid (hb.blk BX.out (blk_lt BX.out))
    replace OS1 := Lib.hid (OS1.out.below hb (by omega))
    replace OS2 := Lib.hid (OS2.out.below hb (by omega))
    replace OX1 := Lib.hid (OX1.out.below hb (by omega))
    replace OX2 := Lib.hid (OX2.out.below hb (by omega))
    replace H := Lib.hid (below_then H.out hb)
    clear hb
    obtain ⟨cS1, cS2, _, _⟩ := blk2 BS.out
    obtain ⟨cX1, cX2, _, _⟩ := blk2 BX.out
    go_wp2_with fail
    clear cS1 cS2 cX1 cX2
    refine (noStream_any xX1 xX2 gX1 gX2 W7).mono ?_
    rintro e W8 ⟨rfl, hb⟩
    have hz8 : W7.heap.size ≤ W8.heap.size := hb.size
    replace BS := Lib.hid (hb.blk BS.out (blk_lt BS.out))
    replace BX := Lib.hid (hb.blk BX.out (blk_lt BX.out))
    replace OS1 := Lib.hid (OS1.out.below hb (by omega))
    replace OS2 := Lib.hid (OS2.out.below hb (by omega))
    replace OX1 := Lib.hid (OX1.out.below hb (by omega))
    replace OX2 := Lib.hid (OX2.out.below hb (by omega))
    replace H := Lib.hid (below_then H.out hb)
    clear hb
    go_wp2_with (go_at_call 31; refine (alive1_any _).mono ?_; rintro e w' ⟨rfl, rfl⟩)
    go_ret
    exact ⟨rfl, H.out⟩
  · have HST := Lib.hid hst
    obtain ⟨hs1, hs2, hs3, hs4, hs5⟩ := short_again HSA.out hst
    have HXS := Lib.hid hs1
    have HSP := Lib.hid hs4
    have HSN := Lib.hid hs5
    have hle1 : (m1.length : Int) ≤ (l1.length : Int) := by omega
    have hle2 : (m2.length : Int) ≤ (l2.length : Int) := by omega
    clear hst hs1 hs4 hs5
    obtain ⟨cS1, cS2, _, _⟩ := blk2 BS.out
    obtain ⟨cX1, cX2, _, _⟩ := blk2 BX.out
    go_wp2_with fail
    clear cS1 cS2 cX1 cX2
    refine (specStreamOk_any xS1 xS2 gS1 gS2 l1 l2 W6 loS hiS loS hiS OS1.out OS2.out (by omega) (by omega) hn1 hn2).mono ?_
    rintro e W7 ⟨rfl, hb⟩
    rw [HST.out]
    have hz7 : W6.heap.size ≤ W7.heap.size := hb.size
    replace BS := Lib.hid (hb.blk BS.out (blk_lt BS.out))
    replace BX := Lib.hid (hb.blk BX.out (blk_lt BX.out))
    replace OS1 := Lib.hid (OS1.out.below hb (by omega))
    replace OS2 := Lib.hid (OS2.out.below hb (by omega))
    replace OX1 := Lib.hid (OX1.out.below hb (by omega))
    replace OX2 := Lib.hid (OX2.out.below hb (by omega))
    replace H := Lib.hid (below_then H.out hb)
    clear hb
    obtain ⟨cS1, cS2, _, _⟩ := blk2 BS.out
    obtain ⟨cX1, cX2, _, _⟩ := blk2 BX.out
    go_wp2_with fail
    clear cS1 cS2 cX1 cX2
    obtain ⟨cS1, cS2, _, _⟩ := blk2 BS.out
    obtain ⟨cX1, cX2, _, _⟩ := blk2 BX.out
    refine wp_region_held_drew (S := (fun w' => w'.cell? ⟨W3.heap.size, 0, none⟩ = some (.slice xX1 m1.length gX1) ∧ w'.cell? ⟨W3.heap.size, 1, none⟩ = some (.slice xX2 m2.length gX2) ∧ w'.cell? ⟨W1.heap.size, 0, none⟩ = some (.slice xS1 l1.length gS1) ∧ w'.cell? ⟨W1.heap.size, 1, none⟩ = some (.slice xS2 l2.length gS2))) (by kernel_rfl) (by exact ⟨cX1, cX2, cS1, cS2⟩) (fun hHeld => ?_)
    refine wpAnyH_take (i := 0) (v := ?_) rfl (by kernel_rfl) (by kernel_rfl) (by kernel_rfl) (fun _ _ _ h => h) (Or.inl ⟨by rfl, ?_⟩) hHeld ?_
    rotate_left
    · intro w hSw; (try dsimp only at hSw); first | (go_simp; done) | (go_simp; with_reducible rfl)
    simp only [Act.put, List.setIfInBounds_toArray, List.set_cons_zero, List.set_cons_succ, List.getElem_toArray, List.getElem_cons_zero, List.getElem_cons_succ]
    clear cS1 cS2 cX1 cX2
    refine wpAnyH_ready (rs := [1]) (by kernel_rfl) (by simp) ?_
    refine AllReadyH.cons rfl (fun K hK => ?_) AllReadyH.nil
    go_simp
    refine (implStreamOk_any xX1 xX2 gX1 gX2 m1 m2 W7.drew loX hiX loX hiX (by exact OX1.out.rd) (by exact OX2.out.rd) (by exact (show hiX ≤ W7.heap.size by omega)) (by exact (show hiX ≤ W7.heap.size by omega)) (by omega) (by omega)).mono ?_
    rintro e W8 ⟨rfl, hb0⟩
    rw [HXS.out]
    have hb := undrew hb0
    clear hb0
    have hz8 : W7.heap.size ≤ W8.heap.size := hb.size
    replace BS := Lib.hid (hb.blk BS.out (blk_lt BS.out))
    replace BX := Lib.hid (hb.blk BX.out (blk_lt BX.out))
    replace OS1 := Lib.hid (OS1.out.below hb (by omega))
    replace OS2 := Lib.hid (OS2.out.below hb (by omega))
    replace OX1 := Lib.hid (OX1.out.below hb (by omega))
    replace OX2 := Lib.hid (OX2.out.below hb (by omega))
    replace H := Lib.hid (below_then H.out hb)
    clear hb
    obtain ⟨cS1, cS2, _, _⟩ := blk2 BS.out
    obtain ⟨cX1, cX2, _, _⟩ := blk2 BX.out
    refine hK.out _ _ (by exact ⟨cX1, cX2, cS1, cS2⟩) (fun hHeld2 => ?_)
    clear hK K hHeld
    have hHeld := hHeld2
    clear hHeld2
    (try simp only [Act.put, List.setIfInBounds_toArray, List.set_cons_zero, List.set_cons_succ])
    clear cS1 cS2 cX1 cX2
    refine wpAnyH_take (i := 2) (v := ?_) rfl (by kernel_rfl) (by kernel_rfl) (by kernel_rfl) (fun _ _ _ h => h) (Or.inl ⟨by rfl, ?_⟩) hHeld ?_
    rotate_left
    · intro w hSw; (try dsimp only at hSw); first | (go_simp; done) | (go_simp; with_reducible rfl)
    simp only [Act.put, List.setIfInBounds_toArray, List.set_cons_zero, List.set_cons_succ, List.getElem_toArray, List.getElem_cons_zero, List.getElem_cons_succ]
    refine wpAnyH_take (i := 3) (v := ?_) rfl (by kernel_rfl) (by kernel_rfl) (by kernel_rfl) (fun _ _ _ h => h) (Or.inl ⟨by rfl, ?_⟩) hHeld ?_
    rotate_left
    · intro w hSw; (try dsimp only at hSw); first | (go_simp; done) | (go_simp; with_reducible rfl)
    simp only [Act.put, List.setIfInBounds_toArray, List.set_cons_zero, List.set_cons_succ, List.getElem_toArray, List.getElem_cons_zero, List.getElem_cons_succ]
    refine wpAnyH_take (i := 4) (v := ?_) rfl (by kernel_rfl) (by kernel_rfl) (by kernel_rfl) (fun _ _ _ h => h) (Or.inl ⟨by rfl, ?_⟩) hHeld ?_
    rotate_left
    · intro w hSw; (try dsimp only at hSw); first | (go_simp; done) | (go_simp; with_reducible rfl)
    simp only [Act.put, List.setIfInBounds_toArray, List.set_cons_zero, List.set_cons_succ, List.getElem_toArray, List.getElem_cons_zero, List.getElem_cons_succ]
    refine wpAnyH_ready (rs := [5]) (by kernel_rfl) (by simp) ?_
    refine AllReadyH.cons rfl (fun K hK => ?_) AllReadyH.nil
    go_simp
    refine (implSame_any xX1 xX2 xS1 xS2 gX1 gX2 gS1 gS2 m1 m2 l1 l2 W8 0 W8.heap.size (OX1.out.rd.mono (Nat.zero_le _) (by omega)) (OX2.out.rd.mono (Nat.zero_le _) (by omega)) (OS1.out.mono (Nat.zero_le _) (by omega)) (OS2.out.mono (Nat.zero_le _) (by omega)) (Nat.le_refl _) (by omega) (by omega) hn1 hn2).mono ?_
    rintro e W9 ⟨vb, rfl, hvb, hb⟩
    obtain rfl : vb = true := hvb.2 HSP.out
    clear hvb
    have hz9 : W8.heap.size ≤ W9.heap.size := hb.size
    replace BS := Lib.hid (hb.blk BS.out (blk_lt BS.out))
    replace BX := Lib.hid (hb.blk BX.out (blk_lt BX.out))
    replace OS1 := Lib.hid (OS1.out.below hb (by omega))
    replace OS2 := Lib.hid (OS2.out.below hb (by omega))
    replace OX1 := Lib.hid (OX1.out.below hb (by omega))
    replace OX2 := Lib.hid (OX2.out.below hb (by omega))
    replace H := Lib.hid (below_then H.out hb)
    clear hb
    obtain ⟨cS1, cS2, _, _⟩ := blk2 BS.out
    obtain ⟨cX1, cX2, _, _⟩ := blk2 BX.out
    refine hK.out _ _ (by exact ⟨cX1, cX2, cS1, cS2⟩) (fun hHeld2 => ?_)
    clear hK K hHeld
    have hHeld := hHeld2
    clear hHeld2
    (try simp only [Act.put, List.setIfInBounds_toArray, List.set_cons_zero, List.set_cons_succ])
    clear cS1 cS2 cX1 cX2
    refine wpAnyH_take (i := 6) (v := ?_) rfl (by kernel_rfl) (by kernel_rfl) (by kernel_rfl) (fun _ _ _ h => h) (Or.inl ⟨by rfl, ?_⟩) hHeld ?_
    rotate_left
    · intro w hSw; (try dsimp only at hSw); first | (go_simp; done) | (go_simp; with_reducible rfl)
    simp only [Act.put, List.setIfInBounds_toArray, List.set_cons_zero, List.set_cons_succ, List.getElem_toArray, List.getElem_cons_zero, List.getElem_cons_succ]
    refine wpAnyH_take (i := 7) (v := ?_) rfl (by kernel_rfl) (by kernel_rfl) (by kernel_rfl) (fun _ _ _ h => h) (Or.inl ⟨by rfl, ?_⟩) hHeld ?_
    rotate_left
    · intro w hSw; (try dsimp only at hSw); first | (go_simp; done) | (go_simp; with_reducible rfl)
    simp only [Act.put, List.setIfInBounds_toArray, List.set_cons_zero, List.set_cons_succ, List.getElem_toArray, List.getElem_cons_zero, List.getElem_cons_succ]
    refine wpAnyH_take (i := 8) (v := ?_) rfl (by kernel_rfl) (by kernel_rfl) (by kernel_rfl) (fun _ _ _ h => h) (Or.inl ⟨by rfl, ?_⟩) hHeld ?_
    rotate_left
    · intro w hSw; (try dsimp only at hSw); first | (go_simp; done) | (go_simp; with_reducible rfl)
    simp only [Act.put, List.setIfInBounds_toArray, List.set_cons_zero, List.set_cons_succ, List.getElem_toArray, List.getElem_cons_zero, List.getElem_cons_succ]
    refine wpAnyH_take (i := 10) (v := ?_) rfl (by kernel_rfl) (by kernel_rfl) (by kernel_rfl) (fun _ _ _ h => h) (Or.inl ⟨by rfl, ?_⟩) hHeld ?_
    rotate_left
    · intro w hSw; (try dsimp only at hSw); first | (go_simp; done) | (go_simp; with_reducible rfl)
    simp only [Act.put, List.setIfInBounds_toArray, List.set_cons_zero, List.set_cons_succ, List.getElem_toArray, List.getElem_cons_zero, List.getElem_cons_succ]
    refine wpAnyH_ready (rs := [9]) (by kernel_rfl) (by simp) ?_
    refine AllReadyH.cons rfl (fun K hK => ?_) AllReadyH.nil
    go_simp
    refine (implShortOf_any xX1 xX2 gX1 gX2 m1 m2 W9 loX hiX loX hiX (by exact OX1.out.rd) (by exact OX2.out.rd) (by exact (show hiX ≤ W9.heap.size by omega)) (by exact (show hiX ≤ W9.heap.size by omega)) (by omega) (by omega)).mono ?_
    rintro e W10 ⟨n1, n2, hsa, xZ1, gZ1, xZ2, gZ2, rfl, o1, o2, hd, hb⟩
    obtain ⟨rfl, rfl⟩ := HSN.out.one hsa
    clear hsa
    have hz10 : W9.heap.size ≤ W10.heap.size := hb.size
    replace BS := Lib.hid (hb.blk BS.out (blk_lt BS.out))
    replace BX := Lib.hid (hb.blk BX.out (blk_lt BX.out))
    replace OS1 := Lib.hid (OS1.out.below hb (by omega))
    replace OS2 := Lib.hid (OS2.out.below hb (by omega))
    replace OX1 := Lib.hid (OX1.out.below hb (by omega))
    replace OX2 := Lib.hid (OX2.out.below hb (by omega))
    replace H := Lib.hid (below_then H.out hb)
    obtain ⟨loZ, hlo⟩ : ∃ v, v = W9.heap.size := ⟨_, rfl⟩
    obtain ⟨hiZ, hhi⟩ : ∃ v, v = W10.heap.size := ⟨_, rfl⟩
    rw [← hlo, ← hhi] at o1 o2
    have OZ1 := Lib.hid o1
    have OZ2 := Lib.hid o2
    have DZ := Lib.hid hd
    have hlhZ : loZ ≤ hiZ := by omega
    have hhwZ : hiZ ≤ W10.heap.size := by omega
    have hwlZ : w.heap.size < loZ := by omega
    have hccSZ : hiS ≤ loZ := by omega
    have hccXZ : hiX ≤ loZ := by omega
    have hbcSZ : W1.heap.size < loZ := by omega
    have hbcXZ : W3.heap.size < loZ := by omega
    clear hlo hhi o1 o2 hd
    clear hb
    obtain ⟨cS1, cS2, _, _⟩ := blk2 BS.out
    obtain ⟨cX1, cX2, _, _⟩ := blk2 BX.out
    refine hK.out _ _ (by exact ⟨cX1, cX2, cS1, cS2⟩) (fun hHeld2 => ?_)
    clear hK K hHeld
    have hHeld := hHeld2
    clear hHeld2
    (try simp only [Act.put, List.setIfInBounds_toArray, List.set_cons_zero, List.set_cons_succ])
    clear cS1 cS2 cX1 cX2
    refine wpAnyH_ready (rs := [11]) (by kernel_rfl) (by simp) ?_
    refine AllReadyH.cons rfl (fun K hK => ?_) AllReadyH.nil
    go_simp
    refine (sameStream_any xZ1 xZ2 xX1 xX2 gZ1 gZ2 gX1 gX2 m1 m2 W10 0 (OZ1.out.rd.mono (Nat.zero_le _) (by omega)) (OZ2.out.rd.mono (Nat.zero_le _) (by omega)) (OX1.out.rd.mono (Nat.zero_le _) (by omega)) (OX2.out.rd.mono (Nat.zero_le _) (by omega)) (by unfold maxLen; omega) (by unfold maxLen; omega)).mono ?_
    rintro e W11 ⟨rfl, hb⟩
    have hz11 : W10.heap.size ≤ W11.heap.size := hb.size
    replace BS := Lib.hid (hb.blk BS.out (blk_lt BS.out))
    replace BX := Lib.hid (hb.blk BX.out (blk_lt BX.out))
    replace OS1 := Lib.hid (OS1.out.below hb (by omega))
    replace OS2 := Lib.hid (OS2.out.below hb (by omega))
    replace OX1 := Lib.hid (OX1.out.below hb (by omega))
    replace OX2 := Lib.hid (OX2.out.below hb (by omega))
    replace OZ1 := Lib.hid (OZ1.out.below hb (by omega))
    replace OZ2 := Lib.hid (OZ2.out.below hb (by omega))
    replace H := Lib.hid (below_then H.out hb)
    clear hb
    obtain ⟨cS1, cS2, _, _⟩ := blk2 BS.out
    obtain ⟨cX1, cX2, _, _⟩ := blk2 BX.out
    refine hK.out _ _ (by exact ⟨cX1, cX2, cS1, cS2⟩) (fun hHeld2 => ?_)
    clear hK K hHeld
    have hHeld := hHeld2
    clear hHeld2
    (try simp only [Act.put, List.setIfInBounds_toArray, List.set_cons_zero, List.set_cons_succ])
    clear cS1 cS2 cX1 cX2
    refine wpAnyH_take (i := 12) (v := ?_) rfl (by kernel_rfl) (by kernel_rfl) (by kernel_rfl) (fun _ _ _ h => h) (Or.inl ⟨by rfl, ?_⟩) hHeld ?_
    rotate_left
    · intro w hSw; (try dsimp only at hSw); first | (go_simp; done) | (go_simp; with_reducible rfl)
    simp only [Act.put, List.setIfInBounds_toArray, List.set_cons_zero, List.set_cons_succ, List.getElem_toArray, List.getElem_cons_zero, List.getElem_cons_succ]
    refine wpAnyH_take (i := 13) (v := ?_) rfl (by kernel_rfl) (by kernel_rfl) (by kernel_rfl) (fun _ _ _ h => h) (Or.inl ⟨by rfl, ?_⟩) hHeld ?_
    rotate_left
    · intro w hSw; (try dsimp only at hSw); first | (go_simp; done) | (go_simp; with_reducible rfl)
    simp only [Act.put, List.setIfInBounds_toArray, List.set_cons_zero, List.set_cons_succ, List.getElem_toArray, List.getElem_cons_zero, List.getElem_cons_succ]
    refine wpAnyH_take (i := 14) (v := ?_) rfl (by kernel_rfl) (by kernel_rfl) (by kernel_rfl) (fun _ _ _ h => h) (Or.inl ⟨by rfl, ?_⟩) hHeld ?_
    rotate_left
    · intro w hSw; (try dsimp only at hSw); first | (go_simp; done) | (go_simp; with_reducible rfl)
    simp only [Act.put, List.setIfInBounds_toArray, List.set_cons_zero, List.set_cons_succ, List.getElem_toArray, List.getElem_cons_zero, List.getElem_cons_succ]
    refine wpAnyH_take (i := 15) (v := ?_) rfl (by kernel_rfl) (by kernel_rfl) (by kernel_rfl) (fun _ _ _ h => h) (Or.inl ⟨by rfl, ?_⟩) hHeld ?_
    rotate_left
    · intro w hSw; (try dsimp only at hSw); first | (go_simp; done) | (go_simp; with_reducible rfl)
    simp only [Act.put, List.setIfInBounds_toArray, List.set_cons_zero, List.set_cons_succ, List.getElem_toArray, List.getElem_cons_zero, List.getElem_cons_succ]
    refine wpAnyH_take (i := 16) (v := ?_) rfl (by kernel_rfl) (by kernel_rfl) (by kernel_rfl) (fun _ _ _ h => h) (Or.inl ⟨by rfl, ?_⟩) hHeld ?_
    rotate_left
    · intro w hSw; (try dsimp only at hSw); first | (go_simp; done) | (go_simp; with_reducible rfl)
    simp only [Act.put, List.setIfInBounds_toArray, List.set_cons_zero, List.set_cons_succ, List.getElem_toArray, List.getElem_cons_zero, List.getElem_cons_succ]
    refine wpAnyH_take (i := 17) (v := ?_) rfl (by kernel_rfl) (by kernel_rfl) (by kernel_rfl) (fun _ _ _ h => h) (Or.inl ⟨by rfl, ?_⟩) hHeld ?_
    rotate_left
    · intro w hSw; (try dsimp only at hSw); first | (go_simp; done) | (go_simp; with_reducible rfl)
    simp only [Act.put, List.setIfInBounds_toArray, List.set_cons_zero, List.set_cons_succ, List.getElem_toArray, List.getElem_cons_zero, List.getElem_cons_succ]
    refine wpAnyH_take (i := 18) (v := ?_) rfl (by kernel_rfl) (by kernel_rfl) (by kernel_rfl) (fun _ _ _ h => h) (Or.inl ⟨by rfl, ?_⟩) hHeld ?_
    rotate_left
    · intro w hSw; (try dsimp only at hSw); first | (go_simp; done) | (go_simp; with_reducible rfl)
    simp only [Act.put, List.setIfInBounds_toArray, List.set_cons_zero, List.set_cons_succ, List.getElem_toArray, List.getElem_cons_zero, List.getElem_cons_succ]
    refine wpAnyH_take (i := 19) (v := ?_) rfl (by kernel_rfl) (by kernel_rfl) (by kernel_rfl) (fun _ _ _ h => h) (Or.inl ⟨by rfl, ?_⟩) hHeld ?_
    rotate_left
    · intro w hSw; (try dsimp only at hSw); first | (go_simp; done) | (go_simp; with_reducible rfl)
    simp only [Act.put, List.setIfInBounds_toArray, List.set_cons_zero, List.set_cons_succ, List.getElem_toArray, List.getElem_cons_zero, List.getElem_cons_succ]
    refine wpAnyH_take (i := 20) (v := ?_) rfl (by kernel_rfl) (by kernel_rfl) (by kernel_rfl) (fun _ _ _ h => h) (Or.inl ⟨by rfl, ?_⟩) hHeld ?_
    rotate_left
    · intro w hSw; (try dsimp only at hSw); first | (go_simp; done) | (go_simp; with_reducible rfl)
    simp only [Act.put, List.setIfInBounds_toArray, List.set_cons_zero, List.set_cons_succ, List.getElem_toArray, List.getElem_cons_zero, List.getElem_cons_succ]
    refine wpAnyH_take (i := 21) (v := ?_) rfl (by kernel_rfl) (by kernel_rfl) (by kernel_rfl) (fun _ _ _ h => h) (Or.inl ⟨by rfl, ?_⟩) hHeld ?_
    rotate_left
    · intro w hSw; (try dsimp only at hSw); first | (go_simp; done) | (go_simp; with_reducible rfl)
    simp only [Act.put, List.setIfInBounds_toArray, List.set_cons_zero, List.set_cons_succ, List.getElem_toArray, List.getElem_cons_zero, List.getElem_cons_succ]
    refine wpAnyH_take (i := 22) (v := ?_) rfl (by kernel_rfl) (by kernel_rfl) (by kernel_rfl) (fun _ _ _ h => h) (Or.inl ⟨by rfl, ?_⟩) hHeld ?_
    rotate_left
    · intro w hSw; (try dsimp only at hSw); first | (go_simp; done) | (go_simp; with_reducible rfl)
    simp only [Act.put, List.setIfInBounds_toArray, List.set_cons_zero, List.set_cons_succ, List.getElem_toArray, List.getElem_cons_zero, List.getElem_cons_succ]
    refine wpAnyH_take (i := 23) (v := ?_) rfl (by kernel_rfl) (by kernel_rfl) (by kernel_rfl) (fun _ _ _ h => h) (Or.inl ⟨by rfl, ?_⟩) hHeld ?_
    rotate_left
    · intro w hSw; (try dsimp only at hSw); first | (go_simp; done) | (go_simp; with_reducible rfl)
    simp only [Act.put, List.setIfInBounds_toArray, List.set_cons_zero, List.set_cons_succ, List.getElem_toArray, List.getElem_cons_zero, List.getElem_cons_succ]
    refine wpAnyH_take (i := 24) (v := ?_) rfl (by kernel_rfl) (by kernel_rfl) (by kernel_rfl) (fun _ _ _ h => h) (Or.inl ⟨by rfl, ?_⟩) hHeld ?_
    rotate_left
    · intro w hSw; (try dsimp only at hSw); first | (go_simp; done) | (go_simp; with_reducible rfl)
    simp only [Act.put, List.setIfInBounds_toArray, List.set_cons_zero, List.set_cons_succ, List.getElem_toArray, List.getElem_cons_zero, List.getElem_cons_succ]
    refine wpAnyH_take (i := 25) (v := ?_) rfl (by kernel_rfl) (by kernel_rfl) (by kernel_rfl) (fun _ _ _ h => h) (Or.inl ⟨by rfl, ?_⟩) hHeld ?_
    rotate_left
    · intro w hSw; (try dsimp only at hSw); first | (go_simp; done) | (go_simp; with_reducible rfl)
    simp only [Act.put, List.setIfInBounds_toArray, List.set_cons_zero, List.set_cons_succ, List.getElem_toArray, List.getElem_cons_zero, List.getElem_cons_succ]
    refine wpAnyH_take (i := 26) (v := ?_) rfl (by kernel_rfl) (by kernel_rfl) (by kernel_rfl) (fun _ _ _ h => h) (Or.inl ⟨by rfl, ?_⟩) hHeld ?_
    rotate_left
    · intro w hSw; (try dsimp only at hSw); first | (go_simp; done) | (go_simp; with_reducible rfl)
    simp only [Act.put, List.setIfInBounds_toArray, List.set_cons_zero, List.set_cons_succ, List.getElem_toArray, List.getElem_cons_zero, List.getElem_cons_succ]
    refine wpAnyH_take (i := 27) (v := ?_) rfl (by kernel_rfl) (by kernel_rfl) (by kernel_rfl) (fun _ _ _ h => h) (Or.inl ⟨by rfl, ?_⟩) hHeld ?_
    rotate_left
    · intro w hSw; (try dsimp only at hSw); first | (go_simp; done) | (go_simp; with_reducible rfl)
    simp only [Act.put, List.setIfInBounds_toArray, List.set_cons_zero, List.set_cons_succ, List.getElem_toArray, List.getElem_cons_zero, List.getElem_cons_succ]
    refine wpAnyH_take (i := 28) (v := ?_) rfl (by kernel_rfl) (by kernel_rfl) (by kernel_rfl) (fun _ _ _ h => h) (Or.inl ⟨by rfl, ?_⟩) hHeld ?_
    rotate_left
    · intro w hSw; (try dsimp only at hSw); first | (go_simp; done) | (go_simp; with_reducible rfl)
    simp only [Act.put, List.setIfInBounds_toArray, List.set_cons_zero, List.set_cons_succ, List.getElem_toArray, List.getElem_cons_zero, List.getElem_cons_succ]
    refine wpAnyH_take (i := 29) (v := ?_) rfl (by kernel_rfl) (by kernel_rfl) (by kernel_rfl) (fun _ _ _ h => h) (Or.inl ⟨by rfl, ?_⟩) hHeld ?_
    rotate_left
    · intro w hSw; (try dsimp only at hSw); first | (go_simp; done) | (go_simp; with_reducible rfl)
    simp only [Act.put, List.setIfInBounds_toArray, List.set_cons_zero, List.set_cons_succ, List.getElem_toArray, List.getElem_cons_zero, List.getElem_cons_succ]
    refine wpAnyH_take (i := 30) (v := ?_) rfl (by kernel_rfl) (by kernel_rfl) (by kernel_rfl) (fun _ _ _ h => h) (Or.inl ⟨by rfl, ?_⟩) hHeld ?_
    rotate_left
    · intro w hSw; (try dsimp only at hSw); first | (go_simp; done) | (go_simp; with_reducible rfl)
    simp only [Act.put, List.setIfInBounds_toArray, List.set_cons_zero, List.set_cons_succ, List.getElem_toArray, List.getElem_cons_zero, List.getElem_cons_succ]
    refine wpAnyH_take (i := 31) (v := ?_) rfl (by kernel_rfl) (by kernel_rfl) (by kernel_rfl) (fun _ _ _ h => h) (Or.inl ⟨by rfl, ?_⟩) hHeld ?_
    rotate_left
    · intro w hSw; (try dsimp only at hSw); first | (go_simp; done) | (go_simp; with_reducible rfl)
    simp only [Act.put, List.setIfInBounds_toArray, List.set_cons_zero, List.set_cons_succ, List.getElem_toArray, List.getElem_cons_zero, List.getElem_cons_succ]
    refine wpAnyH_done (by kernel_rfl) ?_ _
    go_wp2_with fail
    go_ret
    exact ⟨rfl, H.out⟩
end Go.Proofs.Ytgfoolneophkcaa
