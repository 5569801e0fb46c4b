/- Two pictures laid beside each other: copy into owned rows, impl.beside, impl.sameSet, impl.SameSet. -/
import Derived.Laws.CopyOwn
import Derived.Test.YtfjodcfbhpglhaaM15
import Derived.Test.YtfjodcfbhpglhaaM3
namespace Go.Hyp
open Go.RowKit Go.Deep
theorem splice_get {α : Type} (A m : List α) (off i : Nat) (h : off + m.length ≤ A.length) : (A.take off ++ (m ++ A.drop (off + m.length)))[i]? = if i < off then A[i]? else if i < off + m.length then m[i - off]? else A[i]? := by
  have e1 : (A.take off).length = off := by rw [List.length_take]; omega
  by_cases h1 : i < off
  · rw [if_pos h1, List.getElem?_append_left (by omega), List.getElem?_take, if_pos h1]
  · rw [if_neg h1, List.getElem?_append_right (by omega), e1]
    by_cases h2 : i < off + m.length
    · rw [if_pos h2, List.getElem?_append_left (by omega)]
    · rw [if_neg h2, List.getElem?_append_right (by omega), List.getElem?_drop, show off + m.length + (i - off - m.length) = i by omega]
section
variable {P : Program}
/-- What a copy into an owned slice of numbers makes of it. -/
theorem copyI_of {w : World} {E B C r cap : Nat} {l m : List Int} {off : Nat} {cur : Array Value} (hc : w.heap[r]? = some (.cells cur E (0, 0))) (hB : B ≤ r) (hC : r < C) (hcur : cur.size = cap) (hmax : cap ≤ maxLen) (hl : l.length ≤ cap)
    (hv : ∀ i, i < l.length → cur[i]? = some (.int .i64 (l.getD i 0))) (hfit : off + m.length ≤ l.length) :
    OwI (w.setRow r (cur.toList.take off ++ (m.map (Value.int .i64) ++ cur.toList.drop (off + m.length))).toArray) E B C (some ⟨r, 0, none⟩) cap (l.take off ++ (m ++ l.drop (off + m.length))) := by
  have hlen : (l.take off ++ (m ++ l.drop (off + m.length))).length = l.length := by simp; omega
  have hml : (m.map (Value.int .i64)).length = m.length := by simp
  refine .inr ⟨r, fun i => (cur.toList.take off ++ (m.map (Value.int .i64) ++ cur.toList.drop (off + m.length))).getD i undef, rfl, hB, hC, ⟨_, setRow_heap w r _ _ E _ hc, by simp; omega, fun i hi => ?_⟩, by omega, hmax, fun i hi => ?_⟩
  · have hi' : i < (cur.toList.take off ++ (m.map (Value.int .i64) ++ cur.toList.drop (off + m.length))).length := by simp; omega
    simp only [List.getElem?_toArray, List.getD]
    rw [List.getElem?_eq_getElem hi']
    rfl
  · rw [hlen] at hi
    have h1 := splice_get cur.toList (m.map (Value.int .i64)) off i (by have : cur.toList.length = cur.size := Array.length_toList; omega)
    have h2 := splice_get l m off i hfit
    rw [hml] at h1
    have h3 : cur.toList[i]? = some (.int .i64 (l.getD i 0)) := by rw [Array.getElem?_toList]; exact hv i hi
    show List.getD _ i undef = .int .i64 (List.getD _ i 0)
    unfold List.getD at h3 ⊢
    rw [h1, h2, h3]
    by_cases c1 : i < off
    · rw [if_pos c1, if_pos c1]; rfl
    · rw [if_neg c1, if_neg c1]
      by_cases c2 : i < off + m.length
      · rw [if_pos c2, if_pos c2]
        have hm : i - off < m.length := by omega
        simp [hm]
      · rw [if_neg c2, if_neg c2]; rfl
theorem chg_setRow {w : World} {r : Nat} {cs : Array Value} : Chg (fun b => blockOf (some (⟨r, 0, none⟩ : Addr)) = some b) w (w.setRow r cs) :=
  ⟨rfl, rfl, rfl, by simp [World.setRow], fun k _ hn => setRow_other w r k cs (fun e => hn (by simp [blockOf, e]))⟩
theorem ints_one (m : List Int) : ∀ v ∈ m.map (Value.int .i64), v.oneCell' = true := fun v hv => by
  obtain ⟨x, _, rfl⟩ := List.mem_map.1 hv
  rfl
/-- The operation is a copy. -/
theorem at_copy {ops : Array Oper} {Q : Exit → Act → World → Prop} {rest : List Oper} {a : Act} {w : World} {dst : Option Nat} {args : Array Operand} {argTypes : Array TypeId} {ty : TypeId} {pos : String} {after : Array Edge} {guard : Option (Nat × Bool)}
    (h : wpList P ops Q ((⟨dst, .call { callee := .builtin .copy, args := args, argTypes := argTypes }, ty, pos, after, guard⟩ : Oper) :: rest) a w) : wpList P ops Q ((⟨dst, .call { callee := .builtin .copy, args := args, argTypes := argTypes }, ty, pos, after, guard⟩ : Oper) :: rest) a w := h
/-- copy of numbers into an owned slice: at a plain region's list. -/
theorem wpList_copyI {E T : Nat} (hT : P.underlying T = some (.slice E)) (hE : (P.info? E).map (·.size) = some 1) (w : World) {ops : Array Oper} {rest : List Oper} {o : Oper} {a : Act} {Q : Exit → Act → World → Prop} (hgd : o.guard = none) (d s : Operand)
    (ho : o.op = .call { callee := .builtin .copy, args := #[d, s], argTypes := #[T, T] }) (B C r cap : Nat) (l : List Int) (off dl dc : Nat) (hd : a.eval d = .slice (some ⟨r, off, none⟩) dl dc) (hown : OwI w E B C (some ⟨r, 0, none⟩) cap l)
    (B' C' : Nat) (ax : Option Addr) (m : List Int) (cx : Nat) (hs : a.eval s = .slice ax m.length cx) (hrd : RdI w B' C' ax m) (hm : m.length ≤ dl) (hfit : off + m.length ≤ l.length)
    (h : ∀ w', OwI w' E B C (some ⟨r, 0, none⟩) cap (l.take off ++ (m ++ l.drop (off + m.length))) → Chg (fun b => blockOf (some (⟨r, 0, none⟩ : Addr)) = some b) w w' → wpList P ops Q rest (a.put o.dst (goInt m.length)) w') : wpList P ops Q (o :: rest) a w := by
  rcases hown with ⟨e, _⟩ | ⟨g, f, e, h1, h2, ⟨cur, hc, hcs, hcv⟩, hl, hmax, hf⟩
  · cases e
  · cases e
    have hres := copyI_of (l := l) (m := m) (off := off) hc h1 h2 hcs hmax hl (fun i hi => by rw [hcv i (by omega), hf i hi]) hfit
    by_cases h0 : m.length = 0
    · have hm0 : m = [] := List.eq_nil_of_length_eq_zero h0
      subst hm0
      refine wpList_copy_nothing hgd d s T T ho E hT hE _ _ dl dc _ cx hd hs (by simp) ?_
      refine h w ?_ (Chg.refl _ _)
      have e2 : l.take off ++ ([] ++ l.drop (off + ([] : List Int).length)) = l := by simp
      rw [e2]
      exact .inr ⟨r, f, rfl, h1, h2, ⟨cur, hc, hcs, hcv⟩, hl, hmax, hf⟩
    · obtain ⟨b0, o0, ea, _⟩ := hrd 0 (by omega)
      subst ea
      have hlen : (m.map (Value.int .i64)).length = m.length := by simp
      refine wpList_copy_own hgd d s T T ho E hT hE r off dl dc ⟨b0, o0, none⟩ m.length cx hd hs cur E hc (m.map (Value.int .i64)) (by rw [hlen]; exact (Nat.min_eq_left hm).symm) (srcI hrd _ rfl) (by rw [hlen]; omega) (ints_one m) ?_
      rw [hlen]
      exact h _ hres chg_setRow
end
theorem sq_row_eq {p : List (List Int)} (hs : Sq p) {k : Nat} (hk : k < p.length) : p[k] = rowOf p.length (arr p k) := by
  apply List.ext_getElem
  · rw [(hs.row k hk).1, rowOf_len]
  · intro j h1 h2
    rw [rowOf_len] at h2
    rw [rowOf_get, ← hs.bit k j hk h2]
    have e : p.getD k [] = p[k] := by simp [List.getD, hk]
    rw [e, getD_lt h1]
theorem rowOf_splice {N n off : Nat} {f g : Nat → Bool} (h : off + n ≤ N) (h1 : ∀ j, j < n → g (off + j) = f j) (h2 : ∀ j, j < N → (j < off ∨ off + n ≤ j) → g j = false) :
    (rowOf N fun _ => false).take off ++ (rowOf n f ++ (rowOf N fun _ => false).drop (off + (rowOf n f).length)) = rowOf N g := by
  apply List.ext_getElem?
  intro j
  rw [splice_get _ _ _ _ (by rw [rowOf_len, rowOf_len]; exact h), rowOf_len]
  have key : ∀ (M : Nat) (F : Nat → Bool) (i : Nat), (rowOf M F)[i]? = if i < M then some (if F i then 1 else 0) else none := by
    intro M F i
    by_cases hi : i < M
    · rw [if_pos hi, List.getElem?_eq_getElem (by rw [rowOf_len]; exact hi), rowOf_get]
    · rw [if_neg hi, List.getElem?_eq_none (by rw [rowOf_len]; omega)]
  rw [key, key, key]
  by_cases c1 : j < off
  · rw [if_pos c1]
    by_cases hj : j < N
    · rw [if_pos hj, if_pos hj, h2 j hj (.inl c1)]
    · omega
  · rw [if_neg c1]
    by_cases c2 : j < off + n
    · have e3 : j - off < n := by omega
      have e4 : j < N := by omega
      rw [if_pos c2, if_pos e3, if_pos e4, ← h1 (j - off) e3, show off + (j - off) = j by omega]
    · rw [if_neg c2]
      by_cases hj : j < N
      · rw [if_pos hj, if_pos hj, h2 j hj (.inr (by omega))]
      · rw [if_neg hj, if_neg hj]
theorem bes_row_left {p q : List (List Int)} (hs : Sq p) {k : Nat} (hk : k < p.length) :
    (rowOf (p.length + q.length) fun _ => false).take 0 ++ (p[k] ++ (rowOf (p.length + q.length) fun _ => false).drop (0 + p[k].length)) = rowOf (p.length + q.length) (besF p q k) := by
  rw [sq_row_eq hs hk]
  refine rowOf_splice (by omega) (fun j hj => ?_) (fun j hj hc => ?_)
  · unfold besF; rw [if_pos hk, Nat.zero_add]; simp [hj]
  · unfold besF; rw [if_pos hk]
    have : ¬ j < p.length := by omega
    simp [this]
theorem bes_row_right {p q : List (List Int)} (hs : Sq q) {k : Nat} (hk : k < q.length) :
    (rowOf (p.length + q.length) fun _ => false).take p.length ++ (q[k] ++ (rowOf (p.length + q.length) fun _ => false).drop (p.length + q[k].length)) = rowOf (p.length + q.length) (besF p q (p.length + k)) := by
  rw [sq_row_eq hs hk]
  refine rowOf_splice (by omega) (fun j hj => ?_) (fun j hj hc => ?_)
  · unfold besF; rw [if_neg (by omega), show p.length + k - p.length = k by omega, show p.length + j - p.length = j by omega]; simp
  · unfold besF; rw [if_neg (by omega)]
    have : ¬ p.length ≤ j := by omega
    simp [this]
/-- A row of bits set anew. -/
theorem mat_row_set (N : Nat) (h : Nat → Nat → Bool) (M : Nat) (k : Nat) (hk : k < N) : (mat N M (upB k 0 h)).set k (rowOf M (h k)) = mat N M (upB (k + 1) 0 h) := by
  apply List.ext_getElem (by simp [mat_len])
  intro i h1 h2
  have hi : i < N := by rw [mat_len] at h2; exact h2
  rw [List.getElem_set, mat_get, mat_get]
  by_cases e : k = i
  · subst e
    rw [if_pos rfl]
    exact rowOf_congr fun j _ => by unfold upB; simp
  · rw [if_neg e]
    refine rowOf_congr fun j _ => ?_
    unfold upB
    congr 1
    rw [Bool.eq_iff_iff]; simp; omega
end Go.Hyp
namespace Go.Proofs.Ytfjodcfbhpglhaa
open Go.RowKit Go.Hyp Go.Deep
theorem Try.sizeInt : (Try.prog.info? 3).map (·.size) = some 1 := by kernel_rfl

set_option maxRecDepth 4000 in
set_option maxHeartbeats 1600000 in
theorem beside_any (a : Option Addr) (cap : Nat) (p : List (List Int)) (a' : Option Addr) (cap' : Nat) (q : List (List Int)) (w : World) (B C B' C' : Nat) (h : RdII w B C a p) (hC : C ≤ w.heap.size) (hs : Sq p) (h' : RdII w B' C' a' q) (hC' : C' ≤ w.heap.size) (hs' : Sq q) (hl : p.length + q.length ≤ 1024) :
    Calls Try.prog 59 #[.slice a p.length cap, .slice a' q.length cap'] w (RetII 3 24 (besL p q) w) := by
  have F := Lib.hid h
  have F' := Lib.hid h'
  have HS := Lib.hid hs
  have HS' := Lib.hid hs'
  clear h h' hs hs'
  go_enter Try.func59, Try.ntmps59
  go_wp2_with fail
  obtain ⟨N, hN⟩ : ∃ N, N = p.length + q.length := ⟨_, rfl⟩
  have hNi : (p.length : Int) + (q.length : Int) = (N : Int) := by omega
  rw [hNi]
  have hN1 : p.length + q.length ≤ N := by omega
  have hN2 : N ≤ p.length + q.length := by omega
  have HN := Lib.hid hN
  clear hN hNi
  refine (emptyPicture_any N w (by omega)).mono ?_
  rintro e w1 ⟨x, c, rfl, ho, hb⟩
  have HO1 := Lib.hid ho
  have HB1 := Lib.hid hb
  have hz1 : w.heap.size ≤ w1.heap.size := hb.size
  rw [mat_len]
  clear ho hb
  go_wp2_with fail
  go_loopw [18] (fun i wr => ∃ k : Nat, k ≤ p.length ∧ i = .int .i64 k ∧ OwII wr 3 24 w.heap.size w1.heap.size x c (mat N N (upB k 0 (besF p q))) ∧ Below w.heap.size w wr ∧ w1.heap.size ≤ wr.heap.size) (fun i _ => p.length - (intOf i).toNat)
  case atStart => exact ⟨0, Nat.zero_le _, rfl, HO1.out.matCongr (fun x y _ _ => (upB_start x y).symm), HB1.out, Nat.le_refl _⟩
  case round =>
    obtain ⟨k, hk, rfl, ho, hb, hz⟩ := hrel
    have HO := Lib.hid ho
    have HB := Lib.hid hb
    clear ho hb HO1 HB1
    by_cases hlt : k < p.length
    · obtain ⟨b, off, ap, cp, rfl, _, hbC, hc, hr, hll⟩ := (F.out.below HB.out hC).at k hlt
      have HR := Lib.hid hr
      obtain ⟨g, ar, cr, rfl, hg, hcell, hrow, hnew⟩ := HO.out.rowNew k (by rw [mat_len]; omega)
      rw [mat_get? N N _ k (by omega)] at hcell hrow hnew
      rw [rowOf_len] at hcell hnew
      have hrow0 : rowOf N (upB k 0 (besF p q) k) = rowOf N fun _ => false := rowOf_congr fun j _ => by unfold upB; simp
      rw [hrow0] at hrow
      obtain ⟨r, ear, hr1, hr2, _, _, hrl⟩ := hrow.cells 0 (by rw [rowOf_len]; omega)
      subst ear
      have HROW := Lib.hid hrow
      have hpk := (HS.out.row k hlt).1
      obtain ⟨M, hM⟩ : ∃ M, M = p[k] := ⟨_, rfl⟩
      rw [← hM] at hc HR hpk
      have HNEW := Lib.hid hnew
      have HROWN : Hid ((rowOf N fun _ => false).take 0 ++ (M ++ (rowOf N fun _ => false).drop (0 + M.length)) = rowOf N (besF p q k)) := Lib.hid (by
        rw [HN.out, hM]; exact bes_row_left HS.out hlt)
      have hML1 : M.length ≤ p.length := by omega
      have hki : (k : Int) < (N : Int) := by omega
      have hkp : (k : Int) < (p.length : Int) := by omega
      clear hr hrow hnew hM hpk hrow0
      go_wp2_with ((with_reducible refine at_copy ?_); (refine wpList_copyI (o := ⟨some 28, _, _, _, _, _⟩) Try.underlying24 Try.sizeInt _ rfl (.tmp 26) (.tmp 27) rfl w.heap.size w1.heap.size r cr (rowOf N fun _ => false) 0 N cr rfl HROW.out B C ap M cp rfl HR.out (by omega) (by rw [rowOf_len]; omega) ?_); intro w2 hown hchg; rw [HROWN.out] at hown; have HO2 := Lib.hid (HNEW.out w2 _ hown (by rw [rowOf_len]) hchg); have HC2 := Lib.hid hchg; clear hown hchg)
      have HB2 := Lib.hid (HB.out.trans (HC2.out.below (D := w.heap.size) (fun k hk => by simp [blockOf] at hk; omega) HB.out.size))
      have hz2 : wr.heap.size ≤ w2.heap.size := HC2.out.size
      go_roundw
      case rel => exact ⟨k + 1, by omega, by go_num, by
        have := HO2.out
        rwa [mat_row_set _ _ _ k (by omega)] at this, HB2.out, by omega⟩
      case measure => simp [intOf]; omega
    · obtain rfl : k = p.length := by omega
      obtain ⟨wk, rfl⟩ : ∃ wk : World, wk = wr := ⟨_, rfl⟩
      go_wp2_with fail
      go_loopw [32] (fun i wr => ∃ k : Nat, k ≤ q.length ∧ i = .int .i64 k ∧ OwII wr 3 24 w.heap.size w1.heap.size x c (mat N N (upB (p.length + k) 0 (besF p q))) ∧ Below w.heap.size w wr ∧ w1.heap.size ≤ wr.heap.size) (fun i _ => q.length - (intOf i).toNat)
      case atStart => exact ⟨0, Nat.zero_le _, rfl, HO.out, HB.out, hz⟩
      case round =>
        obtain ⟨k, hk, rfl, ho, hb, hz⟩ := hrel
        have HO2 := Lib.hid ho
        have HB2 := Lib.hid hb
        clear ho hb HO HB
        by_cases hlt : k < q.length
        · obtain ⟨b, off, ap, cp, rfl, _, hbC, hc, hr, hll⟩ := (F'.out.below HB2.out hC').at k hlt
          have HR := Lib.hid hr
          obtain ⟨K, hK⟩ : ∃ K, K = p.length + k := ⟨_, rfl⟩
          have hKN : K < N := by omega
          have HKK := Lib.hid hK
          have hKi : (p.length : Int) + (k : Int) = (K : Int) := by omega
          have HKI := Lib.hid hKi
          rw [← hK] at HO2
          clear hK hKi
          obtain ⟨g, ar, cr, rfl, hg, hcell, hrow, hnew⟩ := HO2.out.rowNew K (by rw [mat_len]; exact hKN)
          rw [mat_get? N N _ K hKN] at hcell hrow hnew
          rw [rowOf_len] at hcell hnew
          have hrow0 : rowOf N (upB K 0 (besF p q) K) = rowOf N fun _ => false := rowOf_congr fun j _ => by unfold upB; simp
          rw [hrow0] at hrow
          obtain ⟨r, ear, hr1, hr2, _, _, hrl⟩ := hrow.cells 0 (by rw [rowOf_len]; omega)
          subst ear
          have hcap := hrow.lecap
          rw [rowOf_len] at hcap
          have hcapm := hrow.capmax
          unfold maxLen at hcapm
          have HROW := Lib.hid hrow
          have hpk := (HS'.out.row k hlt).1
          obtain ⟨M, hM⟩ : ∃ M, M = q[k] := ⟨_, rfl⟩
          rw [← hM] at hc HR hpk
          have HNEW := Lib.hid hnew
          have HROWN : Hid ((rowOf N fun _ => false).take p.length ++ (M ++ (rowOf N fun _ => false).drop (p.length + M.length)) = rowOf N (besF p q K)) := Lib.hid (by
            rw [HN.out, hM, HKK.out]; exact bes_row_right HS'.out hlt)
          have hML1 : M.length ≤ q.length := by omega
          have hki : (K : Int) < (N : Int) := by omega
          have hkp : (k : Int) < (q.length : Int) := by omega
          have hpN : (p.length : Int) ≤ (N : Int) := by omega
          have hpcr : ¬ cr = p.length := by omega
          have hpcr2 : p.length < cr := by omega
          have hpN2 : p.length < N := by omega
          clear hr hrow hnew hM hpk hrow0
          have hKi := HKI.out
          go_wp2_with ((with_reducible refine at_copy ?_); (go_loud (refine wpList_copyI (o := ⟨some 48, _, _, _, _, _⟩) Try.underlying24 Try.sizeInt _ rfl (.tmp 46) (.tmp 47) rfl w.heap.size w1.heap.size r cr (rowOf N fun _ => false) p.length (N - p.length) (cr - p.length) rfl HROW.out B' C' ap M cp rfl HR.out (by omega) (by rw [rowOf_len]; omega) ?_)); intro w2 hown hchg; rw [HROWN.out] at hown; have HO3 := Lib.hid (HNEW.out w2 _ hown (by rw [rowOf_len]) hchg); have HC2 := Lib.hid hchg; clear hown hchg)
          have HB3 := Lib.hid (HB2.out.trans (HC2.out.below (D := w.heap.size) (fun k hk => by simp [blockOf] at hk; omega) HB2.out.size))
          have hz2 : wr.heap.size ≤ w2.heap.size := HC2.out.size
          go_roundw
          case rel => exact ⟨k + 1, by omega, by go_num, by
            have := HO3.out
            rw [mat_row_set _ _ _ K hKN, HKK.out] at this
            exact this, HB3.out, by omega⟩
          case measure => simp [intOf]; omega
        · obtain rfl : k = q.length := by omega
          have HE : Hid (mat N N (upB (p.length + q.length) 0 (besF p q)) = besL p q) := Lib.hid (by
            have e : besL p q = mat N N (besF p q) := by unfold besL; rw [← HN.out]
            rw [e]
            exact mat_congr fun i j hi _ => by rw [← HN.out]; exact upB_end i j hi)
          have HLN : Hid (N = (besL p q).length) := Lib.hid (by rw [besL_len]; exact HN.out)
          go_wp2_with fail
          go_ret
          refine ⟨x, c, by rw [← HLN.out]; rfl, ?_, HB2.out⟩
          rw [← HE.out]
          exact HO2.out.mono (Nat.le_refl _) hz

set_option maxRecDepth 4000 in
set_option maxHeartbeats 800000 in
theorem sameSet_any (a : Option Addr) (cap : Nat) (p : List (List Int)) (i : Nat) (a' : Option Addr) (cap' : Nat) (q : List (List Int)) (j : Nat) (w : World) (B C B' C' : Nat) (h : RdII w B C a p) (hC : C ≤ w.heap.size) (hs : Sq p) (hi : i < p.length) (h' : RdII w B' C' a' q) (hC' : C' ≤ w.heap.size) (hs' : Sq q) (hj : j < q.length) (hl : p.length + q.length ≤ 1024) :
    Calls Try.prog 48 #[.slice a p.length cap, .int .i64 i, .slice a' q.length cap', .int .i64 j] w fun e w' => e = .returned (.bool (sameB p i q j)) ∧ Below w.heap.size w w' := by
  have HBC := Lib.hid (beside_any a cap p a' cap' q w B C B' C' h hC hs h' hC' hs' hl)
  clear h h' hs hs'
  obtain ⟨X, hX⟩ : ∃ X, X = besL p q := ⟨_, rfl⟩
  have hXl : X.length = p.length + q.length := by rw [hX, besL_len]
  have HXS : Hid (Sq X) := Lib.hid (by rw [hX]; exact besL_sq p q)
  rw [← hX] at HBC
  obtain ⟨J, hJ⟩ : ∃ J, J = p.length + j := ⟨_, rfl⟩
  have hJi : (p.length : Int) + (j : Int) = (J : Int) := by omega
  have HJI := Lib.hid hJi
  have hiX : i < X.length := by omega
  have hJX : J < X.length := by omega
  have hiXi : (i : Int) < (X.length : Int) := by omega
  have hJXi : (J : Int) < (X.length : Int) := by omega
  have hX10 : X.length ≤ 1024 := by omega
  have HSM : Hid (sameB p i q j = left X X.length i J) := Lib.hid (by unfold sameB simB; rw [← hX, ← hJ])
  clear hX hJ hJi hXl
  go_enter Try.func48, Try.ntmps48
  go_wp2_with fail
  refine HBC.out.mono ?_
  rintro e w1 ⟨x, c, rfl, ho, hb⟩
  have HO := Lib.hid ho.rd
  have HB := Lib.hid hb
  have hz1 : w.heap.size ≤ w1.heap.size := hb.size
  clear ho hb
  go_wp2_with fail
  refine (leftAfter_any x c X X.length w1 _ _ HO.out (Nat.le_refl _) HXS.out hX10 hX10).mono ?_
  rintro e w2 ⟨y, d, rfl, ho, hb⟩
  have HB2 := Lib.hid (HB.out.trans (hb.mono hz1))
  obtain ⟨g, r, ci, rfl, _, _, hgl, hhead, _, _, hrl, hd, _, _, _⟩ := ho.bitAt i J hiX hJX
  clear ho hb
  have hJi := HJI.out
  cases hv : left X X.length i J
  all_goals
    rw [hv] at hd
    simp only [Bool.false_eq_true, if_false, if_true] at hd
    have HV := Lib.hid hv
    clear hv
    go_wp2_with fail
    go_ret
    exact ⟨ret_bool (by rw [HSM.out, HV.out]), HB2.out⟩

end Go.Proofs.Ytfjodcfbhpglhaa
