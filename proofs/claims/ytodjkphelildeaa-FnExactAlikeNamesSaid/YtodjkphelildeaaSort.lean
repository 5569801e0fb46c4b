/- slices.Sort over owned ints, by the library's contract. -/
import Derived.Test.YtodjkphelildeaaInt
import Derived.Shelf.Sort.Plain
namespace Go.Hyp
open Go.RowKit Go.Sort
/-- A row's values replaced: an owned slice of ints holds the new ones; all else as it was, but for new blocks. -/
theorem OwI.sorted {w : World} {E B C g cap n : Nat} {l m : List Int} {os : Array Obj} (h : OwI w E B C (some ⟨g, 0, none⟩) cap l) (hC : C ≤ w.heap.size) (hm : m.length = l.length) :
    OwI (grow (putRow (Value.int .i64) (Sort.ahead w n) g 0 m.toArray) os) E B C (some ⟨g, 0, none⟩) cap m ∧ Chg (· = g) w (grow (putRow (Value.int .i64) (Sort.ahead w n) g 0 m.toArray) os) := by
  rcases h with ⟨h, _⟩ | ⟨g', f, e, h1, h2, hr, hl, hc, hf⟩
  · cases h
  · have e : g = g' := by injection e with e; injection e
    subst e
    have hother : ∀ k, k < w.heap.size → ¬ k = g → (grow (putRow (Value.int .i64) (Sort.ahead w n) g 0 m.toArray) os).heap[k]? = w.heap[k]? := fun k hk hne => by
      rw [heap_grow_old _ _ (by simpa using hk)]
      unfold putRow mapBlock
      simp only [heap_ahead, Array.getElem?_modify]
      rw [if_neg (fun e => hne e.symm)]
    refine ⟨?_, ⟨rfl, rfl, rfl, by simp, hother⟩⟩
    refine .inr ⟨g, fun i => if i < l.length then .int .i64 (m.getD i 0) else f i, rfl, h1, h2, ?_, by omega, hc, fun i hi => if_pos (by omega)⟩
    obtain ⟨c, hb, hs, hcc⟩ := hr
    refine ⟨putCells (Value.int .i64) 0 m.toArray c, ?_, by simp [putCells, hs], fun i hi => ?_⟩
    · rw [heap_grow_old _ _ (by simp; omega)]
      unfold putRow mapBlock
      simp only [heap_ahead, Array.getElem?_modify, if_true, hb]
      rfl
    · unfold putCells
      show _ = some (if i < l.length then _ else _)
      rw [Array.getElem?_mapIdx, hcc i hi, Option.map_some]
      by_cases hlt : i < l.length
      · rw [if_pos ⟨Nat.zero_le _, by simp; omega⟩, if_pos hlt]
        simp [List.getD, show i < m.length by omega]
      · rw [if_neg (by simp; omega), if_neg hlt]
theorem OwI.holds {w : World} {E B C g cap : Nat} {l : List Int} (h : OwI w E B C (some ⟨g, 0, none⟩) cap l) : Holds (Value.int .i64) w g 0 l.toArray := by
  rcases h with ⟨h, _⟩ | ⟨g', f, e, h1, h2, hr, hl, hc, hf⟩
  · cases h
  · have e : g = g' := by injection e with e; injection e
    subst e
    intro j hj
    have hj' : j < l.length := by simpa using hj
    refine ⟨?_, hr.frozen _⟩
    rw [Nat.zero_add, hr.cell (by omega), hf j hj']
    simp [List.getD, hj']
/-- A list of ints in order. -/
def srt (l : List Int) : List Int := l.mergeSort fun x y => decide (x ≤ y)
end Go.Hyp
namespace Go.Proofs.Ytodjkphelildeaa
open Go.RowKit Go.Hyp Go.Sort Go.Shelf

def sortRen : Go.Shelf.Ren := ⟨fun | 125 => 116 | 128 => 127 | 129 => 128 | 189 => 105 | 215 => 134 | 216 => 124 | 257 => 115 | 294 => 118 | 295 => 119 | 296 => 120 | 297 => 121 | 298 => 122 | 299 => 123 | 300 => 125 | 301 => 126 | 328 => 129 | 329 => 130 | 330 => 131 | 331 => 132 | 332 => 133 | 343 => 135 | n => n, fun | 0 => 0 | 3 => 3 | 4 => 4 | 5 => 5 | 9 => 9 | 28 => 33 | 46 => 91 | 51 => 109 | 53 => 111 | 131 => 24 | 182 => 102 | 183 => 103 | 218 => 112 | 222 => 116 | 228 => 118 | 229 => 58 | n => n, fun n => n⟩
theorem sortLaid : Lays.n189 Try.prog sortRen where
  mixed := by kernel_rfl
  f125 := Try.func116.trans (congrArg some (by kernel_rfl))
  f128 := Try.func127.trans (congrArg some (by kernel_rfl))
  f129 := Try.func128.trans (congrArg some (by kernel_rfl))
  f189 := Try.func105.trans (congrArg some (by kernel_rfl))
  f215 := Try.func134.trans (congrArg some (by kernel_rfl))
  f216 := Try.func124.trans (congrArg some (by kernel_rfl))
  f257 := Try.func115.trans (congrArg some (by kernel_rfl))
  f294 := Try.func118.trans (congrArg some (by kernel_rfl))
  f295 := Try.func119.trans (congrArg some (by kernel_rfl))
  f296 := Try.func120.trans (congrArg some (by kernel_rfl))
  f297 := Try.func121.trans (congrArg some (by kernel_rfl))
  f298 := Try.func122.trans (congrArg some (by kernel_rfl))
  f299 := Try.func123.trans (congrArg some (by kernel_rfl))
  f300 := Try.func125.trans (congrArg some (by kernel_rfl))
  f301 := Try.func126.trans (congrArg some (by kernel_rfl))
  f328 := Try.func129.trans (congrArg some (by kernel_rfl))
  f329 := Try.func130.trans (congrArg some (by kernel_rfl))
  f330 := Try.func131.trans (congrArg some (by kernel_rfl))
  f331 := Try.func132.trans (congrArg some (by kernel_rfl))
  f332 := Try.func133.trans (congrArg some (by kernel_rfl))
  f343 := Try.func135.trans (congrArg some (by kernel_rfl))
  t0 := Try.underlying0
  a0 := Try.isAgg0
  z0 := Try.sizeOf0
  v0 := Try.zeroValue0
  t3 := Try.underlying3
  a3 := Try.isAgg3
  z3 := Try.sizeOf3
  v3 := Try.zeroValue3
  t4 := Try.underlying4
  a4 := Try.isAgg4
  z4 := Try.sizeOf4
  v4 := Try.zeroValue4
  t5 := Try.underlying5
  a5 := Try.isAgg5
  z5 := Try.sizeOf5
  v5 := Try.zeroValue5
  t9 := Try.underlying9
  a9 := Try.isAgg9
  z9 := Try.sizeOf9
  v9 := Try.zeroValue9
  t28 := Try.underlying33
  a28 := Try.isAgg33
  z28 := Try.sizeOf33
  v28 := Try.zeroValue33
  t46 := Try.underlying91
  a46 := Try.isAgg91
  z46 := Try.sizeOf91
  v46 := Try.zeroValue91
  t51 := Try.underlying109
  a51 := Try.isAgg109
  z51 := Try.sizeOf109
  v51 := Try.zeroValue109
  t53 := Try.underlying111
  a53 := Try.isAgg111
  z53 := Try.sizeOf111
  v53 := Try.zeroValue111
  t131 := Try.underlying24
  a131 := Try.isAgg24
  z131 := Try.sizeOf24
  v131 := Try.zeroValue24
  t182 := Try.underlying102
  a182 := Try.isAgg102
  z182 := Try.sizeOf102
  v182 := Try.zeroValue102
  t183 := Try.underlying103
  a183 := Try.isAgg103
  z183 := Try.sizeOf103
  v183 := Try.zeroValue103
  t218 := Try.underlying112
  a218 := Try.isAgg112
  z218 := Try.sizeOf112
  v218 := Try.zeroValue112
  t222 := Try.underlying116
  a222 := Try.isAgg116
  z222 := Try.sizeOf116
  v222 := Try.zeroValue116
  t228 := Try.underlying118
  a228 := Try.isAgg118
  z228 := Try.sizeOf118
  v228 := Try.zeroValue118
  t229 := Try.underlying58
  a229 := Try.isAgg58
  z229 := Try.sizeOf58
  v229 := Try.zeroValue58
theorem sort_any (g cap : Nat) (l : List Int) (w : World) (E B C : Nat) (h : OwI w E B C (some ⟨g, 0, none⟩) cap l) (hC : C ≤ w.heap.size) (hl : l.length ≤ 1048576) :
    Calls Try.prog 105 #[.slice (some ⟨g, 0, none⟩) l.length cap] w fun e w' => e = .returned (.tuple #[]) ∧ OwI w' E B C (some ⟨g, 0, none⟩) cap (srt l) ∧ Chg (· = g) w w' := by
  have hg : g < w.heap.size := by
    have := (h.block_in (k := g) rfl).2
    omega
  refine (Any.slices_Sort_int sortLaid g 0 cap l w h.holds hg (by omega)).mono ?_
  rintro e w' ⟨rfl, n, os, rfl⟩
  exact ⟨rfl, h.sorted hC (by simp)⟩
end Go.Proofs.Ytodjkphelildeaa
