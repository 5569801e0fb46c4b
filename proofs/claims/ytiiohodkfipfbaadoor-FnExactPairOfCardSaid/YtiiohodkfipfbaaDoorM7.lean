/- slices.Sort over owned ints, by the library's contract. -/
import Derived.Shelf.Sort.Plain
import Derived.Test.YtiiohodkfipfbaaDoorM3
namespace Go.Hyp
open Go.RowKit Go.Sort
/-- A row's values replaced: an owned slice of ints holds the new ones; all else as it was, but for new blocks. -/
theorem OwI.sorted {w : World} {E B C g cap n : Nat} {l m : List Int} {os : Array Obj} (h : OwI w E B C (some ⟨g, 0, none⟩) cap l) (hC : C ≤ w.heap.size) (hm : m.length = l.length) :
    OwI (grow (putRow (Value.int .i64) (Sort.ahead w n) g 0 m.toArray) os) E B C (some ⟨g, 0, none⟩) cap m ∧ Chg (· = g) w (grow (putRow (Value.int .i64) (Sort.ahead w n) g 0 m.toArray) os) := by
  rcases h with ⟨h, _⟩ | ⟨g', f, e, h1, h2, hr, hl, hc, hf⟩
  · cases h
  · have e : g = g' := by injection e with e; injection e
    subst e
    have hother : ∀ k, k < w.heap.size → ¬ k = g → (grow (putRow (Value.int .i64) (Sort.ahead w n) g 0 m.toArray) os).heap[k]? = w.heap[k]? := fun k hk hne => by
      rw [heap_grow_old _ _ (by simpa using hk)]
      unfold putRow mapBlock
      simp only [heap_ahead, Array.getElem?_modify]
      rw [if_neg (fun e => hne e.symm)]
    refine ⟨?_, ⟨rfl, rfl, rfl, by simp, hother⟩⟩
    refine .inr ⟨g, fun i => if i < l.length then .int .i64 (m.getD i 0) else f i, rfl, h1, h2, ?_, by omega, hc, fun i hi => if_pos (by omega)⟩
    obtain ⟨c, hb, hs, hcc⟩ := hr
    refine ⟨putCells (Value.int .i64) 0 m.toArray c, ?_, by simp [putCells, hs], fun i hi => ?_⟩
    · rw [heap_grow_old _ _ (by simp; omega)]
      unfold putRow mapBlock
      simp only [heap_ahead, Array.getElem?_modify, if_true, hb]
      rfl
    · unfold putCells
      show _ = some (if i < l.length then _ else _)
      rw [Array.getElem?_mapIdx, hcc i hi, Option.map_some]
      by_cases hlt : i < l.length
      · rw [if_pos ⟨Nat.zero_le _, by simp; omega⟩, if_pos hlt]
        simp [List.getD, show i < m.length by omega]
      · rw [if_neg (by simp; omega), if_neg hlt]
theorem OwI.holds {w : World} {E B C g cap : Nat} {l : List Int} (h : OwI w E B C (some ⟨g, 0, none⟩) cap l) : Holds (Value.int .i64) w g 0 l.toArray := by
  rcases h with ⟨h, _⟩ | ⟨g', f, e, h1, h2, hr, hl, hc, hf⟩
  · cases h
  · have e : g = g' := by injection e with e; injection e
    subst e
    intro j hj
    have hj' : j < l.length := by simpa using hj
    refine ⟨?_, hr.frozen _⟩
    rw [Nat.zero_add, hr.cell (by omega), hf j hj']
    simp [List.getD, hj']
/-- A list of ints in order. -/
def srt (l : List Int) : List Int := l.mergeSort fun x y => decide (x ≤ y)
end Go.Hyp
namespace Go.Proofs.YtiiohodkfipfbaaDoor
open Go.RowKit Go.Hyp Go.Sort Go.Shelf

def sortRen : Go.Shelf.Ren := ⟨fun | 125 => 114 | 128 => 127 | 129 => 128 | 189 => 107 | 215 => 140 | 216 => 124 | 257 => 113 | 294 => 118 | 295 => 119 | 296 => 120 | 297 => 121 | 298 => 122 | 299 => 123 | 300 => 125 | 301 => 126 | 328 => 135 | 329 => 136 | 330 => 137 | 331 => 138 | 332 => 139 | 343 => 145 | n => n, fun | 0 => 0 | 3 => 3 | 4 => 4 | 5 => 5 | 9 => 9 | 28 => 38 | 46 => 76 | 51 => 108 | 53 => 110 | 131 => 105 | 182 => 100 | 183 => 101 | 218 => 118 | 222 => 122 | 228 => 127 | 229 => 128 | n => n, fun n => n⟩
theorem sortLaid : Lays.n189 Tryd.prog sortRen where
  mixed := by kernel_rfl
  f125 := Tryd.func114.trans (congrArg some (by kernel_rfl))
  f128 := Tryd.func127.trans (congrArg some (by kernel_rfl))
  f129 := Tryd.func128.trans (congrArg some (by kernel_rfl))
  f189 := Tryd.func107.trans (congrArg some (by kernel_rfl))
  f215 := Tryd.func140.trans (congrArg some (by kernel_rfl))
  f216 := Tryd.func124.trans (congrArg some (by kernel_rfl))
  f257 := Tryd.func113.trans (congrArg some (by kernel_rfl))
  f294 := Tryd.func118.trans (congrArg some (by kernel_rfl))
  f295 := Tryd.func119.trans (congrArg some (by kernel_rfl))
  f296 := Tryd.func120.trans (congrArg some (by kernel_rfl))
  f297 := Tryd.func121.trans (congrArg some (by kernel_rfl))
  f298 := Tryd.func122.trans (congrArg some (by kernel_rfl))
  f299 := Tryd.func123.trans (congrArg some (by kernel_rfl))
  f300 := Tryd.func125.trans (congrArg some (by kernel_rfl))
  f301 := Tryd.func126.trans (congrArg some (by kernel_rfl))
  f328 := Tryd.func135.trans (congrArg some (by kernel_rfl))
  f329 := Tryd.func136.trans (congrArg some (by kernel_rfl))
  f330 := Tryd.func137.trans (congrArg some (by kernel_rfl))
  f331 := Tryd.func138.trans (congrArg some (by kernel_rfl))
  f332 := Tryd.func139.trans (congrArg some (by kernel_rfl))
  f343 := Tryd.func145.trans (congrArg some (by kernel_rfl))
  t0 := Tryd.underlying0
  a0 := Tryd.isAgg0
  z0 := Tryd.sizeOf0
  v0 := Tryd.zeroValue0
  t3 := Tryd.underlying3
  a3 := Tryd.isAgg3
  z3 := Tryd.sizeOf3
  v3 := Tryd.zeroValue3
  t4 := Tryd.underlying4
  a4 := Tryd.isAgg4
  z4 := Tryd.sizeOf4
  v4 := Tryd.zeroValue4
  t5 := Tryd.underlying5
  a5 := Tryd.isAgg5
  z5 := Tryd.sizeOf5
  v5 := Tryd.zeroValue5
  t9 := Tryd.underlying9
  a9 := Tryd.isAgg9
  z9 := Tryd.sizeOf9
  v9 := Tryd.zeroValue9
  t28 := Tryd.underlying38
  a28 := Tryd.isAgg38
  z28 := Tryd.sizeOf38
  v28 := Tryd.zeroValue38
  t46 := Tryd.underlying76
  a46 := Tryd.isAgg76
  z46 := Tryd.sizeOf76
  v46 := Tryd.zeroValue76
  t51 := Tryd.underlying108
  a51 := Tryd.isAgg108
  z51 := Tryd.sizeOf108
  v51 := Tryd.zeroValue108
  t53 := Tryd.underlying110
  a53 := Tryd.isAgg110
  z53 := Tryd.sizeOf110
  v53 := Tryd.zeroValue110
  t131 := Tryd.underlying105
  a131 := Tryd.isAgg105
  z131 := Tryd.sizeOf105
  v131 := Tryd.zeroValue105
  t182 := Tryd.underlying100
  a182 := Tryd.isAgg100
  z182 := Tryd.sizeOf100
  v182 := Tryd.zeroValue100
  t183 := Tryd.underlying101
  a183 := Tryd.isAgg101
  z183 := Tryd.sizeOf101
  v183 := Tryd.zeroValue101
  t218 := Tryd.underlying118
  a218 := Tryd.isAgg118
  z218 := Tryd.sizeOf118
  v218 := Tryd.zeroValue118
  t222 := Tryd.underlying122
  a222 := Tryd.isAgg122
  z222 := Tryd.sizeOf122
  v222 := Tryd.zeroValue122
  t228 := Tryd.underlying127
  a228 := Tryd.isAgg127
  z228 := Tryd.sizeOf127
  v228 := Tryd.zeroValue127
  t229 := Tryd.underlying128
  a229 := Tryd.isAgg128
  z229 := Tryd.sizeOf128
  v229 := Tryd.zeroValue128
theorem sort_any (g cap : Nat) (l : List Int) (w : World) (E B C : Nat) (h : OwI w E B C (some ⟨g, 0, none⟩) cap l) (hC : C ≤ w.heap.size) (hl : l.length ≤ 1048576) :
    Calls Tryd.prog 107 #[.slice (some ⟨g, 0, none⟩) l.length cap] w fun e w' => e = .returned (.tuple #[]) ∧ OwI w' E B C (some ⟨g, 0, none⟩) cap (srt l) ∧ Chg (· = g) w w' := by
  have hg : g < w.heap.size := by
    have := (h.block_in (k := g) rfl).2
    omega
  refine (Any.slices_Sort_int sortLaid g 0 cap l w h.holds hg (by omega)).mono ?_
  rintro e w' ⟨rfl, n, os, rfl⟩
  exact ⟨rfl, h.sorted hC (by simp)⟩
end Go.Proofs.YtiiohodkfipfbaaDoor
