/- slices.Sort over owned ints, by the library's contract. -/
import Derived.Shelf.Sort.Plain
import Derived.Test.YtfjodcfbhpglhaaDoorM3
namespace Go.Hyp
open Go.RowKit Go.Sort
/-- A row's values replaced: an owned slice of ints holds the new ones; all else as it was, but for new blocks. -/
theorem OwI.sorted {w : World} {E B C g cap n : Nat} {l m : List Int} {os : Array Obj} (h : OwI w E B C (some ⟨g, 0, none⟩) cap l) (hC : C ≤ w.heap.size) (hm : m.length = l.length) :
    OwI (grow (putRow (Value.int .i64) (Sort.ahead w n) g 0 m.toArray) os) E B C (some ⟨g, 0, none⟩) cap m ∧ Chg (· = g) w (grow (putRow (Value.int .i64) (Sort.ahead w n) g 0 m.toArray) os) := by
  rcases h with ⟨h, _⟩ | ⟨g', f, e, h1, h2, hr, hl, hc, hf⟩
  · cases h
  · have e : g = g' := by injection e with e; injection e
    subst e
    have hother : ∀ k, k < w.heap.size → ¬ k = g → (grow (putRow (Value.int .i64) (Sort.ahead w n) g 0 m.toArray) os).heap[k]? = w.heap[k]? := fun k hk hne => by
      rw [heap_grow_old _ _ (by simpa using hk)]
      unfold putRow mapBlock
      simp only [heap_ahead, Array.getElem?_modify]
      rw [if_neg (fun e => hne e.symm)]
    refine ⟨?_, ⟨rfl, rfl, rfl, by simp, hother⟩⟩
    refine .inr ⟨g, fun i => if i < l.length then .int .i64 (m.getD i 0) else f i, rfl, h1, h2, ?_, by omega, hc, fun i hi => if_pos (by omega)⟩
    obtain ⟨c, hb, hs, hcc⟩ := hr
    refine ⟨putCells (Value.int .i64) 0 m.toArray c, ?_, by simp [putCells, hs], fun i hi => ?_⟩
    · rw [heap_grow_old _ _ (by simp; omega)]
      unfold putRow mapBlock
      simp only [heap_ahead, Array.getElem?_modify, if_true, hb]
      rfl
    · unfold putCells
      show _ = some (if i < l.length then _ else _)
      rw [Array.getElem?_mapIdx, hcc i hi, Option.map_some]
      by_cases hlt : i < l.length
      · rw [if_pos ⟨Nat.zero_le _, by simp; omega⟩, if_pos hlt]
        simp [List.getD, show i < m.length by omega]
      · rw [if_neg (by simp; omega), if_neg hlt]
theorem OwI.holds {w : World} {E B C g cap : Nat} {l : List Int} (h : OwI w E B C (some ⟨g, 0, none⟩) cap l) : Holds (Value.int .i64) w g 0 l.toArray := by
  rcases h with ⟨h, _⟩ | ⟨g', f, e, h1, h2, hr, hl, hc, hf⟩
  · cases h
  · have e : g = g' := by injection e with e; injection e
    subst e
    intro j hj
    have hj' : j < l.length := by simpa using hj
    refine ⟨?_, hr.frozen _⟩
    rw [Nat.zero_add, hr.cell (by omega), hf j hj']
    simp [List.getD, hj']
/-- A list of ints in order. -/
def srt (l : List Int) : List Int := l.mergeSort fun x y => decide (x ≤ y)
end Go.Hyp
namespace Go.Proofs.YtfjodcfbhpglhaaDoor
open Go.RowKit Go.Hyp Go.Sort Go.Shelf

def sortRen : Go.Shelf.Ren := ⟨fun | 125 => 77 | 128 => 93 | 129 => 94 | 189 => 69 | 215 => 107 | 216 => 90 | 257 => 76 | 294 => 84 | 295 => 85 | 296 => 86 | 297 => 87 | 298 => 88 | 299 => 89 | 300 => 91 | 301 => 92 | 328 => 102 | 329 => 103 | 330 => 104 | 331 => 105 | 332 => 106 | 343 => 112 | n => n, fun | 0 => 0 | 3 => 3 | 4 => 4 | 5 => 5 | 9 => 9 | 28 => 38 | 46 => 62 | 51 => 98 | 53 => 100 | 131 => 95 | 182 => 89 | 183 => 90 | 218 => 109 | 222 => 113 | 228 => 118 | 229 => 119 | n => n, fun n => n⟩
theorem sortLaid : Lays.n189 Tryd.prog sortRen where
  mixed := by kernel_rfl
  f125 := Tryd.func77.trans (congrArg some (by kernel_rfl))
  f128 := Tryd.func93.trans (congrArg some (by kernel_rfl))
  f129 := Tryd.func94.trans (congrArg some (by kernel_rfl))
  f189 := Tryd.func69.trans (congrArg some (by kernel_rfl))
  f215 := Tryd.func107.trans (congrArg some (by kernel_rfl))
  f216 := Tryd.func90.trans (congrArg some (by kernel_rfl))
  f257 := Tryd.func76.trans (congrArg some (by kernel_rfl))
  f294 := Tryd.func84.trans (congrArg some (by kernel_rfl))
  f295 := Tryd.func85.trans (congrArg some (by kernel_rfl))
  f296 := Tryd.func86.trans (congrArg some (by kernel_rfl))
  f297 := Tryd.func87.trans (congrArg some (by kernel_rfl))
  f298 := Tryd.func88.trans (congrArg some (by kernel_rfl))
  f299 := Tryd.func89.trans (congrArg some (by kernel_rfl))
  f300 := Tryd.func91.trans (congrArg some (by kernel_rfl))
  f301 := Tryd.func92.trans (congrArg some (by kernel_rfl))
  f328 := Tryd.func102.trans (congrArg some (by kernel_rfl))
  f329 := Tryd.func103.trans (congrArg some (by kernel_rfl))
  f330 := Tryd.func104.trans (congrArg some (by kernel_rfl))
  f331 := Tryd.func105.trans (congrArg some (by kernel_rfl))
  f332 := Tryd.func106.trans (congrArg some (by kernel_rfl))
  f343 := Tryd.func112.trans (congrArg some (by kernel_rfl))
  t0 := Tryd.underlying0
  a0 := Tryd.isAgg0
  z0 := Tryd.sizeOf0
  v0 := Tryd.zeroValue0
  t3 := Tryd.underlying3
  a3 := Tryd.isAgg3
  z3 := Tryd.sizeOf3
  v3 := Tryd.zeroValue3
  t4 := Tryd.underlying4
  a4 := Tryd.isAgg4
  z4 := Tryd.sizeOf4
  v4 := Tryd.zeroValue4
  t5 := Tryd.underlying5
  a5 := Tryd.isAgg5
  z5 := Tryd.sizeOf5
  v5 := Tryd.zeroValue5
  t9 := Tryd.underlying9
  a9 := Tryd.isAgg9
  z9 := Tryd.sizeOf9
  v9 := Tryd.zeroValue9
  t28 := Tryd.underlying38
  a28 := Tryd.isAgg38
  z28 := Tryd.sizeOf38
  v28 := Tryd.zeroValue38
  t46 := Tryd.underlying62
  a46 := Tryd.isAgg62
  z46 := Tryd.sizeOf62
  v46 := Tryd.zeroValue62
  t51 := Tryd.underlying98
  a51 := Tryd.isAgg98
  z51 := Tryd.sizeOf98
  v51 := Tryd.zeroValue98
  t53 := Tryd.underlying100
  a53 := Tryd.isAgg100
  z53 := Tryd.sizeOf100
  v53 := Tryd.zeroValue100
  t131 := Tryd.underlying95
  a131 := Tryd.isAgg95
  z131 := Tryd.sizeOf95
  v131 := Tryd.zeroValue95
  t182 := Tryd.underlying89
  a182 := Tryd.isAgg89
  z182 := Tryd.sizeOf89
  v182 := Tryd.zeroValue89
  t183 := Tryd.underlying90
  a183 := Tryd.isAgg90
  z183 := Tryd.sizeOf90
  v183 := Tryd.zeroValue90
  t218 := Tryd.underlying109
  a218 := Tryd.isAgg109
  z218 := Tryd.sizeOf109
  v218 := Tryd.zeroValue109
  t222 := Tryd.underlying113
  a222 := Tryd.isAgg113
  z222 := Tryd.sizeOf113
  v222 := Tryd.zeroValue113
  t228 := Tryd.underlying118
  a228 := Tryd.isAgg118
  z228 := Tryd.sizeOf118
  v228 := Tryd.zeroValue118
  t229 := Tryd.underlying119
  a229 := Tryd.isAgg119
  z229 := Tryd.sizeOf119
  v229 := Tryd.zeroValue119
theorem sort_any (g cap : Nat) (l : List Int) (w : World) (E B C : Nat) (h : OwI w E B C (some ⟨g, 0, none⟩) cap l) (hC : C ≤ w.heap.size) (hl : l.length ≤ 1048576) :
    Calls Tryd.prog 69 #[.slice (some ⟨g, 0, none⟩) l.length cap] w fun e w' => e = .returned (.tuple #[]) ∧ OwI w' E B C (some ⟨g, 0, none⟩) cap (srt l) ∧ Chg (· = g) w w' := by
  have hg : g < w.heap.size := by
    have := (h.block_in (k := g) rfl).2
    omega
  refine (Any.slices_Sort_int sortLaid g 0 cap l w h.holds hg (by omega)).mono ?_
  rintro e w' ⟨rfl, n, os, rfl⟩
  exact ⟨rfl, h.sorted hC (by simp)⟩
end Go.Proofs.YtfjodcfbhpglhaaDoor
