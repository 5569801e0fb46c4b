/- slices.Sort over owned ints, by the library's contract. -/
import Derived.Shelf.Sort.Plain
import Derived.Test.YtfjodcfbhpglhaaGreatDoorM3
namespace Go.Hyp
open Go.RowKit Go.Sort
/-- A row's values replaced: an owned slice of ints holds the new ones; all else as it was, but for new blocks. -/
theorem OwI.sorted {w : World} {E B C g cap n : Nat} {l m : List Int} {os : Array Obj} (h : OwI w E B C (some ⟨g, 0, none⟩) cap l) (hC : C ≤ w.heap.size) (hm : m.length = l.length) :
    OwI (grow (putRow (Value.int .i64) (Sort.ahead w n) g 0 m.toArray) os) E B C (some ⟨g, 0, none⟩) cap m ∧ Chg (· = g) w (grow (putRow (Value.int .i64) (Sort.ahead w n) g 0 m.toArray) os) := by
  rcases h with ⟨h, _⟩ | ⟨g', f, e, h1, h2, hr, hl, hc, hf⟩
  · cases h
  · have e : g = g' := by injection e with e; injection e
    subst e
    have hother : ∀ k, k < w.heap.size → ¬ k = g → (grow (putRow (Value.int .i64) (Sort.ahead w n) g 0 m.toArray) os).heap[k]? = w.heap[k]? := fun k hk hne => by
      rw [heap_grow_old _ _ (by simpa using hk)]
      unfold putRow mapBlock
      simp only [heap_ahead, Array.getElem?_modify]
      rw [if_neg (fun e => hne e.symm)]
    refine ⟨?_, ⟨rfl, rfl, rfl, by simp, hother⟩⟩
    refine .inr ⟨g, fun i => if i < l.length then .int .i64 (m.getD i 0) else f i, rfl, h1, h2, ?_, by omega, hc, fun i hi => if_pos (by omega)⟩
    obtain ⟨c, hb, hs, hcc⟩ := hr
    refine ⟨putCells (Value.int .i64) 0 m.toArray c, ?_, by simp [putCells, hs], fun i hi => ?_⟩
    · rw [heap_grow_old _ _ (by simp; omega)]
      unfold putRow mapBlock
      simp only [heap_ahead, Array.getElem?_modify, if_true, hb]
      rfl
    · unfold putCells
      show _ = some (if i < l.length then _ else _)
      rw [Array.getElem?_mapIdx, hcc i hi, Option.map_some]
      by_cases hlt : i < l.length
      · rw [if_pos ⟨Nat.zero_le _, by simp; omega⟩, if_pos hlt]
        simp [List.getD, show i < m.length by omega]
      · rw [if_neg (by simp; omega), if_neg hlt]
theorem OwI.holds {w : World} {E B C g cap : Nat} {l : List Int} (h : OwI w E B C (some ⟨g, 0, none⟩) cap l) : Holds (Value.int .i64) w g 0 l.toArray := by
  rcases h with ⟨h, _⟩ | ⟨g', f, e, h1, h2, hr, hl, hc, hf⟩
  · cases h
  · have e : g = g' := by injection e with e; injection e
    subst e
    intro j hj
    have hj' : j < l.length := by simpa using hj
    refine ⟨?_, hr.frozen _⟩
    rw [Nat.zero_add, hr.cell (by omega), hf j hj']
    simp [List.getD, hj']
/-- A list of ints in order. -/
def srt (l : List Int) : List Int := l.mergeSort fun x y => decide (x ≤ y)
end Go.Hyp
namespace Go.Proofs.YtfjodcfbhpglhaaGreatDoor
open Go.RowKit Go.Hyp Go.Sort Go.Shelf

def sortRen : Go.Shelf.Ren := ⟨fun | 125 => 130 | 128 => 145 | 129 => 146 | 189 => 117 | 215 => 158 | 216 => 142 | 257 => 129 | 294 => 136 | 295 => 137 | 296 => 138 | 297 => 139 | 298 => 140 | 299 => 141 | 300 => 143 | 301 => 144 | 328 => 153 | 329 => 154 | 330 => 155 | 331 => 156 | 332 => 157 | 343 => 163 | n => n, fun | 0 => 0 | 3 => 3 | 4 => 4 | 5 => 5 | 9 => 9 | 28 => 35 | 46 => 81 | 51 => 117 | 53 => 119 | 131 => 38 | 182 => 110 | 183 => 111 | 218 => 127 | 222 => 131 | 228 => 136 | 229 => 137 | n => n, fun n => n⟩
theorem sortLaid : Lays.n189 Tryz.prog sortRen where
  mixed := by kernel_rfl
  f125 := Tryz.func130.trans (congrArg some (by kernel_rfl))
  f128 := Tryz.func145.trans (congrArg some (by kernel_rfl))
  f129 := Tryz.func146.trans (congrArg some (by kernel_rfl))
  f189 := Tryz.func117.trans (congrArg some (by kernel_rfl))
  f215 := Tryz.func158.trans (congrArg some (by kernel_rfl))
  f216 := Tryz.func142.trans (congrArg some (by kernel_rfl))
  f257 := Tryz.func129.trans (congrArg some (by kernel_rfl))
  f294 := Tryz.func136.trans (congrArg some (by kernel_rfl))
  f295 := Tryz.func137.trans (congrArg some (by kernel_rfl))
  f296 := Tryz.func138.trans (congrArg some (by kernel_rfl))
  f297 := Tryz.func139.trans (congrArg some (by kernel_rfl))
  f298 := Tryz.func140.trans (congrArg some (by kernel_rfl))
  f299 := Tryz.func141.trans (congrArg some (by kernel_rfl))
  f300 := Tryz.func143.trans (congrArg some (by kernel_rfl))
  f301 := Tryz.func144.trans (congrArg some (by kernel_rfl))
  f328 := Tryz.func153.trans (congrArg some (by kernel_rfl))
  f329 := Tryz.func154.trans (congrArg some (by kernel_rfl))
  f330 := Tryz.func155.trans (congrArg some (by kernel_rfl))
  f331 := Tryz.func156.trans (congrArg some (by kernel_rfl))
  f332 := Tryz.func157.trans (congrArg some (by kernel_rfl))
  f343 := Tryz.func163.trans (congrArg some (by kernel_rfl))
  t0 := Tryz.underlying0
  a0 := Tryz.isAgg0
  z0 := Tryz.sizeOf0
  v0 := Tryz.zeroValue0
  t3 := Tryz.underlying3
  a3 := Tryz.isAgg3
  z3 := Tryz.sizeOf3
  v3 := Tryz.zeroValue3
  t4 := Tryz.underlying4
  a4 := Tryz.isAgg4
  z4 := Tryz.sizeOf4
  v4 := Tryz.zeroValue4
  t5 := Tryz.underlying5
  a5 := Tryz.isAgg5
  z5 := Tryz.sizeOf5
  v5 := Tryz.zeroValue5
  t9 := Tryz.underlying9
  a9 := Tryz.isAgg9
  z9 := Tryz.sizeOf9
  v9 := Tryz.zeroValue9
  t28 := Tryz.underlying35
  a28 := Tryz.isAgg35
  z28 := Tryz.sizeOf35
  v28 := Tryz.zeroValue35
  t46 := Tryz.underlying81
  a46 := Tryz.isAgg81
  z46 := Tryz.sizeOf81
  v46 := Tryz.zeroValue81
  t51 := Tryz.underlying117
  a51 := Tryz.isAgg117
  z51 := Tryz.sizeOf117
  v51 := Tryz.zeroValue117
  t53 := Tryz.underlying119
  a53 := Tryz.isAgg119
  z53 := Tryz.sizeOf119
  v53 := Tryz.zeroValue119
  t131 := Tryz.underlying38
  a131 := Tryz.isAgg38
  z131 := Tryz.sizeOf38
  v131 := Tryz.zeroValue38
  t182 := Tryz.underlying110
  a182 := Tryz.isAgg110
  z182 := Tryz.sizeOf110
  v182 := Tryz.zeroValue110
  t183 := Tryz.underlying111
  a183 := Tryz.isAgg111
  z183 := Tryz.sizeOf111
  v183 := Tryz.zeroValue111
  t218 := Tryz.underlying127
  a218 := Tryz.isAgg127
  z218 := Tryz.sizeOf127
  v218 := Tryz.zeroValue127
  t222 := Tryz.underlying131
  a222 := Tryz.isAgg131
  z222 := Tryz.sizeOf131
  v222 := Tryz.zeroValue131
  t228 := Tryz.underlying136
  a228 := Tryz.isAgg136
  z228 := Tryz.sizeOf136
  v228 := Tryz.zeroValue136
  t229 := Tryz.underlying137
  a229 := Tryz.isAgg137
  z229 := Tryz.sizeOf137
  v229 := Tryz.zeroValue137
theorem sort_any (g cap : Nat) (l : List Int) (w : World) (E B C : Nat) (h : OwI w E B C (some ⟨g, 0, none⟩) cap l) (hC : C ≤ w.heap.size) (hl : l.length ≤ 1048576) :
    Calls Tryz.prog 117 #[.slice (some ⟨g, 0, none⟩) l.length cap] w fun e w' => e = .returned (.tuple #[]) ∧ OwI w' E B C (some ⟨g, 0, none⟩) cap (srt l) ∧ Chg (· = g) w w' := by
  have hg : g < w.heap.size := by
    have := (h.block_in (k := g) rfl).2
    omega
  refine (Any.slices_Sort_int sortLaid g 0 cap l w h.holds hg (by omega)).mono ?_
  rintro e w' ⟨rfl, n, os, rfl⟩
  exact ⟨rfl, h.sorted hC (by simp)⟩
end Go.Proofs.YtfjodcfbhpglhaaGreatDoor
