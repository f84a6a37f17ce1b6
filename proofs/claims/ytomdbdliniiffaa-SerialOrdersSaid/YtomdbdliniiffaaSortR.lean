/-
  A row behind a sort: what it holds.
-/
import Derived.Test.YtomdbdliniiffaaSer
import Derived.Test.YtomdbdliniiffaaSortP
import Derived.Shelf.SlSortCmp.Kit1
namespace Go.Proofs.Ytomdbdliniiffaa
open Go.RowKit Go.Sort Go.Shelf

theorem ahead_heap (w : World) (n : Nat) : (Sort.ahead w n).heap = w.heap := rfl

theorem sort_kept (w : World) (g n : Nat) (d : Array Int) (os : Array Obj) : Kept [g] w (sortWorld (Value.int .u32) w g 0 n d os) := by
  refine ⟨rfl, rfl, rfl, ?_, fun k hk hn => ?_⟩
  · show w.heap.size ≤ (w.heap.modify g _ ++ os).size
    simp
  · show (w.heap.modify g _ ++ os)[k]? = _
    rw [Array.getElem?_append_left (by simpa using hk), Array.getElem?_modify, if_neg (fun e => hn (by simp [e]))]

theorem sort_block {w : World} {g n : Nat} {d : Array Int} {os : Array Obj} {cur : Array Value} {e : TypeId} {fr : Nat × Nat} (hb : w.heap[g]? = some (.cells cur e fr)) :
    (sortWorld (Value.int .u32) w g 0 n d os).heap[g]? = some (.cells (putCells (Value.int .u32) 0 d cur) e fr) := by
  show (w.heap.modify g (onCells (putCells (Value.int .u32) 0 d)) ++ os)[g]? = _
  have hl := lt_of_block hb
  rw [Array.getElem?_append_left (by simpa using hl), Array.getElem?_modify, if_pos rfl, hb]
  rfl

theorem sort_row {w : World} {base g n cap q : Nat} {e : TypeId} {xs : List Int} {d : Array Int} {os : Array Obj} (h : w.ownsRow base e 1 (.slice (some ⟨g, 0, none⟩) n cap) n (u32s xs)) (hd : d.size = n) :
    (sortWorld (Value.int .u32) w g 0 q d os).ownsRow base e 1 (.slice (some ⟨g, 0, none⟩) n cap) n (u32s d.toList) := by
  refine ⟨by simp [u32s, hd], ?_⟩
  rcases h.2 with ⟨h0, h1⟩ | ⟨g', cap', cur, he, h1, h2, h3, h4, h5, h6⟩
  · cases h0
  · cases he
    refine .inr ⟨g, cap, _, rfl, h1, sort_block h2, h3, h4, by simpa [putCells] using h5, ?_⟩
    apply List.ext_getElem?
    intro k
    rw [List.getElem?_take]
    split
    · rename_i hk
      have hkc : k < cur.size := by omega
      have hkd : k < d.size := by omega
      simp only [putCells, Array.getElem?_toList, Array.getElem?_mapIdx, Array.getElem?_eq_getElem hkc, Option.map_some, u32s, List.getElem?_map, Array.getElem?_eq_getElem hkd]
      rw [if_pos ⟨by omega, by omega⟩, getElem!_pos d _ (by omega)]
      simp
    · rename_i hk
      simp only [u32s, List.getElem?_map, Array.getElem?_toList]
      rw [Array.getElem?_eq_none (by omega)]
      rfl

/-- What the sort compares by. -/
def cfar (m f : Int) (x y : Int) : Int := Lib.compareInt (far m f x) (far m f y)
theorem cfar_lt (m f x y : Int) : ltOf (cfar m f) x y = decide (far m f x < far m f y) := by
  unfold ltOf cfar Lib.compareInt
  by_cases h1 : far m f x < far m f y
  · simp [h1]
  · by_cases h2 : far m f x > far m f y <;> simp [h1, h2]
theorem cfar_swo (m f : Int) : SWO (ltOf (cfar m f)) where
  irrefl x := by rw [cfar_lt]; simp
  trans x y z h1 h2 := by rw [cfar_lt] at *; simp at *; omega
  ntrans x y z h1 h2 := by rw [cfar_lt] at *; simp at *; omega

theorem met_sorted {m f : Int} {l : List Int} {d : Array Int} (hl : ∀ x ∈ l, 0 ≤ x ∧ x < m) (hp : PermIn 0 (ded l).toArray.size (ded l).toArray d) (hs : SortedIn (ltOf (cfar m f)) 0 (ded l).toArray.size d) : Met m f l d.toList := by
  obtain ⟨h1, _, h3⟩ := hp
  refine met_of hl ?_ ?_
  · have e1 : d.extract 0 (ded l).toArray.size = d := by rw [← h1]; simp
    have e2 : (ded l).toArray.extract 0 (ded l).toArray.size = (ded l).toArray := by simp
    rw [e1, e2] at h3
    simpa using h3
  · rw [List.pairwise_iff_getElem]
    intro i j hi hj hij
    have hi' : i < d.size := by simpa using hi
    have hj' : j < d.size := by simpa using hj
    have := hs i j (Nat.zero_le _) hij (by rw [← h1]; exact hj')
    rw [cfar_lt, getElem!_pos d i hi', getElem!_pos d j hj'] at this
    simpa using this

end Go.Proofs.Ytomdbdliniiffaa
