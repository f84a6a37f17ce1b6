/-
  How a script that came in reads: its deeds lie in old blocks.
-/
import Derived.Test.YthdcodjdecnniaaPlay
import Derived.Test.YthdcodjdecnniaaOpen
namespace Go.Proofs.Ythdcodjdecnniaa
open Go.ChangeShapes Go.WideShapes Go.ChangeAt Go.RowKit Go.Deep

theorem Try.cells42 : Try.prog.cellsOf 42 = 1 := by kernel_rfl
theorem Try.cells4 : Try.prog.cellsOf 4 = 1 := by kernel_rfl
theorem Try.cells5 : Try.prog.cellsOf 5 = 1 := by kernel_rfl
theorem Try.cells44 : Try.prog.cellsOf 44 = 2 := by kernel_rfl

variable {H : Type} {enc : TypeId × Value → H} {w : World}

theorem deedsV_length (l : List (Int × Bool)) : (deedsV l).length = l.length * 2 := by
  induction l with
  | nil => rfl
  | cons r l ih =>
    have e : deedsV (r :: l) = .int .i16 r.1 :: .bool r.2 :: deedsV l := rfl
    rw [e]; simp [ih]; omega

theorem deeds_at {f : Nat → Int × Bool} {n : Nat} {j : Nat} {u : Value} (h : (deedsV ((List.range n).map f))[j]? = some u) : ∃ i, i < n ∧ ((j = i * 2 ∧ u = .int .i16 (f i).1) ∨ (j = i * 2 + 1 ∧ u = .bool (f i).2)) := by
  have hj := (List.getElem?_eq_some_iff.1 h).1
  rw [deedsV_length] at hj
  simp at hj
  have hi : j / 2 < n := by omega
  obtain ⟨g0, g1⟩ := deeds_get (l := (List.range n).map f) (k := j / 2) (by simpa using hi)
  simp at g0 g1
  refine ⟨j / 2, hi, ?_⟩
  by_cases hp : j % 2 = 0
  · left
    have e : j = 2 * (j / 2) := by omega
    rw [← e] at g0
    rw [g0] at h
    exact ⟨by omega, (Option.some.inj h).symm⟩
  · right
    have e : j = 2 * (j / 2) + 1 := by omega
    rw [← e] at g1
    rw [g1] at h
    exact ⟨by omega, (Option.some.inj h).symm⟩

theorem open_deeds {fuel : Nat} {v : Value} {d : DataW H} {ps : List MemPlace} (h : DataW.trod enc Try.prog w 0 (fun _ => true) true fuel 23 [v] = some (d, ps)) :
    ∃ ds : List (Int × Bool), SliceIn (· < w.heap.size) w 2 v ds.length (deedsV ds) ∧ ∀ d ∈ ds, -32768 ≤ d.1 ∧ d.1 ≤ 32767 := by
  rcases open_slice Try.underlying23 h with ⟨hcs, _⟩ | ⟨a, len, cap, m, n, DD, Pl, hcs, _, hl, _, hm, hx, hel⟩
  · simp at hcs
    subst hcs
    exact ⟨[], SliceIn.nil _ _, by simp⟩
  · simp at hcs hm
    subst hcs; subst hm
    rw [Try.cells44] at hel
    by_cases h0 : len = 0
    · subst h0
      exact ⟨[], ⟨rfl, .inl ⟨rfl, _, _, rfl, fun h => by cases h⟩⟩, by simp⟩
    obtain ⟨b, off, spot⟩ := a
    have hspot : spot = none := by
      obtain ⟨cs', hc', ht'⟩ := hel 0 (by omega)
      obtain ⟨_, hlen, hcell⟩ := World.cells?_some hc'
      have h1 := hcell 0 (by omega)
      rw [List.getElem?_eq_getElem (by omega)] at h1
      simpa [Addr.add] using World.cell?_spot h1
    subst hspot
    have hrow : ∀ i, i < len → ∃ x : Int × Bool, w.cell? ⟨b, off + i * 2, none⟩ = some (.int .i16 x.1) ∧ w.cell? ⟨b, off + i * 2 + 1, none⟩ = some (.bool x.2) ∧ -32768 ≤ x.1 ∧ x.1 ≤ 32767 := by
      intro i hi
      obtain ⟨cs', hc', ht'⟩ := hel i (by omega)
      obtain ⟨_, hlen, hcell⟩ := World.cells?_some hc'
      obtain ⟨y0, y1, k, hy, _, t0, t1⟩ := trod_struct2 Try.underlying44 ht'
      match cs', hlen with
      | [c0, c1], _ =>
        simp only [Try.cells42, Try.cells4] at t0 t1
        have t0' : DataW.trod enc Try.prog w 0 (fun _ => true) true k 42 [c0] = some y0 := t0
        have t1' : DataW.trod enc Try.prog w 0 (fun _ => true) true k 4 [c1] = some y1 := t1
        obtain ⟨z0, e0, _, hwf⟩ := DataW.trod_int Try.underlying42 t0'
        obtain ⟨z1, e1, _⟩ := DataW.trod_bool Try.underlying4 t1'
        simp at e0 e1
        subst e0; subst e1
        have g0 := hcell 0 (by omega)
        have g1 := hcell 1 (by omega)
        simp only [Addr.add_lit, Nat.add_zero] at g0 g1
        exact ⟨(z0, z1), g0, g1, bounds_i16 hwf⟩
    obtain ⟨f, hf⟩ := choose_lt hrow
    have hb : b < w.heap.size := by
      obtain ⟨h1, _⟩ := hf 0 (by omega)
      exact World.block_lt_of_cell? _ _ h1
    refine ⟨(List.range len).map f, ?_, ?_⟩
    · have e : ((List.range len).map f).length = len := by simp
      rw [e]
      refine ⟨by rw [deedsV_length, e], .inr ⟨b, off, m, rfl, hl, hb, hb, fun j u hu => ?_⟩⟩
      obtain ⟨i, hi, ⟨rfl, rfl⟩ | ⟨rfl, rfl⟩⟩ := deeds_at hu
      · exact (hf i hi).1
      · rw [← Nat.add_assoc]; exact (hf i hi).2.1
    · intro d hd
      obtain ⟨i, hi, rfl⟩ := List.mem_map.1 hd
      exact (hf i (by simpa using hi)).2.2

end Go.Proofs.Ythdcodjdecnniaa
