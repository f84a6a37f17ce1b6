/-
  How a script that came in reads: its deeds lie in old blocks ('DeedsAt').
-/
import Derived.Test.YtnbbbhemlmkeiaaPlay
import Derived.Test.YtnbbbhemlmkeiaaOpen
namespace Go.Proofs.Ytnbbbhemlmkeiaa
open Go.ChangeShapes Go.WideShapes Go.ChangeAt Go.RowKit Go.Deep

theorem Try.cells3 : Try.prog.cellsOf 3 = 1 := by kernel_rfl
theorem Try.cells5 : Try.prog.cellsOf 5 = 1 := by kernel_rfl
theorem Try.cells28 : Try.prog.cellsOf 28 = 1 := by kernel_rfl
theorem Try.cells30 : Try.prog.cellsOf 30 = 3 := by kernel_rfl
theorem Try.bytes5 : Try.prog.bytesOf 5 = 1 := by kernel_rfl

variable {H : Type} {enc : TypeId × Value → H} {w : World}

theorem open_deeds {fuel : Nat} {v : Value} {d : DataW H} {ps : List MemPlace} (h : DataW.trod enc Try.prog w 0 (fun _ => true) true fuel 22 [v] = some (d, ps)) (hsz : ∀ m ∈ d.weights Try.prog 22, m ≤ 140737488351232) :
    ∃ n D Bs I, DeedsAt w.heap.size w v n D Bs I := by
  rcases open_slice Try.underlying22 h with ⟨hcs, _⟩ | ⟨a, len, cap, m, n, DD, Pl, hcs, _, hl, _, hm, hx, hel⟩
  · simp at hcs
    subst hcs
    exact ⟨0, fun _ => 0, fun _ => [], fun _ => 0, Nat.le_refl _, .inl ⟨rfl, none, 0, rfl⟩⟩
  · simp at hcs hm
    subst hcs; subst hm
    rw [Try.cells30] at hel
    simp only [Prod.mk.injEq] at hx
    obtain ⟨hd, _⟩ := hx
    by_cases h0 : len = 0
    · subst h0
      exact ⟨0, fun _ => 0, fun _ => [], fun _ => 0, Nat.le_refl _, .inl ⟨rfl, some a, m, rfl⟩⟩
    obtain ⟨b, off, spot⟩ := a
    have hspot : spot = none := by
      obtain ⟨cs', hc', ht'⟩ := hel 0 (by omega)
      obtain ⟨_, hlen, hcell⟩ := World.cells?_some hc'
      have h1 := hcell 0 (by omega)
      rw [List.getElem?_eq_getElem (by omega)] at h1
      simpa [Addr.add] using World.cell?_spot h1
    subst hspot
    have hrow : ∀ i, i < len → ∃ x : Int × List Int × Int, ∃ bv, w.cell? ⟨b, off + i * 3, none⟩ = some (.int .i64 x.1) ∧ w.cell? ⟨b, off + i * 3 + 1, none⟩ = some bv ∧ w.cell? ⟨b, off + i * 3 + 2, none⟩ = some (.int .i64 x.2.2) ∧
        SliceIn (· < w.heap.size) w 1 bv x.2.1.length (u8s x.2.1) ∧ x.2.1.length ≤ 140737488351232 := by
      intro i hi
      obtain ⟨cs', hc', ht'⟩ := hel i (by omega)
      obtain ⟨_, hlen, hcell⟩ := World.cells?_some hc'
      obtain ⟨y0, y1, y2, k, hy, _, t0, t1, t2⟩ := trod_struct3 Try.underlying30 ht'
      match cs', hlen with
      | [c0, c1, c2], _ =>
        simp only [Try.cells3, Try.cells28] at t0 t1 t2
        have t0' : DataW.trod enc Try.prog w 0 (fun _ => true) true k 3 [c0] = some y0 := t0
        have t1' : DataW.trod enc Try.prog w 0 (fun _ => true) true k 28 [c1] = some y1 := t1
        have t2' : DataW.trod enc Try.prog w 0 (fun _ => true) true k 3 [c2] = some y2 := t2
        obtain ⟨z0, e0, _, _⟩ := DataW.trod_int Try.underlying3 t0'
        obtain ⟨z2, e2, _, _⟩ := DataW.trod_int Try.underlying3 t2'
        obtain ⟨xs, hin, _, hw⟩ := open_row Try.underlying28 Try.underlying5 Try.cells5 t1'
        simp at e0 e2
        subst e0; subst e2
        have g0 := hcell 0 (by omega)
        have g1 := hcell 1 (by omega)
        have g2 := hcell 2 (by omega)
        simp only [Addr.add_lit, Nat.add_zero] at g0 g1 g2
        refine ⟨(z0, xs, z2), c1, g0, g1, g2, hin, ?_⟩
        rcases hw 1 Try.bytes5 with h | ⟨m, hm, hle⟩
        · show xs.length ≤ _; omega
        · have : m ≤ 140737488351232 := by
            refine hsz m ?_
            have hmem : m ∈ (DD i).weights Try.prog 30 := by
              have hy' := congrArg Prod.fst hy
              simp only at hy'
              rw [hy']
              simp only [DataW.weights, Try.underlying30]
              simp [DataW.weightsEach, hm]
            rw [hd]
            simp only [DataW.weights, Try.underlying22, List.mem_cons, List.mem_append]
            exact .inr (.inl (weightsAll_mem (List.mem_map.2 ⟨i, by simpa using hi, rfl⟩) hmem))
          show xs.length ≤ _; omega
    obtain ⟨f, hf⟩ := choose_lt hrow
    have hb : b < w.heap.size := by
      obtain ⟨bv, h1, _⟩ := hf 0 (by omega)
      exact World.block_lt_of_cell? _ _ h1
    exact ⟨len, fun i => (f i).1, fun i => (f i).2.1, fun i => (f i).2.2, Nat.le_refl _, .inr ⟨b, off, m, rfl, hb, hf⟩⟩

end Go.Proofs.Ytnbbbhemlmkeiaa
