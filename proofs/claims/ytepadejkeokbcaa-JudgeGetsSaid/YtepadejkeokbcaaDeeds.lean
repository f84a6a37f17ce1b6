/-
  How marks that came in read.
-/
import Derived.Test.YtepadejkeokbcaaLive
import Derived.Test.YtepadejkeokbcaaOpen
import Derived.SizedLaws
namespace Go.Proofs.Ytepadejkeokbcaa
open Go.ChangeShapes Go.WideShapes Go.ChangeAt Go.RowKit Go.Deep

theorem Try.underlying37 : Try.prog.underlying 37 = some (.int .i64) := by kernel_rfl
theorem Try.underlying42 : Try.prog.underlying 42 = some (.int .i64) := by kernel_rfl
theorem Try.underlying4' : Try.prog.underlying 4 = some .bool := by kernel_rfl
theorem Try.cells37 : Try.prog.cellsOf 37 = 1 := by kernel_rfl
theorem Try.cells42 : Try.prog.cellsOf 42 = 1 := by kernel_rfl
theorem Try.cells38 : Try.prog.cellsOf 38 = 1 := by kernel_rfl
theorem Try.cells4 : Try.prog.cellsOf 4 = 1 := by kernel_rfl
theorem Try.cells5 : Try.prog.cellsOf 5 = 1 := by kernel_rfl
theorem Try.cells39 : Try.prog.cellsOf 39 = 1 := by kernel_rfl
theorem Try.cells41 : Try.prog.cellsOf 41 = 5 := by kernel_rfl
theorem Try.cells44 : Try.prog.cellsOf 44 = 10 := by kernel_rfl
theorem Try.bytes5 : Try.prog.bytesOf 5 = 1 := by kernel_rfl

theorem Try.parts41 : (match Try.prog.underlying 41 with | some (.struct fs) => fs.toList.map (fun f => (f.type, f.offset)) | _ => []) = [(38, 0), (38, 1), (29, 2), (4, 3), (39, 4)] := by kernel_rfl
theorem Try.parts44 : (match Try.prog.underlying 44 with | some (.struct fs) => fs.toList.map (fun f => (f.type, f.offset)) | _ => []) = [(37, 0), (3, 1), (29, 2), (29, 3), (41, 4), (42, 9)] := by kernel_rfl
theorem Try.struct41 : ∃ fs : Array Field, Try.prog.underlying 41 = some (.struct fs) ∧ fs.toList.map (fun f => (f.type, f.offset)) = [(38, 0), (38, 1), (29, 2), (4, 3), (39, 4)] := by
  have h := Try.parts41
  split at h
  · rename_i fs e; exact ⟨fs, e, h⟩
  · cases h
theorem Try.struct44 : ∃ fs : Array Field, Try.prog.underlying 44 = some (.struct fs) ∧ fs.toList.map (fun f => (f.type, f.offset)) = [(37, 0), (3, 1), (29, 2), (29, 3), (41, 4), (42, 9)] := by
  have h := Try.parts44
  split at h
  · rename_i fs e; exact ⟨fs, e, h⟩
  · cases h

theorem field_at {fs : Array Field} {L : List (TypeId × Nat)} (h : fs.toList.map (fun f => (f.type, f.offset)) = L) {i : Nat} {t : TypeId} {o : Nat} (hi : L[i]? = some (t, o)) : ∃ f, fs[i]? = some f ∧ f.type = t ∧ f.offset = o := by
  rw [← h, List.getElem?_map] at hi
  cases hf : fs.toList[i]? with
  | none => rw [hf] at hi; cases hi
  | some f =>
    rw [hf] at hi
    simp only [Option.map_some, Option.some.injEq, Prod.mk.injEq] at hi
    exact ⟨f, by rw [← Array.getElem?_toList]; exact hf, hi.1, hi.2⟩

variable {H : Type} {enc : TypeId × Value → H} {w : World}

theorem wf_bounds {k : IntKind} {x : Int} (h : (Lit.int k x).wf = true) : k.min ≤ x ∧ x ≤ k.max := by
  simpa [Lit.wf] using h

theorem struct_fields {t : TypeId} {fs : Array Field} {L : List (TypeId × Nat)} {fuel : Nat} {cs : List Value} {y : DataW H × List MemPlace} (ht : Try.prog.underlying t = some (.struct fs)) (hL : fs.toList.map (fun f => (f.type, f.offset)) = L)
    (h : DataW.trod enc Try.prog w 0 (fun _ => true) true fuel t cs = some y) :
    cs.length = Try.prog.cellsOf t ∧ ∃ n, ∀ (i : Nat) (u : TypeId) (o : Nat), L[i]? = some (u, o) → ∃ z, DataW.trod enc Try.prog w 0 (fun _ => true) true n u ((cs.drop o).take (Try.prog.cellsOf u)) = some z ∧ ∀ q ∈ z.1.weights Try.prog u, q ∈ y.1.weights Try.prog t := by
  obtain ⟨xs, n, _, rfl, hl, hlen, hf⟩ := DataW.trod_struct ht h
  refine ⟨hl, n, fun i u o hi => ?_⟩
  obtain ⟨f, hfi, rfl, rfl⟩ := field_at hL hi
  have h1 := hf i f hfi
  have hi2 : i < xs.length := by
    have := (Array.getElem?_eq_some_iff.1 hfi).1
    omega
  rw [List.getElem?_eq_getElem hi2] at h1
  refine ⟨xs[i], h1, fun q hq => ?_⟩
  simp only [DataW.weights, ht]
  refine DataW.weights_mem_each (j := i) (t := f.type) (d := xs[i].1) ?_ ?_ q hq
  · rw [List.getElem?_map, Array.getElem?_toList, hfi]; rfl
  · rw [List.getElem?_map, List.getElem?_eq_getElem hi2]; rfl

theorem open_msg {fuel : Nat} {cs : List Value} {y : DataW H × List MemPlace} (h : DataW.trod enc Try.prog w 0 (fun _ => true) true fuel 41 cs = some y) :
    ∃ m : Msg, cs = m.cells ∧ SliceIn (· < w.heap.size) w 1 m.dv m.data.length (u8s m.data) ∧ (∀ z ∈ m.data, 0 ≤ z ∧ z ≤ 255) ∧ (m.data.length = 0 ∨ ∃ q ∈ y.1.weights Try.prog 41, m.data.length ≤ q) ∧ 0 ≤ m.stream ∧ m.stream < 65536 := by
  obtain ⟨fs, u41, p41⟩ := Try.struct41
  obtain ⟨hl, n, hf⟩ := struct_fields u41 p41 h
  rw [Try.cells41] at hl
  match cs, hl with
  | [c0, c1, c2, c3, c4], _ =>
    obtain ⟨z0, t0, _⟩ := hf 0 38 0 rfl
    obtain ⟨z1, t1, _⟩ := hf 1 38 1 rfl
    obtain ⟨z2, t2, _⟩ := hf 2 29 2 rfl
    obtain ⟨z3, t3, _⟩ := hf 3 4 3 rfl
    obtain ⟨z4, t4, hw4⟩ := hf 4 39 4 rfl
    simp only [Try.cells38, Try.cells29, Try.cells4, Try.cells39] at t0 t1 t2 t3 t4
    have t0' : DataW.trod enc Try.prog w 0 (fun _ => true) true n 38 [c0] = some z0 := t0
    have t1' : DataW.trod enc Try.prog w 0 (fun _ => true) true n 38 [c1] = some z1 := t1
    have t2' : DataW.trod enc Try.prog w 0 (fun _ => true) true n 29 [c2] = some z2 := t2
    have t3' : DataW.trod enc Try.prog w 0 (fun _ => true) true n 4 [c3] = some z3 := t3
    have t4' : DataW.trod enc Try.prog w 0 (fun _ => true) true n 39 [c4] = some z4 := t4
    obtain ⟨x0, e0, _, g0⟩ := DataW.trod_int Try.underlying38 t0'
    obtain ⟨x1, e1, _, _⟩ := DataW.trod_int Try.underlying38 t1'
    obtain ⟨x2, e2, _, _⟩ := DataW.trod_int Try.underlying29 t2'
    obtain ⟨x3, e3, _⟩ := DataW.trod_bool Try.underlying4' t3'
    obtain ⟨xs, hin, hwf, hw⟩ := open_row Try.underlying39 Try.underlying5 Try.cells5 t4'
    simp at e0 e1 e2 e3
    subst e0 e1 e2 e3
    have b0 := wf_bounds g0
    simp [IntKind.min, IntKind.max, IntKind.signed, IntKind.bits] at b0
    refine ⟨⟨x0, x1, x2, x3, xs, c4⟩, rfl, hin, fun z hz => ?_, ?_, by dsimp only; omega, by dsimp only; omega⟩
    · have := wf_bounds (hwf z hz)
      simp [IntKind.min, IntKind.max, IntKind.signed, IntKind.bits] at this
      exact this
    · rcases hw 1 Try.bytes5 with h | ⟨q, hq, hle⟩
      · exact .inl (by show xs.length = 0; omega)
      · exact .inr ⟨q, hw4 q hq, by show xs.length ≤ q; omega⟩

theorem open_mark {fuel : Nat} {cs : List Value} {y : DataW H × List MemPlace} (h : DataW.trod enc Try.prog w 0 (fun _ => true) true fuel 44 cs = some y) (hsz : ∀ q ∈ y.1.weights Try.prog 44, q ≤ 140737488351232) :
    ∃ m : Mark, cs = m.cells ∧ m.here w := by
  obtain ⟨fs, u44, p44⟩ := Try.struct44
  obtain ⟨hl, n, hf⟩ := struct_fields u44 p44 h
  rw [Try.cells44] at hl
  match cs, hl with
  | [c0, c1, c2, c3, c4, c5, c6, c7, c8, c9], _ =>
    obtain ⟨z0, t0, _⟩ := hf 0 37 0 rfl
    obtain ⟨z1, t1, _⟩ := hf 1 3 1 rfl
    obtain ⟨z2, t2, _⟩ := hf 2 29 2 rfl
    obtain ⟨z3, t3, _⟩ := hf 3 29 3 rfl
    obtain ⟨z4, t4, hw4⟩ := hf 4 41 4 rfl
    obtain ⟨z5, t5, _⟩ := hf 5 42 9 rfl
    simp only [Try.cells37, Try.cells3, Try.cells29, Try.cells41, Try.cells42] at t0 t1 t2 t3 t4 t5
    have t0' : DataW.trod enc Try.prog w 0 (fun _ => true) true n 37 [c0] = some z0 := t0
    have t1' : DataW.trod enc Try.prog w 0 (fun _ => true) true n 3 [c1] = some z1 := t1
    have t2' : DataW.trod enc Try.prog w 0 (fun _ => true) true n 29 [c2] = some z2 := t2
    have t3' : DataW.trod enc Try.prog w 0 (fun _ => true) true n 29 [c3] = some z3 := t3
    have t4' : DataW.trod enc Try.prog w 0 (fun _ => true) true n 41 [c4, c5, c6, c7, c8] = some z4 := t4
    have t5' : DataW.trod enc Try.prog w 0 (fun _ => true) true n 42 [c9] = some z5 := t5
    obtain ⟨x0, e0, _, _⟩ := DataW.trod_int Try.underlying37 t0'
    obtain ⟨x1, e1, _, g1⟩ := DataW.trod_int Try.underlying3 t1'
    obtain ⟨x2, e2, _, g2⟩ := DataW.trod_int Try.underlying29 t2'
    obtain ⟨x3, e3, _, g3⟩ := DataW.trod_int Try.underlying29 t3'
    obtain ⟨x5, e5, _, _⟩ := DataW.trod_int Try.underlying42 t5'
    obtain ⟨m, e4, hin, hby, hlen, hst⟩ := open_msg t4'
    simp at e0 e1 e2 e3 e5
    subst e0 e1 e2 e3 e5
    have b1 := wf_bounds g1
    have b2 := wf_bounds g2
    have b3 := wf_bounds g3
    simp [IntKind.min, IntKind.max, IntKind.signed, IntKind.bits] at b1 b2 b3
    simp only [Msg.cells, List.cons.injEq, and_true] at e4
    obtain ⟨rfl, rfl, rfl, rfl, rfl⟩ := e4
    refine ⟨⟨x0, x1, x2, x3, m, x5⟩, rfl, ⟨hin.mono (fun _ _ _ => trivial), hby, ?_, hst⟩, ⟨by dsimp only [Mark.key]; omega, by dsimp only [Mark.key]; omega, by dsimp only [Mark.key]; omega⟩⟩
    rcases hlen with h | ⟨q, hq, hle⟩
    · show m.data.length ≤ _; omega
    · have := hsz q (hw4 q hq)
      show m.data.length ≤ _; omega

theorem marks_of {f : Nat → Mark} {n : Nat} {j : Nat} {u : Value} (h : (marksV ((List.range n).map f))[j]? = some u) : ∃ i, i < n ∧ ∃ c, c < 10 ∧ j = i * 10 + c ∧ (f i).cells[c]? = some u := by
  have hj := (List.getElem?_eq_some_iff.1 h).1
  rw [marksV_length] at hj
  simp at hj
  have hi : j / 10 < n := by omega
  have hg := marksV_get ((List.range n).map f) (j / 10) (by simpa using hi) (j % 10) (Nat.mod_lt _ (by omega))
  have e : j / 10 * 10 + j % 10 = j := Nat.div_add_mod' j 10
  rw [e, h] at hg
  refine ⟨j / 10, hi, j % 10, Nat.mod_lt _ (by omega), e.symm, ?_⟩
  rw [hg]
  simp

theorem open_marks {fuel : Nat} {v : Value} {d : DataW H} {ps : List MemPlace} (h : DataW.trod enc Try.prog w 0 (fun _ => true) true fuel 22 [v] = some (d, ps)) (hsz : ∀ m ∈ d.weights Try.prog 22, m ≤ 140737488351232) : ∃ L, MarksRaw w v L := by
  rcases open_slice Try.underlying22 h with ⟨hcs, _⟩ | ⟨a, len, cap, m, n, DD, Pl, hcs, _, hl, _, hm, hx, hel⟩
  · simp at hcs
    subst hcs
    exact ⟨[], ⟨SliceIn.nil _ _, by simp⟩⟩
  · simp at hcs hm
    subst hcs; subst hm
    rw [Try.cells44] at hel
    simp only [Prod.mk.injEq] at hx
    obtain ⟨hd, _⟩ := hx
    by_cases h0 : len = 0
    · subst h0
      exact ⟨[], ⟨⟨rfl, .inl ⟨rfl, _, _, rfl, fun h => by cases h⟩⟩, by simp⟩⟩
    obtain ⟨b, off, spot⟩ := a
    have hspot : spot = none := by
      obtain ⟨cs', hc', ht'⟩ := hel 0 (by omega)
      obtain ⟨_, hlen, hcell⟩ := World.cells?_some hc'
      have h1 := hcell 0 (by omega)
      rw [List.getElem?_eq_getElem (by omega)] at h1
      simpa [Addr.add] using World.cell?_spot h1
    subst hspot
    have hrow : ∀ i, i < len → ∃ x : Mark, x.here w ∧ ∀ c, c < 10 → w.cell? ⟨b, off + i * 10 + c, none⟩ = x.cells[c]? := by
      intro i hi
      obtain ⟨cs', hc', ht'⟩ := hel i (by omega)
      obtain ⟨_, hlen, hcell⟩ := World.cells?_some hc'
      obtain ⟨x, rfl, hx⟩ := open_mark ht' (fun q hq => hsz q (by
        rw [hd]
        simp only [DataW.weights, Try.underlying22, List.mem_cons, List.mem_append]
        exact .inr (.inl (weightsAll_mem (List.mem_map.2 ⟨i, by simpa using hi, rfl⟩) hq))))
      refine ⟨x, hx, fun c hc => ?_⟩
      have g := hcell c (by omega)
      simpa only [Addr.add_lit] using g
    haveI : Inhabited Mark := ⟨⟨0, 0, 0, 0, ⟨0, 0, 0, false, [], undef⟩, 0⟩⟩
    obtain ⟨f, hf⟩ := choose_lt hrow
    have hb : b < w.heap.size := by
      have h1 := (hf 0 (by omega)).2 0 (by omega)
      exact World.block_lt_of_cell? _ _ (h1.trans (List.getElem?_eq_getElem (show 0 < (f 0).cells.length from by show 0 < 10; omega)))
    refine ⟨(List.range len).map f, ⟨⟨by rw [marksV_length], .inr ⟨b, off, m, by simp, by simpa using hl, trivial, hb, fun j u hu => ?_⟩⟩, fun x hx => ?_⟩⟩
    · obtain ⟨i, hi, c, hc, rfl, hcu⟩ := marks_of hu
      rw [← Nat.add_assoc, (hf i hi).2 c hc]
      exact hcu
    · obtain ⟨i, hi, rfl⟩ := List.mem_map.1 hx
      exact (hf i (by simpa using hi)).1

end Go.Proofs.Ytepadejkeokbcaa
