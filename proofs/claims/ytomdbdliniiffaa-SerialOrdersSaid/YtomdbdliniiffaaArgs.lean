/-
  How the arguments that come in read: pairs of numbers, rows of numbers.
-/
import Derived.Test.YtomdbdliniiffaaOpen
import Derived.Test.YtomdbdliniiffaaRows
import Derived.SizedLaws
namespace Go.Proofs.Ytomdbdliniiffaa
open Go.ChangeShapes Go.WideShapes Go.ChangeAt Go.RowKit Go.Deep

theorem Try.cells22 : Try.prog.cellsOf 22 = 1 := by kernel_rfl
theorem Try.cells21 : Try.prog.cellsOf 21 = 1 := by kernel_rfl
theorem Try.cells48 : Try.prog.cellsOf 48 = 2 := by kernel_rfl
theorem Try.cells53 : Try.prog.cellsOf 53 = 2 := by kernel_rfl
theorem Try.bytes22 : Try.prog.bytesOf 22 = 4 := by kernel_rfl

variable {H : Type} {enc : TypeId × Value → H} {w : World}

theorem wf_bounds {k : IntKind} {x : Int} (h : (Lit.int k x).wf = true) : k.min ≤ x ∧ x ≤ k.max := by
  simpa [Lit.wf] using h
theorem bounds_u32 {x : Int} (h : (Lit.int .u32 x).wf = true) : 0 ≤ x ∧ x < 4294967296 := by
  have b := wf_bounds h
  simp [IntKind.min, IntKind.max, IntKind.signed, IntKind.bits] at b
  omega
theorem bounds_i32 {x : Int} (h : (Lit.int .i32 x).wf = true) : -2147483648 ≤ x ∧ x < 2147483648 := by
  have b := wf_bounds h
  simp [IntKind.min, IntKind.max, IntKind.signed, IntKind.bits] at b
  omega

theorem open_steps {b0 : Nat} {v : Value} {d : DataW H} {p : List MemPlace} (hv : Value.okWide Try.prog w .any b0 48 v) (h : DataW.Trod enc Try.prog w 0 (fun _ => true) true 48 v d p) :
    ∃ a b : Int, v = .agg #[.int .i32 a, .int .i32 b] ∧ (-2147483648 ≤ a ∧ a < 2147483648) ∧ (-2147483648 ≤ b ∧ b < 2147483648) := by
  simp only [Value.okWide, Try.underlying48] at hv
  obtain ⟨cs, rfl, hsz, _⟩ := hv
  rw [Try.cells48] at hsz
  obtain ⟨fuel, hf⟩ := h
  obtain ⟨xs, m, _, _, _, hl, hel⟩ := DataW.trod_array Try.underlying48 hf
  have e0 := hel 0 (by omega)
  have e1 := hel 1 (by omega)
  rw [List.getElem?_eq_getElem (by omega)] at e0 e1
  rw [Try.cells21] at e0 e1
  have hc : (Value.agg cs).cells.toList = cs.toList := rfl
  rw [hc] at e0 e1
  have hlen : cs.toList.length = 2 := by simpa using hsz
  match hcs : cs.toList, hlen with
  | [c0, c1], _ =>
    rw [hcs] at e0 e1
    have e0' : DataW.trod enc Try.prog w 0 (fun _ => true) true m 21 [c0] = some xs[0] := e0
    have e1' : DataW.trod enc Try.prog w 0 (fun _ => true) true m 21 [c1] = some xs[1] := e1
    obtain ⟨a, ea, _, ga⟩ := DataW.trod_int Try.underlying21 e0'
    obtain ⟨b, eb, _, gb⟩ := DataW.trod_int Try.underlying21 e1'
    simp at ea eb
    subst ea eb
    refine ⟨a, b, ?_, bounds_i32 ga, bounds_i32 gb⟩
    congr 1
    exact Array.toList_inj.1 hcs

theorem open_pair {b0 : Nat} {v : Value} {d : DataW H} {p : List MemPlace} (hv : Value.okWide Try.prog w .any b0 53 v) (h : DataW.Trod enc Try.prog w 0 (fun _ => true) true 53 v d p) :
    ∃ a b : Int, v = .agg #[.int .u32 a, .int .u32 b] ∧ (0 ≤ a ∧ a < 4294967296) ∧ (0 ≤ b ∧ b < 4294967296) := by
  simp only [Value.okWide, Try.underlying53] at hv
  obtain ⟨cs, rfl, hsz, _⟩ := hv
  rw [Try.cells53] at hsz
  obtain ⟨fuel, hf⟩ := h
  obtain ⟨xs, n, _, _, hl, hlen, hfl⟩ := DataW.trod_struct Try.underlying53 hf
  have hc : (Value.agg cs).cells.toList = cs.toList := rfl
  rw [hc] at hl hfl
  have hcl : cs.toList.length = 2 := by simpa using hsz
  have h0 := hfl 0 _ rfl
  have h1 := hfl 1 _ rfl
  have hx2 : xs.length = 2 := hlen
  rw [List.getElem?_eq_getElem (by simp at hlen; omega)] at h0 h1
  have h0 : DataW.trod enc Try.prog w 0 (fun _ => true) true n 22 ((cs.toList.drop 0).take (Try.prog.cellsOf 22)) = some xs[0] := h0
  have h1 : DataW.trod enc Try.prog w 0 (fun _ => true) true n 22 ((cs.toList.drop 1).take (Try.prog.cellsOf 22)) = some xs[1] := h1
  rw [Try.cells22] at h0 h1
  match hcs : cs.toList, hcl with
  | [c0, c1], _ =>
    rw [hcs] at h0 h1
    have e0' : DataW.trod enc Try.prog w 0 (fun _ => true) true n 22 [c0] = some xs[0] := h0
    have e1' : DataW.trod enc Try.prog w 0 (fun _ => true) true n 22 [c1] = some xs[1] := h1
    obtain ⟨a, ea, _, ga⟩ := DataW.trod_int Try.underlying22 e0'
    obtain ⟨b, eb, _, gb⟩ := DataW.trod_int Try.underlying22 e1'
    simp at ea eb
    subst ea eb
    refine ⟨a, b, ?_, bounds_u32 ga, bounds_u32 gb⟩
    congr 1
    exact Array.toList_inj.1 hcs

/-- A row of numbers. -/
theorem open_nums {fuel : Nat} {v : Value} {x : DataW H × List MemPlace} (h : DataW.trod enc Try.prog w 0 (fun _ => true) true fuel 30 [v] = some x) (hw : ∀ m ∈ x.1.weights Try.prog 30, m ≤ 140737488351232) :
    ∃ xs : List Int, SliceIn (· < w.heap.size) w 1 v xs.length (xs.map (Value.int .u32)) ∧ (∀ n ∈ xs, 0 ≤ n ∧ n < 4294967296) ∧ xs.length * 4 ≤ 140737488351232 := by
  obtain ⟨xs, h1, h2, h3⟩ := open_row Try.underlying30 Try.underlying22 Try.cells22 h
  refine ⟨xs, h1, fun n hn => bounds_u32 (h2 n hn), ?_⟩
  rcases h3 4 Try.bytes22 with h | ⟨m, hm, hle⟩
  · omega
  · exact Nat.le_trans hle (hw m hm)

end Go.Proofs.Ytomdbdliniiffaa
