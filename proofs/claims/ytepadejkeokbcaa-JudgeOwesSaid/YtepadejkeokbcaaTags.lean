/-
  How a pair of tags that came in reads.
-/
import Derived.Test.YtepadejkeokbcaaDeeds
namespace Go.Proofs.Ytepadejkeokbcaa
open Go.ChangeShapes Go.WideShapes Go.ChangeAt Go.RowKit Go.Deep

theorem Try.underlying30 : Try.prog.underlying 30 = some (.array 2 29) := by kernel_rfl
theorem Try.cells30 : Try.prog.cellsOf 30 = 2 := by kernel_rfl

variable {H : Type} {enc : TypeId × Value → H} {w : World}

theorem bounds_i64' {x : Int} (h : (Lit.int .i64 x).wf = true) : -9223372036854775808 ≤ x ∧ x ≤ 9223372036854775807 := by
  have b := wf_bounds h
  simp [IntKind.min, IntKind.max, IntKind.signed, IntKind.bits] at b
  exact b

theorem open_tags {b0 : Nat} {v : Value} {d : DataW H} {p : List MemPlace} (hv : Value.okWide Try.prog w .any b0 30 v) (h : DataW.Trod enc Try.prog w 0 (fun _ => true) true 30 v d p) :
    ∃ a b : Int, v = .agg #[.int .u32 a, .int .u32 b] ∧ (0 ≤ a ∧ a < 4294967296) ∧ (0 ≤ b ∧ b < 4294967296) := by
  simp only [Value.okWide, Try.underlying30] at hv
  obtain ⟨cs, rfl, hsz, _⟩ := hv
  rw [Try.cells30] at hsz
  obtain ⟨fuel, hf⟩ := h
  obtain ⟨xs, m, _, _, _, hl, hel⟩ := DataW.trod_array Try.underlying30 hf
  have e0 := hel 0 (by omega)
  have e1 := hel 1 (by omega)
  rw [List.getElem?_eq_getElem (by omega)] at e0 e1
  rw [Try.cells29] at e0 e1
  have hc : (Value.agg cs).cells.toList = cs.toList := rfl
  rw [hc] at e0 e1
  have hlen : cs.toList.length = 2 := by simpa using hsz
  match hcs : cs.toList, hlen with
  | [c0, c1], _ =>
    rw [hcs] at e0 e1
    have e0' : DataW.trod enc Try.prog w 0 (fun _ => true) true m 29 [c0] = some xs[0] := e0
    have e1' : DataW.trod enc Try.prog w 0 (fun _ => true) true m 29 [c1] = some xs[1] := e1
    obtain ⟨a, ea, _, ga⟩ := DataW.trod_int Try.underlying29 e0'
    obtain ⟨b, eb, _, gb⟩ := DataW.trod_int Try.underlying29 e1'
    simp at ea eb
    subst ea eb
    have ba := wf_bounds ga
    have bb := wf_bounds gb
    simp [IntKind.min, IntKind.max, IntKind.signed, IntKind.bits] at ba bb
    refine ⟨a, b, ?_, by omega, by omega⟩
    congr 1
    exact Array.toList_inj.1 hcs

end Go.Proofs.Ytepadejkeokbcaa
