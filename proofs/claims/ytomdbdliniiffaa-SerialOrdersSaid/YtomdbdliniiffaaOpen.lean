/-
  How a []byte that came in reads, over any program: a list of numbers in old blocks; its length within the form's reach. No condition.
-/
import Derived.Test.YtomdbdliniiffaaBase
import Derived.ProofKit
import Derived.Deep.Slices
import Derived.Deep.Strs
import Derived.OpenShut
namespace Go.Proofs.Ytomdbdliniiffaa
open Go.ChangeShapes Go.WideShapes Go.ChangeAt Go.RowKit Go.Deep

variable {H : Type} {enc : TypeId × Value → H} {P : Program} {w : World}

/-- A slice of integers that came in. -/
theorem open_row {t e : TypeId} {k : IntKind} {fuel : Nat} {v : Value} {x : DataW H × List MemPlace} (ht : P.underlying t = some (.slice e)) (he : P.underlying e = some (.int k)) (hc : P.cellsOf e = 1)
    (h : DataW.trod enc P w 0 (fun _ => true) true fuel t [v] = some x) : ∃ xs : List Int, SliceIn (· < w.heap.size) w 1 v xs.length (xs.map (Value.int k)) ∧ (∀ n ∈ xs, (Lit.int k n).wf = true) ∧
      ∀ b, P.bytesOf e = b → xs.length * b = 0 ∨ ∃ m ∈ x.1.weights P t, xs.length * b ≤ m := by
  rcases open_ints ht he hc h with ⟨hcs, hx⟩ | ⟨a, len, cap, zs, hcs, _, hl, _, hz, hx, hcell, hwz⟩
  · simp at hcs
    subst hcs
    exact ⟨[], SliceIn.nil _ _, ⟨fun n hn => by simp at hn, fun b _ => .inl (by simp)⟩⟩
  · simp at hcs
    subst hcs
    simp at hz
    have hlen : (zs.take len).length = len := by simp; omega
    refine ⟨zs.take len, ?_, fun n hn => hwz n (List.mem_of_mem_take hn), fun b hb => .inr ⟨(zs.take len).length * b + (zs.drop len).length * b, ?_, by omega⟩⟩
    · rw [hlen]
      refine ⟨by simp; omega, ?_⟩
      by_cases h0 : len = 0
      · subst h0
        exact .inl ⟨rfl, _, _, rfl, fun h => by cases h⟩
      · obtain ⟨b, off, rfl, hcc⟩ := ints_at hcell (by omega)
        refine .inr ⟨b, off, cap, rfl, hl, ?_, ?_, fun j u hu => ?_⟩
        · exact World.block_lt_of_cell? _ _ (hcc 0 (by omega))
        · exact World.block_lt_of_cell? _ _ (hcc 0 (by omega))
        · have hj := (List.getElem?_eq_some_iff.1 hu).1
          simp at hj
          have hj2 : j < zs.length := by omega
          rw [hcc j hj2]
          have : ((zs.take len).map (Value.int k))[j]? = some (.int k (zs.getD j 0)) := by 
            have hj3 : j < len := by omega
            simp [List.getD, hj2, hj3]
          rw [this] at hu
          exact hu
    · rw [hx]
      simp [DataW.weights, ht, hb, lits, Nat.add_mul]

theorem weightsAll_mem {e : TypeId} : ∀ {ds : List (DataW H)} {d : DataW H} {m : Nat}, d ∈ ds → m ∈ d.weights P e → m ∈ DataW.weightsAll P e ds
  | d0 :: ds, d, m, hd, hm => by
    simp only [DataW.weightsAll, List.mem_append]
    rcases List.mem_cons.1 hd with rfl | hd
    · exact .inl hm
    · exact .inr (weightsAll_mem hd hm)

end Go.Proofs.Ytomdbdliniiffaa
