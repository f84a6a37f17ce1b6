/-
  The zero of [65536]bool: its cells, behind a name; 'new' of it.
-/
import Derived.Test.YthdcodjdecnniaaFork
namespace Go.Proofs.Ythdcodjdecnniaa
open Go.RowKit

def chk : List Value → Nat → Bool
  | [], 0 => true
  | .bool false :: xs, n + 1 => chk xs n
  | _, _ => false

theorem chk_eq : ∀ {l : List Value} {n : Nat}, chk l n = true → l = List.replicate n (.bool false)
  | [], 0, _ => rfl
  | [], n + 1, h => by simp [chk] at h
  | v :: l, 0, h => by simp [chk] at h
  | v :: l, n + 1, h => by
    have hv : v = .bool false ∧ chk l n = true := by
      unfold chk at h
      split at h <;> simp_all
    rw [hv.1, chk_eq hv.2]
    rfl

noncomputable def z46 : Array Value := match Try.t46.zero with | some (.agg cs) => cs | _ => #[]
theorem z46_zero : Try.t46.zero = some (.agg z46) := by kernel_rfl
theorem z46_chk : chk z46.toList 65536 = true := by kernel_rfl

attribute [irreducible] z46

theorem z46_get {j : Nat} (h : j < 65536) : z46[j]? = some (.bool false) := by
  have e := chk_eq z46_chk
  have : z46.toList[j]? = some (.bool false) := by rw [e, List.getElem?_replicate_of_lt h]
  simpa using this

theorem alloc46 (w : World) : (Instr.alloc 46 true (.tuple #[])).run Try.prog w = .ok (.pointer (some ⟨w.heap.size, 0, none⟩)) (w.alloc (.cells z46 46 (0, 0))) := by
  have ht := Try.typeInfo46 w
  simp only [Instr.alloc, zeroValue, Sem.run_bind, ht, Result.andThen_ok, z46_zero, Sem.run_pure]
  rfl

end Go.Proofs.Ythdcodjdecnniaa
