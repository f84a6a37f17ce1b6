/-
  What slices.SortFunc makes of a row of the call's own, under the closure of serial.Sort.
-/
import Derived.Test.YtomdbdliniiffaaLay
namespace Go.Proofs.Ytomdbdliniiffaa
open Go.Shelf Go.RowKit Go.Sort

theorem holds_own {w : World} {base g n cap : Nat} {xs : List Int} (h : w.ownsRow base 22 1 (.slice (some ⟨g, 0, none⟩) n cap) n (u32s xs)) : Holds (Value.int .u32) w g 0 xs.toArray := by
  intro j hj
  have hj' : j < xs.length := by simpa using hj
  obtain ⟨h1, h2, _⟩ := own_set h (u32s_get hj')
  rw [Nat.zero_add, h1]
  refine ⟨?_, h2⟩
  rw [getElem!_pos xs.toArray j hj]
  simp [List.getD, hj']

set_option maxHeartbeats 2000000 in
theorem sort_any {w : World} {base g n cap pb pf : Nat} {bits f : Int} {l : List Int} (h : w.ownsRow base 22 1 (.slice (some ⟨g, 0, none⟩) n cap) n (u32s (ded l))) (hn : (ded l).length = n)
    (hb : w.cell? ⟨pb, 0, none⟩ = some (.int .i64 bits)) (hf : w.cell? ⟨pf, 0, none⟩ = some (.int .u32 f)) (hpb : pb ≠ g) (hpf : pf ≠ g) (hl : ∀ x ∈ l, 0 ≤ x ∧ x < mOf bits) (hs : n < 4611686018427387904) :
    Calls Try.prog 29 #[.slice (some ⟨g, 0, none⟩) n cap, .func (.func 30) #[] #[.pointer (some ⟨pb, 0, none⟩), .pointer (some ⟨pf, 0, none⟩)]] w fun e w' =>
      e = .returned (.tuple #[]) ∧ ∃ o : List Int, Met (mOf bits) f l o ∧ o.length = n ∧ w'.ownsRow base 22 1 (.slice (some ⟨g, 0, none⟩) n cap) n (u32s o) ∧ Kept [g] w w' := by
  have eg : ∀ args w, (callFunc 30 args).run Try.prog w = .ok (.enter 30 args) w := enters_of Try.func30 (by kernel_rfl) rfl
  have hsz : (ded l).toArray.size = n := by simpa using hn
  have hcmp : CmpReads Try.prog 30 #[.pointer (some ⟨pb, 0, none⟩), .pointer (some ⟨pf, 0, none⟩)] (Value.int .u32) (cfar (mOf bits) f) g 0 (ded l).toArray.size w := fun m os dk _ x y =>
    closure_any bits f x y pb pf _ ((sort_kept w g m dk os).cell hb (by simpa using hpb)) ((sort_kept w g m dk os).cell hf (by simpa using hpf))
  have hS := Any.slices_SortFunc Try.sortL (Value.int .u32) (fun _ => rfl) (cfar (mOf bits) f) (cfar_swo (mOf bits) f) 30 #[.pointer (some ⟨pb, 0, none⟩), .pointer (some ⟨pf, 0, none⟩)] g 0 cap (ded l).toArray w eg hcmp.lays (holds_own h) (own_lt h g rfl).2 (by rw [hsz]; exact hs)
  change Calls Try.prog 29 _ _ _ at hS
  rw [hsz] at hS
  refine hS.mono ?_
  rintro e w' ⟨rfl, d, q, os, hp, hst, rfl⟩
  have hds : d.size = n := by rw [hp.1]; exact hsz
  exact ⟨rfl, d.toList, met_sorted hl (by rw [hsz]; exact hp) (by rw [hsz]; exact hst), by simpa using hds, sort_row h hds, sort_kept w g q d os⟩

/-- At no element. -/
theorem sort_none (p : Option Addr) (c : Nat) (fv : Value) (w : World) : Calls Try.prog 29 #[.slice p 0 c, fv] w fun e w' => e = .returned (.tuple #[]) ∧ w' = w := by
  have hS := AnyF.slices_SortFunc_none (P := Try.prog) (ρ := Try.sortL_ren) { Try.sortL with } p c fv w
  change Calls Try.prog 29 _ _ _ at hS
  exact hS

end Go.Proofs.Ytomdbdliniiffaa
