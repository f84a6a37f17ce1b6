/-
  short, and the beginnings of a row of marks.
-/
import Derived.Test.YtepadejkeokbcaaOwed
namespace Go.Proofs.Ytepadejkeokbcaa
open Go.RowKit Go.Maps

theorem Try.underlying22 : Try.prog.underlying 22 = some (.slice 44) := by kernel_rfl
theorem info44 : (Try.prog.info? 44).map (fun i => i.size) = some 10 := by kernel_rfl

/-- lv reads as the marks L, however many. -/
structure MarksRaw (w : World) (lv : Value) (L : List Mark) : Prop where
  row : SliceIn Any w 10 lv L.length (marksV L)
  here : ∀ m ∈ L, m.here w
theorem MarksRaw.kept {w w' : World} {lv : Value} {L : List Mark} (h : MarksRaw w lv L) (hk : Kept [] w w') : MarksRaw w' lv L :=
  ⟨h.row.kept hk (fun _ _ _ => by simp), fun m hm => (h.here m hm).kept hk⟩
theorem MarksRaw.few {w : World} {lv : Value} {L : List Mark} (h : MarksRaw w lv L) (hf : L.length ≤ 1000) : MarksIn w lv L := ⟨h.row, h.here, hf⟩
theorem MarksIn.raw {w : World} {lv : Value} {L : List Mark} (h : MarksIn w lv L) : MarksRaw w lv L := ⟨h.row, h.here⟩

theorem marksV_take (L : List Mark) (k : Nat) (hk : k ≤ L.length) : marksV (L.take k) = (marksV L).take (k * 10) := by
  have e : marksV L = marksV (L.take k) ++ marksV (L.drop k) := by
    rw [marksV, marksV, marksV, ← List.flatMap_append, List.take_append_drop]
  have hl : (marksV (L.take k)).length = k * 10 := by rw [marksV_length, List.length_take]; omega
  rw [e, ← hl, List.take_left]

theorem slice_to {w : World} {ao : Option Addr} {cap k : Nat} {L : List Mark} (h : MarksRaw w (.slice ao L.length cap) L) (hk : k ≤ L.length) :
    (∀ w', (Instr.slice 22 (.slice ao L.length cap) none (some (.int .i64 (k : Int))) none).run Try.prog w' = .ok (.slice ao k cap) w') ∧ MarksRaw w (.slice ao k cap) (L.take k) := by
  have hkc : k ≤ cap ∨ L.length = 0 := by
    rcases h.row.2 with ⟨h0, _⟩ | ⟨b, off, cap', he, h2, _⟩
    · exact .inr h0
    · cases he; exact .inl (by omega)
  have hkc' : k ≤ cap := by
    rcases hkc with h | h
    · exact h
    · omega
  have h1 : (0 : Int) ≤ (k : Int) ∧ (k : Int) ≤ (cap : Int) := by omega
  obtain ⟨i, hi⟩ : ∃ i, Try.prog.info? 44 = some i ∧ i.size = 10 := by
    cases hq : Try.prog.info? 44 with
    | none => have := info44; simp [hq] at this
    | some i => exact ⟨i, rfl, by have := info44; simpa [hq] using this⟩
  refine ⟨fun w' => ?_, ?_, fun m hm => h.here m (List.mem_of_mem_take hm)⟩
  · simp [Instr.slice, Instr.sliceBounds, Instr.sliceBound, asIntOf, run_underlying Try.underlying22, h1, sizeOf, typeInfo, hi.1]
    rw [if_pos hkc']
    have e0 : (if cap = 0 then ao else Option.map (fun x => x.add 0) ao) = ao := by
      cases ao with
      | none => simp
      | some ad => obtain ⟨b, off, spot⟩ := ad; cases spot <;> simp [Addr.add]
    rw [e0]
  · have hlen : (L.take k).length = k := by rw [List.length_take]; omega
    rw [hlen, marksV_take L k hk]
    have hl := h.row.1
    refine ⟨by rw [List.length_take]; omega, ?_⟩
    rcases h.row.2 with ⟨h0, ao', cap', he, hc⟩ | ⟨b, off, cap', he, h2, h3, h4, h5⟩
    · simp only [Value.slice.injEq] at he
      obtain ⟨rfl, _, rfl⟩ := he
      have hk0 : k = 0 := by omega
      subst hk0
      exact .inl ⟨rfl, ao, cap, rfl, hc⟩
    · cases he
      refine .inr ⟨b, off, cap, rfl, hkc', trivial, h4, fun j u hu => h5 j u ?_⟩
      rw [List.getElem?_take] at hu
      split at hu
      · exact hu
      · cases hu

def short (L : List Mark) : List Mark := L.take 60
theorem short_few (L : List Mark) : (short L).length ≤ 60 := by unfold short; rw [List.length_take]; omega

def Shorted (w : World) (L : List Mark) (e : Ending) (w' : World) : Prop := ∃ v, e = .returned v ∧ MarksIn w v (short L) ∧ w = w'

set_option maxHeartbeats 1000000 in
theorem short_any {w : World} {lv : Value} {L : List Mark} (hl : MarksRaw w lv L) : Calls Try.prog 9 #[lv] w (Shorted w L) := by
  obtain ⟨ao, cap, rfl⟩ := hl.row.form
  have HL := hid hl
  by_cases h : 60 < L.length
  · obtain ⟨hrun, hx⟩ := slice_to hl (k := 60) (by omega)
    have h' : (60 : Int) < (L.length : Int) := by omega
    have HZ := hid (show Shorted w L (.returned (.slice ao 60 cap)) w from ⟨_, rfl, hx.few (by have := short_few L; unfold short at this; omega), rfl⟩)
    have hr : (Instr.slice 22 (.slice ao L.length cap) none (some (.int .i64 60)) none).run Try.prog w = .ok (.slice ao 60 cap) w := hrun w
    generalize Shorted w L = Post at *
    clear hl hrun hx h
    go_enter Try.func9, Try.ntmps9
    go_wp2
    exact HZ.out
  · have h' : ¬ (60 : Int) < (L.length : Int) := by omega
    have e : short L = L := List.take_of_length_le (by omega)
    have HZ := hid (show Shorted w L (.returned (.slice ao L.length cap)) w from ⟨_, rfl, by rw [e]; exact hl.few (by omega), rfl⟩)
    generalize Shorted w L = Post at *
    clear hl h e
    go_enter Try.func9, Try.ntmps9
    go_wp2
    exact HZ.out

end Go.Proofs.Ytepadejkeokbcaa
