/-
  In plain Lean: what the court is behind a trace that may be ('Good'), in the reference's words; a mark is answered alike.
-/
import Derived.Test.YtepadejkeokbcaaRefJ
namespace Go.Proofs.Ytepadejkeokbcaa

theorem other_other (k : Key) : k.other.other = k := by
  obtain ⟨h, o, p⟩ := k
  simp only [Key.other, Key.mk.injEq, and_true]
  omega

/-- What was sent and not used. -/
def pick : List Msg → List Bool → List Msg
  | s :: S, u :: U => if u = true then pick S U else s :: pick S U
  | _, _ => []
/-- Of the ordered ones of stream x the first n are used, and no other. -/
def ordered (x : Int) : List Msg → List Bool → Nat → Prop
  | s :: S, u :: U, n => if s.free = false ∧ s.stream = x then (match n with | 0 => u = false ∧ ordered x S U 0 | n + 1 => u = true ∧ ordered x S U n) else ordered x S U n
  | _, _, n => n = 0

theorem pick_cons (s : Msg) (S : List Msg) (u : Bool) (U : List Bool) : pick (s :: S) (u :: U) = if u = true then pick S U else s :: pick S U := rfl
theorem pick_append : ∀ (S : List Msg) (U : List Bool) (m : Msg), U.length = S.length → pick (S ++ [m]) (U ++ [false]) = pick S U ++ [m]
  | [], [], m, _ => rfl
  | s :: S, u :: U, m, h => by
    have ih := pick_append S U m (by simpa using h)
    simp only [List.cons_append, pick, ih]
    split <;> rfl
theorem ordered_append (x : Int) : ∀ (S : List Msg) (U : List Bool) (m : Msg) (n : Nat), U.length = S.length → ordered x S U n → ordered x (S ++ [m]) (U ++ [false]) n
  | [], [], m, n, _, h => by
    have h : n = 0 := h
    subst h
    show ordered x [m] [false] 0
    unfold ordered
    split
    · exact ⟨rfl, rfl⟩
    · exact rfl
  | s :: S, u :: U, m, n, hl, h => by
    have hl' : U.length = S.length := by simpa using hl
    simp only [List.cons_append]
    unfold ordered at h ⊢
    split
    · rename_i hc
      rw [if_pos hc] at h
      cases n with
      | zero => exact ⟨h.1, ordered_append x S U m 0 hl' h.2⟩
      | succ n => exact ⟨h.1, ordered_append x S U m n hl' h.2⟩
    · rename_i hc
      rw [if_neg hc] at h
      exact ordered_append x S U m n hl' h

/-- A message that is told: what 'scan' answers is what the reference says of what is left; and what it uses. -/
theorem scan_spec (m : Msg) (want : Nat) : ∀ (S : List Msg) (U : List Bool) (n i : Nat), U.length = S.length → (m.free = false → n ≤ want ∧ ordered m.stream S U (want - n)) →
    (scan m want S U n i).1 = oneScan m (pick S U) ∧ ((scan m want S U n i).2 = none → (scan m want S U n i).1 ≠ 0) ∧
    ∀ q, (scan m want S U n i).2 = some q → ∃ j, q = i + j ∧ (scan m want S U n i).1 = 0 ∧ pick S (U.set j true) = (pick S U).eraseP (fits m) ∧ (pick S U).any (fits m) = true ∧
      (m.free = false → ordered m.stream S (U.set j true) (want - n + 1)) ∧ (∀ x k, (m.free = true ∨ x ≠ m.stream) → ordered x S U k → ordered x S (U.set j true) k)
  | [], [], n, i, _, _ => by
    simp [scan, pick, oneScan]
  | s :: S, u :: U, n, i, hl, ho => by
    have hl' : U.length = S.length := by simpa using hl
    by_cases h1 : s.stream ≠ m.stream ∨ s.free ≠ m.free
    · have ho' : m.free = false → n ≤ want ∧ ordered m.stream S U (want - n) := fun hf => by
        obtain ⟨a, b⟩ := ho hf
        refine ⟨a, ?_⟩
        unfold ordered at b
        rw [if_neg (by rintro ⟨c1, c2⟩; rcases h1 with h | h; exact h c2; exact h (by rw [c1, hf]))] at b
        exact b
      have ih := scan_spec m want S U n (i + 1) hl' ho'
      have e : scan m want (s :: S) (u :: U) n i = scan m want S U n (i + 1) := by rw [scan, if_pos h1]
      have hfit : fits m s = false := by
        rcases h1 with h | h
        · simp [fits, h]
        · simp [fits, h]
      rw [e]
      refine ⟨?_, ih.2.1, fun q hq => ?_⟩
      · rw [ih.1]
        rw [pick_cons]
        cases u with
        | true => rfl
        | false =>
          simp only [Bool.false_eq_true, ↓reduceIte]
          rw [oneScan, if_pos (h1.symm)]
      · obtain ⟨j, e1, e2, e3, e4, e5, e6⟩ := ih.2.2 q hq
        refine ⟨j + 1, by omega, e2, ?_, ?_, fun hf => ?_, fun x k hx hk => ?_⟩
        · simp only [List.set_cons_succ, pick]
          cases u with
          | true => exact e3
          | false =>
            simp only [Bool.false_eq_true, ↓reduceIte]
            rw [List.eraseP_cons_of_neg (by simp [hfit]), e3]
        · rw [pick_cons]
          cases u with
          | true => exact e4
          | false => simp [hfit]; simpa using e4
        · simp only [List.set_cons_succ]
          unfold ordered
          rw [if_neg (by rintro ⟨c1, c2⟩; rcases h1 with h | h; exact h c2; exact h (by rw [c1, hf]))]
          exact e5 hf
        · simp only [List.set_cons_succ]
          unfold ordered at hk ⊢
          split
          · rename_i hc
            rw [if_pos hc] at hk
            cases k with
            | zero => exact ⟨hk.1, e6 x 0 hx hk.2⟩
            | succ k => exact ⟨hk.1, e6 x k hx hk.2⟩
          · rename_i hc
            rw [if_neg hc] at hk
            exact e6 x k hx hk
    · have hst : s.stream = m.stream := Classical.byContradiction fun h => h1 (.inl h)
      have hfr : s.free = m.free := Classical.byContradiction fun h => h1 (.inr h)
      cases hf : m.free with
      | true =>
        have hfs : s.free = true := by rw [hfr, hf]
        by_cases h2 : u = false ∧ s.alike m = true
        · obtain ⟨rfl, ha⟩ := h2
          have e : scan m want (s :: S) (false :: U) n i = (0, some i) := by rw [scan, if_neg h1, if_pos hf, if_pos ⟨rfl, ha⟩]
          have hfit : fits m s = true := by simp [fits, hst, hfr, ha]
          rw [e]
          refine ⟨?_, fun h => by simp at h, fun q hq => ?_⟩
          · simp only [pick, Bool.false_eq_true, ↓reduceIte]
            rw [oneScan, if_neg (fun h => h1 h.symm), if_pos ha]
          · have hq : i = q := Option.some.inj hq
            refine ⟨0, by omega, rfl, ?_, ?_, fun h => by simp at h, fun x k hx hk => ?_⟩
            · simp only [List.set_cons_zero, pick, Bool.false_eq_true, ↓reduceIte]
              rw [List.eraseP_cons_of_pos hfit]
            · simp [pick, hfit]
            · simp only [List.set_cons_zero]
              unfold ordered at hk ⊢
              rw [if_neg (by simp [hfs])] at hk ⊢
              exact hk
        · have e : scan m want (s :: S) (u :: U) n i = scan m want S U (n + 1) (i + 1) := by rw [scan, if_neg h1, if_pos hf, if_neg h2]
          have ih := scan_spec m want S U (n + 1) (i + 1) hl' (fun h => by rw [hf] at h; cases h)
          rw [e]
          refine ⟨?_, ih.2.1, fun q hq => ?_⟩
          · rw [ih.1]
            rw [pick_cons]
            cases u with
            | true => rfl
            | false =>
              simp only [Bool.false_eq_true, ↓reduceIte]
              rw [oneScan, if_neg (fun h => h1 h.symm), if_neg (fun h => h2 ⟨rfl, h⟩), if_neg (by simp [hf])]
          · obtain ⟨j, e1, e2, e3, e4, e5, e6⟩ := ih.2.2 q hq
            refine ⟨j + 1, by omega, e2, ?_, ?_, fun h => by simp at h, fun x k hx hk => ?_⟩
            · simp only [List.set_cons_succ, pick]
              cases u with
              | true => exact e3
              | false =>
                have hna : s.alike m = false := by
                  cases hh : s.alike m
                  · rfl
                  · exact absurd ⟨rfl, hh⟩ h2
                have hfit : fits m s = false := by simp [fits, hna, hfs]
                simp only [Bool.false_eq_true, ↓reduceIte]
                rw [List.eraseP_cons_of_neg (by simp [hfit]), e3]
            · rw [pick_cons]
              cases u with
              | true => exact e4
              | false => simp only [Bool.false_eq_true, ↓reduceIte, List.any_cons, e4, Bool.or_true]
            · simp only [List.set_cons_succ]
              unfold ordered at hk ⊢
              rw [if_neg (by simp [hfs])] at hk ⊢
              exact e6 x k (.inl hf) hk
      | false =>
        have hfs : s.free = false := by rw [hfr, hf]
        obtain ⟨hnw, hord⟩ := ho hf
        unfold ordered at hord
        rw [if_pos ⟨hfs, hst⟩] at hord
        by_cases h3 : n = want
        · subst h3
          rw [Nat.sub_self] at hord
          obtain ⟨rfl, hord0⟩ := hord
          have hfit : fits m s = true := by simp [fits, hst, hfr, hf]
          cases ha : s.alike m with
          | true =>
            have e : scan m n (s :: S) (false :: U) n i = (0, some i) := by rw [scan, if_neg h1, if_neg (by simp [hf]), if_pos rfl, if_pos ha]
            rw [e]
            refine ⟨?_, fun h => by simp at h, fun q hq => ?_⟩
            · simp only [pick, Bool.false_eq_true, ↓reduceIte]
              rw [oneScan, if_neg (fun h => h1 h.symm), if_pos ha]
            · have hq : i = q := Option.some.inj hq
              refine ⟨0, by omega, rfl, ?_, ?_, fun _ => ?_, fun x k hx hk => ?_⟩
              · simp only [List.set_cons_zero, pick, Bool.false_eq_true, ↓reduceIte]
                rw [List.eraseP_cons_of_pos hfit]
              · simp [pick, hfit]
              · simp only [List.set_cons_zero, Nat.sub_self]
                unfold ordered
                rw [if_pos ⟨hfs, hst⟩]
                exact ⟨rfl, hord0⟩
              · simp only [List.set_cons_zero]
                have hxs : x ≠ m.stream := hx.resolve_left (by simp)
                unfold ordered at hk ⊢
                rw [if_neg (fun c => hxs (by rw [← c.2, hst]))] at hk ⊢
                exact hk
          | false =>
            have e : scan m n (s :: S) (false :: U) n i = (4, none) := by rw [scan, if_neg h1, if_neg (by simp [hf]), if_pos rfl, if_neg (by simp [ha])]
            rw [e]
            refine ⟨?_, fun _ => by simp, fun q hq => by simp at hq⟩
            simp only [pick, Bool.false_eq_true, ↓reduceIte]
            rw [oneScan, if_neg (fun h => h1 h.symm), if_neg (by simp [ha]), if_pos hf]
        · obtain ⟨d, hd⟩ : ∃ d, want - n = d + 1 := ⟨want - n - 1, by omega⟩
          rw [hd] at hord
          obtain ⟨rfl, hord0⟩ := hord
          have hd' : want - (n + 1) = d := by omega
          have ih := scan_spec m want S U (n + 1) (i + 1) hl' (fun _ => ⟨by omega, by rw [hd']; exact hord0⟩)
          have e : scan m want (s :: S) (true :: U) n i = scan m want S U (n + 1) (i + 1) := by rw [scan, if_neg h1, if_neg (by simp [hf]), if_neg h3]
          rw [e]
          refine ⟨by rw [ih.1]; rfl, ih.2.1, fun q hq => ?_⟩
          obtain ⟨j, e1, e2, e3, e4, e5, e6⟩ := ih.2.2 q hq
          refine ⟨j + 1, by omega, e2, by simpa [pick] using e3, by simpa [pick] using e4, fun _ => ?_, fun x k hx hk => ?_⟩
          · simp only [List.set_cons_succ]
            unfold ordered
            rw [if_pos ⟨hfs, hst⟩, hd]
            refine ⟨rfl, ?_⟩
            have := e5 hf
            rwa [hd'] at this
          · simp only [List.set_cons_succ]
            have hxs : x ≠ m.stream := hx.resolve_left (by simp)
            unfold ordered at hk ⊢
            rw [if_neg (fun c => hxs (by rw [← c.2, hst]))] at hk ⊢
            exact e6 x k (.inr hxs) hk

end Go.Proofs.Ytepadejkeokbcaa
