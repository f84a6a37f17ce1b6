/-
  The runs of a rising list, in plain Lean.
-/
import Derived.Test.YthdcodjdecnniaaPlain
namespace Go.Proofs.Ythdcodjdecnniaa

def runsOf : List Int → List (Int × Int)
  | [] => []
  | x :: xs => match runsOf xs with
    | [] => [(x, x)]
    | (a, b) :: rs => if a = x + 1 then (x, b) :: rs else (x, x) :: (a, b) :: rs

theorem runsOf_nil {l : List Int} : runsOf l = [] ↔ l = [] := by
  cases l with
  | nil => simp [runsOf]
  | cons x xs =>
    simp only [runsOf]
    split
    · simp
    · split <;> simp

theorem runsOf_head (x : Int) (xs : List Int) : ∃ b rs, runsOf (x :: xs) = (x, b) :: rs := by
  simp only [runsOf]
  split
  · exact ⟨_, _, rfl⟩
  · split
    · exact ⟨_, _, rfl⟩
    · exact ⟨_, _, rfl⟩

/-- One goes on: the run grows. -/
theorem runsOf_grow {x b : Int} {xs : List Int} {rs : List (Int × Int)} (h : runsOf xs = (x + 1, b) :: rs) : runsOf (x :: xs) = (x, b) :: rs := by
  simp [runsOf, h]
/-- A gap: a run of its own. -/
theorem runsOf_gap {x : Int} {xs : List Int} (h : ∀ y ys, xs = y :: ys → y ≠ x + 1) : runsOf (x :: xs) = (x, x) :: runsOf xs := by
  cases xs with
  | nil => simp [runsOf]
  | cons y ys =>
    obtain ⟨b, rs, e⟩ := runsOf_head y ys
    have := h y ys rfl
    rw [runsOf, e]
    simp [this]

def since (f : Int) (l : List Int) : List Int := l.filter fun x => decide (f ≤ x)
theorem mem_since {f x : Int} {l : List Int} : x ∈ since f l ↔ x ∈ l ∧ f ≤ x := by simp [since]

theorem since_mem {f : Int} : ∀ {l : List Int}, l.Pairwise (· < ·) → f ∈ l → since f l = f :: since (f + 1) l
  | [], _, h => by cases h
  | x :: l, hp, h => by
    obtain ⟨h1, h2⟩ := List.pairwise_cons.1 hp
    rcases List.mem_cons.1 h with rfl | h
    · have e1 : since f (f :: l) = f :: since f l := by simp [since]
      have e2 : since (f + 1) (f :: l) = since (f + 1) l := by simp only [since]; rw [List.filter_cons_of_neg (by simp; omega)]
      have e3 : since f l = since (f + 1) l := by
        apply List.filter_congr
        intro y hy
        have := h1 y hy
        simp only [decide_eq_decide]
        omega
      rw [e1, e2, e3]
    · have := h1 f h
      have e1 : since f (x :: l) = since f l := by simp only [since]; rw [List.filter_cons_of_neg (by simp; omega)]
      have e2 : since (f + 1) (x :: l) = since (f + 1) l := by simp only [since]; rw [List.filter_cons_of_neg (by simp; omega)]
      rw [e1, e2, since_mem h2 h]

theorem since_not {f : Int} {l : List Int} (h : f ∉ l) : since f l = since (f + 1) l := by
  apply List.filter_congr
  intro y hy
  have : y ≠ f := fun e => h (e ▸ hy)
  simp only [decide_eq_decide]
  omega

theorem since_all {f : Int} {l : List Int} (h : ∀ x ∈ l, f ≤ x) : since f l = l := by
  apply List.filter_eq_self.2
  intro x hx
  simpa using h x hx
theorem since_none {f : Int} {l : List Int} (h : ∀ x ∈ l, x < f) : since f l = [] := by
  apply List.filter_eq_nil_iff.2
  intro x hx
  have := h x hx
  simp; omega

theorem runs_gap {l : List Int} (hp : l.Pairwise (· < ·)) : ∀ (m : Nat) (f : Int), (∀ j : Nat, j ≤ m → f + j ∈ l) → f + m + 1 ∉ l → runsOf (since f l) = (f, f + m) :: runsOf (since (f + m + 2) l)
  | 0, f, h, hn => by
    have hf : f ∈ l := by have := h 0 (by omega); simpa using this
    rw [since_mem hp hf, since_not (f := f + 1) (by simpa using hn)]
    rw [runsOf_gap]
    · simp; congr 2; omega
    · intro y ys e
      have : y ∈ since (f + 1 + 1) l := by rw [e]; simp
      have := (mem_since.1 this).2
      omega
  | m + 1, f, h, hn => by
    have hf : f ∈ l := by have := h 0 (by omega); simpa using this
    have ih := runs_gap hp m (f + 1) (fun j hj => by have := h (j + 1) (by omega); rw [show f + 1 + (j : Int) = f + ((j + 1 : Nat) : Int) by omega]; exact this) (by rw [show f + 1 + (m : Int) + 1 = f + ((m + 1 : Nat) : Int) + 1 by omega]; exact hn)
    rw [since_mem hp hf, runsOf_grow ih]
    rw [show f + 1 + (m : Int) = f + ((m + 1 : Nat) : Int) by omega]

/-- What is in a run was taken; the runs' last one ends at the last. -/
theorem runsOf_last : ∀ (l : List Int), (runsOf l).getLast?.map (·.2) = l.getLast?
  | [] => rfl
  | [x] => rfl
  | x :: y :: ys => by
    have ih := runsOf_last (y :: ys)
    rw [List.getLast?_cons_cons, ← ih]
    obtain ⟨b, rs, e⟩ := runsOf_head y ys
    by_cases hy : y = x + 1
    · subst hy
      rw [runsOf_grow e, e]
      cases rs <;> simp [List.getLast?_cons_cons]
    · rw [runsOf_gap (fun z zs h => by cases h; exact hy), e]
      simp [List.getLast?_cons_cons]

theorem runsOf_mem : ∀ {l : List Int} {r : Int × Int}, r ∈ runsOf l → r.1 ∈ l ∧ r.2 ∈ l
  | [], _, h => by simp [runsOf] at h
  | x :: xs, r, h => by
    have ih : ∀ r ∈ runsOf xs, r.1 ∈ xs ∧ r.2 ∈ xs := fun r hr => runsOf_mem hr
    rw [runsOf] at h
    split at h
    · simp at h; subst h; simp
    · rename_i a b rs e
      have hab := ih (a, b) (by rw [e]; simp)
      split at h
      · rcases List.mem_cons.1 h with rfl | h
        · exact ⟨by simp, by simp [hab.2]⟩
        · have := ih r (by rw [e]; simp [h]); simp [this]
      · rcases List.mem_cons.1 h with rfl | h
        · simp
        · have := ih r (by rw [e]; exact h); simp [this]

end Go.Proofs.Ythdcodjdecnniaa
