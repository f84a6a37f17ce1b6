/-
  In plain Lean: the runs of numbers.
-/
import Derived.Test.YtomdbdliniiffaaBase
namespace Go.Proofs.Ytomdbdliniiffaa

def spanStep (m : Int) (o : List (Int × Int)) (x : Int) : List (Int × Int) :=
  match o.getLast? with
  | some p => if (p.2 + 1) % m = x then o.dropLast ++ [(p.1, x)] else o ++ [(x, x)]
  | none => [(x, x)]
def runs (m : Int) (l : List Int) : List (Int × Int) := l.foldl (spanStep m) []

theorem runs_step (m : Int) {l : List Int} {k : Nat} (h : k < l.length) : runs m (l.take (k + 1)) = spanStep m (runs m (l.take k)) l[k] := by
  unfold runs
  rw [List.take_succ_eq_append_getElem h, List.foldl_append]
  rfl
theorem span_nil (m x : Int) : spanStep m [] x = [(x, x)] := rfl
theorem span_more {m x : Int} {o : List (Int × Int)} {p : Int × Int} (h : (p.2 + 1) % m = x) : spanStep m (o ++ [p]) x = o ++ [(p.1, x)] := by
  simp [spanStep, h]
theorem span_new {m x : Int} {o : List (Int × Int)} {p : Int × Int} (h : ¬ (p.2 + 1) % m = x) : spanStep m (o ++ [p]) x = o ++ [p] ++ [(x, x)] := by
  simp [spanStep, h]
theorem snoc_of {α : Type} {o : List α} (h : o ≠ []) : ∃ o' p, o = o' ++ [p] := ⟨o.dropLast, o.getLast h, (List.dropLast_concat_getLast h).symm⟩

theorem span_last (m : Int) (o : List (Int × Int)) (x : Int) : ∃ o' p, spanStep m o x = o' ++ [(p, x)] := by
  by_cases h : o = []
  · subst h; exact ⟨[], x, rfl⟩
  · obtain ⟨o', p, rfl⟩ := snoc_of h
    by_cases h1 : (p.2 + 1) % m = x
    · exact ⟨o', p.1, span_more h1⟩
    · exact ⟨o' ++ [p], x, span_new h1⟩
theorem runs_last (m : Int) {l : List Int} {k : Nat} (h : k < l.length) : ∃ o' p, runs m (l.take (k + 1)) = o' ++ [(p, l[k])] := by
  rw [runs_step m h]
  exact span_last m _ _
theorem runs_length (m : Int) (l : List Int) : (runs m l).length ≤ l.length := by
  have key : ∀ (l : List Int) (o : List (Int × Int)), (l.foldl (spanStep m) o).length ≤ o.length + l.length := fun l => by
    induction l with
    | nil => intro o; simp
    | cons x l ih =>
      intro o
      rw [List.foldl_cons]
      refine Nat.le_trans (ih _) ?_
      have : (spanStep m o x).length ≤ o.length + 1 := by
        by_cases h : o = []
        · subst h; simp [span_nil]
        · obtain ⟨o', p, rfl⟩ := snoc_of h
          by_cases h1 : (p.2 + 1) % m = x
          · rw [span_more h1]; simp
          · rw [span_new h1]; simp
      rw [List.length_cons]
      omega
  have := key l []
  simpa [runs] using this

/-- The reference's way: a new run. -/
theorem runs_begin {m : Int} {l : List Int} {i : Nat} (h : i < l.length) (hn : ∀ j (hj : j + 1 = i), ¬ (l[j] + 1) % m = l[i]) : runs m (l.take (i + 1)) = runs m (l.take i) ++ [(l[i], l[i])] := by
  rw [runs_step m h]
  cases i with
  | zero => rfl
  | succ j =>
    obtain ⟨o', p, e⟩ := runs_last m (l := l) (k := j) (by omega)
    rw [e, span_new]
    exact hn j rfl
/-- The reference's way: a run goes on. -/
theorem runs_on {m : Int} {l : List Int} {k : Nat} {o : List (Int × Int)} {p : Int} (h : k + 1 < l.length) (he : runs m (l.take (k + 1)) = o ++ [(p, l[k])]) (hc : (l[k] + 1) % m = l[k + 1]) : runs m (l.take (k + 2)) = o ++ [(p, l[k + 1])] := by
  rw [show k + 2 = (k + 1) + 1 from rfl, runs_step m h, he, span_more hc]

/-- These runs lie in l from s up to e. -/
def Laid (m : Int) (l : List Int) : List (Int × Int) → Nat → Nat → Prop
  | [], s, e => s = e
  | p :: o, s, e => ∃ c, 0 < c ∧ s + c ≤ e ∧ (∀ j : Nat, j < c → l[s + j]? = some ((p.1 + j) % m)) ∧ p.2 = (p.1 + (c - 1 : Nat)) % m ∧ Laid m l o (s + c) e

theorem Laid.le {m : Int} {l : List Int} : ∀ {o : List (Int × Int)} {s e : Nat}, Laid m l o s e → s ≤ e
  | [], s, e, h => Nat.le_of_eq h
  | p :: o, s, e, ⟨c, h0, h1, _⟩ => by omega
theorem laid_join {m : Int} {l : List Int} : ∀ {o q : List (Int × Int)} {s t e : Nat}, Laid m l o s t → Laid m l q t e → Laid m l (o ++ q) s e
  | [], q, s, t, e, h1, h2 => by
    have h1 : s = t := h1
    subst h1
    exact h2
  | p :: o, q, s, t, e, ⟨c, h0, h1, h2, h3, h4⟩, h5 => ⟨c, h0, by have := h5.le; omega, h2, h3, laid_join h4 h5⟩
theorem laid_part {m : Int} {l : List Int} : ∀ {o q : List (Int × Int)} {s e : Nat}, Laid m l (o ++ q) s e → ∃ t, Laid m l o s t ∧ Laid m l q t e
  | [], q, s, e, h => ⟨s, rfl, h⟩
  | p :: o, q, s, e, ⟨c, h0, h1, h2, h3, h4⟩ => by
    obtain ⟨t, h5, h6⟩ := laid_part h4
    exact ⟨t, ⟨c, h0, by have := h5.le; omega, h2, h3, h5⟩, h6⟩

theorem runs_laid {m : Int} {l : List Int} (hl : ∀ x ∈ l, 0 ≤ x ∧ x < m) : ∀ k, k ≤ l.length → Laid m l (runs m (l.take k)) 0 k
  | 0, _ => rfl
  | k + 1, hk => by
    have hk' : k < l.length := by omega
    have ih := runs_laid hl k (by omega)
    have hx := hl _ (List.getElem_mem hk')
    have hg : l[k]? = some l[k] := List.getElem?_eq_getElem hk'
    rw [runs_step m hk']
    generalize l[k] = x at *
    have hone : Laid m l [(x, x)] k (k + 1) := ⟨1, by omega, by omega, fun j hj => by
      obtain rfl : j = 0 := by omega
      rw [Nat.add_zero, hg]
      simp [Int.emod_eq_of_lt hx.1 hx.2], by simp [Int.emod_eq_of_lt hx.1 hx.2], rfl⟩
    by_cases h : runs m (l.take k) = []
    · rw [h] at ih ⊢
      have ih : 0 = k := ih
      subst ih
      exact hone
    · obtain ⟨o, p, e⟩ := snoc_of h
      rw [e] at ih ⊢
      by_cases h1 : (p.2 + 1) % m = x
      · rw [span_more h1]
        obtain ⟨t, h2, c, h3, h4, h5, h6, h7⟩ := laid_part ih
        have h7 : t + c = k := h7
        subst h7
        refine laid_join h2 ⟨c + 1, by omega, by omega, fun j hj => ?_, ?_, rfl⟩
        · by_cases hj' : j < c
          · exact h5 j hj'
          · obtain rfl : j = c := by omega
            rw [hg, ← h1, h6]
            congr 1
            rw [Int.emod_add_emod]
            congr 1
            omega
        · show x = _
          rw [← h1, h6, Int.emod_add_emod]
          congr 1
          omega
      · rw [span_new h1]
        exact laid_join ih hone

end Go.Proofs.Ytomdbdliniiffaa
