/-
  In plain Lean: numbers in the order in which they are met, each once.
-/
import Derived.Test.YtomdbdliniiffaaBase
namespace Go.Proofs.Ytomdbdliniiffaa

/-- How far x is behind f. -/
def far (m f x : Int) : Int := (x - f) % m

/-- Each once, in the order in which they stand. -/
def ded (l : List Int) : List Int := l.foldl (fun o x => if x ∈ o then o else o ++ [x]) []

theorem ded_mem_from (l : List Int) : ∀ (o : List Int) (y : Int), y ∈ l.foldl (fun o x => if x ∈ o then o else o ++ [x]) o ↔ y ∈ o ∨ y ∈ l := by
  induction l with
  | nil => intro o y; simp
  | cons x l ih =>
    intro o y
    rw [List.foldl_cons, ih]
    split
    · rename_i h
      simp only [List.mem_cons]
      constructor
      · rintro (h1 | h1)
        · exact .inl h1
        · exact .inr (.inr h1)
      · rintro (h1 | rfl | h1)
        · exact .inl h1
        · exact .inl h
        · exact .inr h1
    · simp only [List.mem_append, List.mem_cons, List.not_mem_nil, or_false, or_assoc]
theorem mem_ded {l : List Int} {y : Int} : y ∈ ded l ↔ y ∈ l := by
  unfold ded
  rw [ded_mem_from]
  simp
theorem ded_nodup_from (l : List Int) : ∀ (o : List Int), o.Nodup → (l.foldl (fun o x => if x ∈ o then o else o ++ [x]) o).Nodup := by
  induction l with
  | nil => intro o h; exact h
  | cons x l ih =>
    intro o h
    rw [List.foldl_cons]
    refine ih _ ?_
    split
    · exact h
    · rename_i hx
      rw [List.nodup_append]
      refine ⟨h, by simp, fun a ha b hb e => ?_⟩
      simp only [List.mem_cons, List.not_mem_nil, or_false] at hb
      rw [e, hb] at ha
      exact hx ha
theorem nodup_ded (l : List Int) : (ded l).Nodup := ded_nodup_from l [] List.nodup_nil
theorem ded_step {l : List Int} {k : Nat} (h : k < l.length) : ded (l.take (k + 1)) = if l[k] ∈ ded (l.take k) then ded (l.take k) else ded (l.take k) ++ [l[k]] := by
  unfold ded
  rw [List.take_succ_eq_append_getElem h, List.foldl_append]
  rfl
theorem ded_length_from (l : List Int) : ∀ (o : List Int), (l.foldl (fun o x => if x ∈ o then o else o ++ [x]) o).length ≤ o.length + l.length := by
  induction l with
  | nil => intro o; simp
  | cons x l ih =>
    intro o
    rw [List.foldl_cons]
    refine Nat.le_trans (ih _) ?_
    split
    · simp
    · simp; omega
theorem ded_length (l : List Int) : (ded l).length ≤ l.length := by
  have := ded_length_from l []
  simpa [ded] using this

/-- 'o' has the numbers of 'l', each once, in the order in which they are met from 'f' on. -/
def Met (m f : Int) (l o : List Int) : Prop := o.Pairwise (fun a b => far m f a < far m f b) ∧ ∀ y, y ∈ o ↔ y ∈ l

theorem pair_unique {m f : Int} : ∀ {o p : List Int}, o.Pairwise (fun a b => far m f a < far m f b) → p.Pairwise (fun a b => far m f a < far m f b) → (∀ y, y ∈ o ↔ y ∈ p) → o = p
  | [], [], _, _, _ => rfl
  | [], b :: p, _, _, h => absurd ((h b).2 (by simp)) (by simp)
  | a :: o, [], _, _, h => absurd ((h a).1 (by simp)) (by simp)
  | a :: o, b :: p, ho, hp, h => by
    rw [List.pairwise_cons] at ho hp
    have hab : a = b := by
      rcases List.mem_cons.1 ((h a).1 (by simp)) with e | e
      · exact e
      · rcases List.mem_cons.1 ((h b).2 (by simp)) with e' | e'
        · exact e'.symm
        · have h1 := hp.1 a e
          have h2 := ho.1 b e'
          omega
    subst hab
    rw [pair_unique ho.2 hp.2 (fun y => ⟨fun hy => ?_, fun hy => ?_⟩)]
    · rcases List.mem_cons.1 ((h y).1 (List.mem_cons_of_mem _ hy)) with e | e
      · have := ho.1 y hy
        rw [e] at this
        omega
      · exact e
    · rcases List.mem_cons.1 ((h y).2 (List.mem_cons_of_mem _ hy)) with e | e
      · have := hp.1 y hy
        rw [e] at this
        omega
      · exact e
theorem Met.unique {m f : Int} {l o p : List Int} (ho : Met m f l o) (hp : Met m f l p) : o = p :=
  pair_unique ho.1 hp.1 fun y => (ho.2 y).trans (hp.2 y).symm

/-- Of numbers below m, no two are as far. -/
theorem far_inj {m f x y : Int} (hx : 0 ≤ x ∧ x < m) (hy : 0 ≤ y ∧ y < m) (h : far m f x = far m f y) : x = y := by
  unfold far at h
  have h1 : (x - y) % m = 0 := by
    have e : x - y = (x - f) - (y - f) := by omega
    rw [e, Int.sub_emod, h, Int.sub_self]
    exact Int.zero_emod m
  have h2 := Int.emod_add_mul_ediv (x - y) m
  rw [h1] at h2
  have h3 : m * ((x - y) / m) = x - y := by omega
  have h4 : (x - y) / m = 0 := by
    generalize (x - y) / m = q at h3
    rcases Int.lt_trichotomy q 0 with h | h | h
    · have : m * q ≤ m * (-1) := Int.mul_le_mul_of_nonneg_left (by omega) (by omega)
      omega
    · exact h
    · have : m * 1 ≤ m * q := Int.mul_le_mul_of_nonneg_left (by omega) (by omega)
      omega
  rw [h4] at h3
  simp at h3
  omega

/-- Sorted numbers, each once: met in this order. -/
theorem met_of {m f : Int} {l o : List Int} (hl : ∀ x ∈ l, 0 ≤ x ∧ x < m) (hp : o.Perm (ded l)) (hs : o.Pairwise (fun a b => ¬ far m f b < far m f a)) : Met m f l o := by
  have hm : ∀ y, y ∈ o ↔ y ∈ l := fun y => hp.mem_iff.trans mem_ded
  refine ⟨?_, hm⟩
  have hn : o.Pairwise (· ≠ ·) := (hp.nodup_iff.2 (nodup_ded l))
  refine (List.Pairwise.and hn hs).imp_of_mem (fun {a b} ha hb hh => ?_)
  have h1 := hl a ((hm a).1 ha)
  have h2 := hl b ((hm b).1 hb)
  rcases Int.lt_trichotomy (far m f a) (far m f b) with h | h | h
  · exact h
  · exact absurd (far_inj h1 h2 h) hh.1
  · exact absurd h hh.2

end Go.Proofs.Ytomdbdliniiffaa
