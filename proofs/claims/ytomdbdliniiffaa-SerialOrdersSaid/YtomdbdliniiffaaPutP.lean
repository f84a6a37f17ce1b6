/-
  In plain Lean: a number put in its place; arithmetic of numbers that go round.
-/
import Derived.Test.YtomdbdliniiffaaSortP
import Derived.Test.YtomdbdliniiffaaSer
namespace Go.Proofs.Ytomdbdliniiffaa
open Go.RowKit

theorem met_nil (m f : Int) : Met m f [] [] := ⟨List.Pairwise.nil, fun _ => Iff.rfl⟩
theorem take_mem {l : List Int} {i : Nat} (h : i < l.length) (y : Int) : y ∈ l.take (i + 1) ↔ y ∈ l.take i ∨ y = l[i] := by
  rw [List.take_succ_eq_append_getElem h]
  simp only [List.mem_append, List.mem_cons, List.not_mem_nil, or_false]

theorem met_same {m f : Int} {l o : List Int} {i : Nat} (h : i < l.length) (ho : Met m f (l.take i) o) (hm : l[i] ∈ o) : Met m f (l.take (i + 1)) o := by
  refine ⟨ho.1, fun y => ?_⟩
  rw [take_mem h, ho.2 y]
  constructor
  · exact .inl
  · rintro (h1 | rfl)
    · exact h1
    · exact (ho.2 _).1 hm

theorem met_put {m f : Int} {l o : List Int} {i k : Nat} (hl : ∀ x ∈ l, 0 ≤ x ∧ x < m) (h : i < l.length) (ho : Met m f (l.take i) o) (hk : k ≤ o.length)
    (h1 : ∀ j (hj : j < k), far m f (o[j]'(by omega)) < far m f l[i]) (h2 : ∀ hj : k < o.length, ¬ far m f o[k] < far m f l[i] ∧ o[k] ≠ l[i]) : Met m f (l.take (i + 1)) (o.take k ++ (l[i] :: o.drop k)) := by
  have hin : ∀ y ∈ o, 0 ≤ y ∧ y < m := fun y hy => hl y (List.mem_of_mem_take ((ho.2 y).1 hy))
  have hx := hl _ (List.getElem_mem h)
  have hp := ho.1
  rw [← List.take_append_drop k o, List.pairwise_append] at hp
  obtain ⟨p1, p2, p3⟩ := hp
  have hlow : ∀ y ∈ o.take k, far m f y < far m f l[i] := fun y hy => by
    obtain ⟨j, hj, rfl⟩ := List.getElem_of_mem hy
    rw [List.getElem_take]
    exact h1 j (by rw [List.length_take] at hj; omega)
  have hhigh : ∀ y ∈ o.drop k, far m f l[i] < far m f y := fun y hy => by
    have hk' : k < o.length := by
      rcases Nat.lt_or_ge k o.length with h | h
      · exact h
      · rw [List.drop_eq_nil_of_le h] at hy; cases hy
    obtain ⟨g1, g2⟩ := h2 hk'
    have g3 : far m f l[i] < far m f o[k] := by
      rcases Int.lt_trichotomy (far m f l[i]) (far m f o[k]) with h | h | h
      · exact h
      · exact absurd (far_inj hx (hin _ (List.getElem_mem hk')) h).symm g2
      · exact absurd h g1
    rw [List.drop_eq_getElem_cons hk'] at hy p2
    rw [List.pairwise_cons] at p2
    rcases List.mem_cons.1 hy with rfl | hy
    · exact g3
    · exact Int.lt_trans g3 (p2.1 y hy)
  refine ⟨?_, fun y => ?_⟩
  · rw [List.pairwise_append, List.pairwise_cons]
    refine ⟨p1, ⟨hhigh, p2⟩, fun a ha b hb => ?_⟩
    rcases List.mem_cons.1 hb with rfl | hb
    · exact hlow a ha
    · exact p3 a ha b hb
  · rw [take_mem h, ← ho.2 y]
    have e : y ∈ o ↔ y ∈ o.take k ∨ y ∈ o.drop k := by
      rw [← List.mem_append, List.take_append_drop]
    rw [e, List.mem_append, List.mem_cons]
    constructor
    · rintro (h | h | h)
      · exact .inl (.inl h)
      · exact .inr h
      · exact .inl (.inr h)
    · rintro ((h | h) | h)
      · exact .inl h
      · exact .inr (.inr h)
      · exact .inr (.inl h)

/-- Sorted numbers, sorted again, stay. -/
theorem met_again {m f : Int} {l o : List Int} (h : Met m f l o) : Met m f o o := ⟨h.1, fun _ => Iff.rfl⟩
theorem met_count {m f : Int} {l o : List Int} (h : Met m f l o) {x : Int} (hx : x ∈ l) : o.count x = 1 := by
  have hn : o.Nodup := h.1.imp (fun {a b} hab e => by rw [e] at hab; exact Int.lt_irrefl _ hab)
  have hm := (h.2 x).2 hx
  have h1 := List.nodup_iff_count.1 hn x
  have h2 := List.count_pos_iff.2 hm
  omega
theorem met_length {m f : Int} {l o : List Int} (h : Met m f l o) : o.length ≤ l.length := by
  have hn : o.Nodup := h.1.imp (fun {a b} hab e => by rw [e] at hab; exact Int.lt_irrefl _ hab)
  have key : ∀ (o l : List Int), o.Nodup → (∀ y ∈ o, y ∈ l) → o.length ≤ l.length := fun o => by
    induction o with
    | nil => intro l _ _; simp
    | cons a o ih =>
      intro l hn hs
      rw [List.nodup_cons] at hn
      have ha := hs a (by simp)
      have := ih (l.erase a) hn.2 (fun y hy => by
        have hne : y ≠ a := fun e => hn.1 (e ▸ hy)
        exact (List.mem_erase_of_ne hne).2 (hs y (List.mem_cons_of_mem _ hy)))
      rw [List.length_erase_of_mem ha] at this
      have hpos := List.length_pos_of_mem ha
      simp only [List.length_cons]
      omega
  exact key o l hn fun y hy => (h.2 y).1 hy

/-! ### Numbers that go round -/
def addBy (bits a n : Int) : Int := (a + n) % mOf bits
def lessB (bits a b : Int) : Bool := decide (0 < aheadBy bits a b)

theorem addBy_in (bits a n : Int) : 0 ≤ addBy bits a n ∧ addBy bits a n < mOf bits := by
  unfold addBy
  have hm : 0 < mOf bits := by rcases mOf_cases bits with h | h <;> omega
  exact ⟨Int.emod_nonneg _ (by omega), Int.emod_lt_of_pos _ hm⟩

end Go.Proofs.Ytomdbdliniiffaa
