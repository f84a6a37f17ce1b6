/-
  The law GapsBlocks: what it returns.
-/
import Derived.Test.YthdcodjdecnniaaPlay
import Derived.Test.YthdcodjdecnniaaLive
namespace Go.Proofs.Ythdcodjdecnniaa
open Go.RowKit

/-- Runs behind 'at', with a gap ahead of each; they have just what far has. -/
def Chain (far : List Int) : Int → List (Int × Int) → Prop
  | _, [] => True
  | at', r :: rs => at' + 2 ≤ r.1 ∧ r.1 ≤ r.2 ∧ r.2 ≤ 256 ∧ (∀ k, at' < k → k < r.1 → k ∉ far) ∧ (∀ k, r.1 ≤ k → k ≤ r.2 → k ∈ far) ∧ Chain far r.2 rs

theorem chain_cons {x : Int} {xs : List Int} : ∀ {rs : List (Int × Int)} {b : Int}, x ≤ b → Chain xs b rs → Chain (x :: xs) b rs
  | [], _, _, _ => trivial
  | r :: rs, b, hb, ⟨h1, h2, h3, h4, h5, h6⟩ => ⟨h1, h2, h3, fun k k1 k2 hm => (List.mem_cons.1 hm).elim (fun e => by omega) (h4 k k1 k2), fun k k1 k2 => List.mem_cons.2 (.inr (h5 k k1 k2)), chain_cons (by omega) h6⟩

theorem chain_runs : ∀ (l : List Int) (at' : Int), Rising (at' + 2) l → Chain l at' (runsOf l)
  | [], _, _ => trivial
  | [x], at', h => by
    obtain ⟨_, _, h3, h4⟩ := rising_cons h
    exact ⟨h3, Int.le_refl _, h4, fun k k1 k2 hm => by rw [List.mem_singleton] at hm; omega, fun k k1 k2 => by rw [List.mem_singleton]; omega, trivial⟩
  | x :: y :: ys, at', h => by
    obtain ⟨h1, h2, h3, h4⟩ := rising_cons h
    have hxy := h1 y (by simp)
    by_cases hy : y = x + 1
    · subst hy
      have hr : Rising (x - 1 + 2) ((x + 1) :: ys) := ⟨h2.1, fun n hn => by have := h1 n hn; have := h2.2 n hn; omega⟩
      have ih := chain_runs ((x + 1) :: ys) (x - 1) hr
      obtain ⟨b, rs, e⟩ := runsOf_head (x + 1) ys
      rw [e] at ih
      obtain ⟨i1, i2, i3, i4, i5, i6⟩ := ih
      rw [runsOf_grow e]
      simp only at i2
      refine ⟨h3, by simp only; omega, i3, fun k k1 k2 hm => ?_, fun k k1 k2 => ?_, chain_cons (by simp only; omega) i6⟩
      · simp only at k2
        rcases List.mem_cons.1 hm with e | hm
        · omega
        · have := h1 k hm; omega
      · simp only at k1 k2
        by_cases hk : k = x
        · rw [hk]; simp
        · exact List.mem_cons.2 (.inr (i5 k (by simp only; omega) k2))
    · have hr : Rising (x + 2) (y :: ys) := ⟨h2.1, fun n hn => by
        have := h2.2 n hn
        rcases List.mem_cons.1 hn with e | hn'
        · omega
        · have := (List.pairwise_cons.1 h2.1).1 n hn'; omega⟩
      have ih := chain_runs (y :: ys) x hr
      rw [runsOf_gap (fun z zs e => by cases e; exact hy)]
      refine ⟨h3, Int.le_refl _, h4, fun k k1 k2 hm => ?_, fun k k1 k2 => ?_, chain_cons (Int.le_refl _) ih⟩
      · simp only at k2
        rcases List.mem_cons.1 hm with e | hm
        · omega
        · have := h1 k hm; omega
      · simp only at k1 k2
        have : k = x := by omega
        rw [this]; simp

theorem chain_take {far : List Int} : ∀ {rs : List (Int × Int)} {at' : Int} (n : Nat), Chain far at' rs → Chain far at' (rs.take n)
  | [], _, n, h => by simpa using h
  | r :: rs, _, 0, _ => trivial
  | r :: rs, _, n + 1, ⟨h1, h2, h3, h4, h5, h6⟩ => ⟨h1, h2, h3, h4, h5, chain_take n h6⟩

theorem chain_at {far : List Int} : ∀ {rs : List (Int × Int)} {at' : Int} (i : Nat), 0 ≤ at' → at' ≤ 256 → Chain far at' rs → i ≤ rs.length →
    Chain far ((rs.take i).getLast?.elim at' (·.2)) (rs.drop i) ∧ 0 ≤ (rs.take i).getLast?.elim at' (·.2) ∧ (rs.take i).getLast?.elim at' (·.2) ≤ 256
  | rs, at', 0, h0, h1, h, _ => by simpa using ⟨h, h0, h1⟩
  | [], at', i + 1, _, _, _, hi => by simp at hi
  | r :: rs, at', i + 1, h0, h1, ⟨g1, g2, g3, g4, g5, g6⟩, hi => by
    have := chain_at (rs := rs) (at' := r.2) i (by omega) g3 g6 (by simpa using hi)
    simp only [List.take_succ_cons, List.drop_succ_cons]
    cases hl : (rs.take i).getLast? with
    | none =>
      have e : rs.take i = [] := List.getLast?_eq_none_iff.1 hl
      rw [hl] at this
      rw [e]
      simpa using this
    | some z =>
      rw [hl] at this
      rw [List.getLast?_cons, hl]
      simpa using this

def atOf (rs : List (Int × Int)) : Int := rs.getLast?.elim 0 (·.2)
theorem atOf_last (rs : List (Int × Int)) : atOf rs = lastOf rs := by
  unfold atOf lastOf
  cases rs.getLast? <;> rfl
theorem atOf_snoc (rs : List (Int × Int)) (r : Int × Int) : atOf (rs ++ [r]) = r.2 := by simp [atOf]

theorem chain_get {far : List Int} {rs : List (Int × Int)} (h : Chain far 0 rs) {i : Nat} (hi : i < rs.length) :
    atOf (rs.take i) + 2 ≤ rs[i].1 ∧ rs[i].1 ≤ rs[i].2 ∧ rs[i].2 ≤ 256 ∧ (∀ k, atOf (rs.take i) < k → k < rs[i].1 → k ∉ far) ∧ (∀ k, rs[i].1 ≤ k → k ≤ rs[i].2 → k ∈ far) ∧ 0 ≤ atOf (rs.take i) := by
  obtain ⟨h1, h2, h3⟩ := chain_at i (Int.le_refl 0) (by omega) h (by omega)
  rw [List.drop_eq_getElem_cons hi] at h1
  obtain ⟨g1, g2, g3, g4, g5, _⟩ := h1
  exact ⟨g1, g2, g3, g4, g5, h2⟩

/-- A number so far ahead: was it taken? -/
theorem has_ahead {t : T} (h : t.ok) {k : Int} (h1 : 1 ≤ k) (h2 : k ≤ 256) : t.has ((t.cum + k) % 4294967296) = decide (k ∈ t.far) := by
  have hm : mOf 32 = 4294967296 := rfl
  have h0 := h.cum0
  have hc := h.cum1
  have e : aheadBy 32 t.cum ((t.cum + k) % 4294967296) = k := by
    have e : ((t.cum + k) % 4294967296 - t.cum) % 4294967296 = k := by omega
    simp only [aheadBy, hm, e]
    split <;> omega
  rw [T.has, e]
  have : decide (k ≤ 0) = false := decide_eq_false (by omega)
  rw [this, Bool.false_or]

end Go.Proofs.Ythdcodjdecnniaa
