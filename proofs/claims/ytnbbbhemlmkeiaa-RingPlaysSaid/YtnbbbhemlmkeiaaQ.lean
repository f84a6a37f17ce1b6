/-
  The ring as a queue, in plain Lean: how many descriptors, where the next one to be given back stands, how many are taken, what is filled; whose each descriptor is; what a deed does to it. No program.
-/
import Derived.Test.YtnbbbhemlmkeiaaStep
namespace Go.Proofs.Ytnbbbhemlmkeiaa
open Go.RowKit

structure Q where
  n : Nat
  r : Nat
  out : Nat
  full : List (List Int)
  dropped : Nat

/-- The place c behind r, round the ring. -/
def idx (n r c : Nat) : Nat := if r + c < n then r + c else r + c - n
theorem idx_next {n r c : Nat} (hr : r < n) (hc : c < n) : idx n r (c + 1) = next n (idx n r c) := by
  unfold next
  by_cases h1 : r + c < n
  · have e : idx n r c = r + c := if_pos h1
    rw [e]; unfold idx; repeat' split
    all_goals omega
  · have e : idx n r c = r + c - n := if_neg h1
    rw [e]; unfold idx; repeat' split
    all_goals omega
/-- How far i stands behind r, round the ring. -/
def dist (n r i : Nat) : Nat := if r ≤ i then i - r else i + n - r

def Q.own (q : Q) (i : Nat) : Nat := if dist q.n q.r i < q.out then 2 else if dist q.n q.r i < q.out + q.full.length then 1 else 0

structure Q.ok (q : Q) : Prop where
  pos : 1 ≤ q.n
  le : q.n ≤ 64
  r : q.r < q.n
  fit : q.out + q.full.length ≤ q.n
  len : ∀ xs ∈ q.full, 1 ≤ xs.length ∧ xs.length ≤ 1514
  drop : q.dropped ≤ 1000000

def Q.filled (q : Q) (bs : List Int) : Q := { q with full := q.full ++ [bs] }
def Q.missed (q : Q) : Q := { q with dropped := q.dropped + 1 }
def Q.taken (q : Q) : Q := { q with full := q.full.tail, out := q.out + 1 }
def Q.given (q : Q) : Q := { q with out := q.out - 1, r := next q.n q.r }

def Q.takeIx (q : Q) : Nat := idx q.n q.r q.out
def Q.fillIx (q : Q) : Nat := idx q.n q.r (q.out + q.full.length)

section
variable {q : Q} (h : q.ok)
include h

theorem Q.ok.fillIx_lt : q.fillIx < q.n := by
  have := h.pos; have := h.r; have := h.fit
  unfold Q.fillIx idx; split <;> omega
theorem Q.ok.takeIx_lt : q.takeIx < q.n := by
  have := h.pos; have := h.r; have := h.fit
  unfold Q.takeIx idx; split <;> omega

theorem Q.ok.own_fill (hf : q.out + q.full.length < q.n) : q.own q.fillIx = 0 := by
  have := h.pos; have := h.r
  unfold Q.own Q.fillIx dist idx; repeat' split
  all_goals omega
theorem Q.ok.own_full (hf : ¬ q.out + q.full.length < q.n) (i : Nat) (hi : i < q.n) : q.own i ≠ 0 := by
  have := h.pos; have := h.r; have := h.fit
  unfold Q.own dist; repeat' split
  all_goals omega
theorem Q.ok.own_filled (hf : q.out + q.full.length < q.n) (bs : List Int) (i : Nat) (hi : i < q.n) : (q.filled bs).own i = if i = q.fillIx then 1 else q.own i := by
  have := h.pos; have := h.r
  simp only [Q.own, Q.filled, List.length_append, List.length_singleton]
  unfold Q.fillIx dist idx; repeat' split
  all_goals omega
theorem Q.ok.filled (hf : q.out + q.full.length < q.n) {bs : List Int} (h1 : 1 ≤ bs.length) (h2 : bs.length ≤ 1514) : (q.filled bs).ok :=
  ⟨h.pos, h.le, h.r, by simp [Q.filled]; omega, fun xs hx => by
    rcases List.mem_append.1 hx with hx | hx
    · exact h.len xs hx
    · rw [List.mem_singleton] at hx; subst hx; exact ⟨h1, h2⟩, h.drop⟩
theorem Q.fillIx_filled (hf : q.out + q.full.length < q.n) (bs : List Int) : (q.filled bs).fillIx = next q.n q.fillIx := by
  have := h.pos; have := h.r
  simp only [Q.fillIx, Q.filled, idx, next, List.length_append, List.length_singleton]; repeat' split
  all_goals omega
omit h in
theorem Q.takeIx_filled (bs : List Int) : (q.filled bs).takeIx = q.takeIx := rfl

theorem Q.ok.own_take (hf : q.full ≠ []) : q.own q.takeIx = 1 := by
  have := h.pos; have := h.r; have := h.fit; have := List.length_pos_iff.2 hf
  unfold Q.own Q.takeIx dist idx; repeat' split
  all_goals omega
theorem Q.ok.own_empty (hf : q.full = []) : q.own q.takeIx ≠ 1 := by
  have := h.pos; have := h.r; have := h.fit
  unfold Q.own Q.takeIx dist idx; rw [hf] at *; simp only [List.length_nil, Nat.add_zero] at *; repeat' split
  all_goals omega
theorem Q.ok.own_taken (hf : q.full ≠ []) (i : Nat) (hi : i < q.n) : q.taken.own i = if i = q.takeIx then 2 else q.own i := by
  have := h.pos; have := h.r; have := h.fit; have := List.length_pos_iff.2 hf
  simp only [Q.own, Q.taken, List.length_tail]
  unfold Q.takeIx dist idx; repeat' split
  all_goals omega
theorem Q.ok.taken (hf : q.full ≠ []) : q.taken.ok := by
  have := List.length_pos_iff.2 hf; have := h.fit
  exact ⟨h.pos, h.le, h.r, by simp [Q.taken]; omega, fun xs hx => h.len xs (List.mem_of_mem_tail hx), h.drop⟩
theorem Q.takeIx_taken (hf : q.full ≠ []) : q.taken.takeIx = next q.n q.takeIx := by
  have := h.pos; have := h.r; have := h.fit; have := List.length_pos_iff.2 hf
  exact idx_next h.r (show q.out < q.n by omega)
omit h in
theorem Q.fillIx_taken (hf : q.full ≠ []) : q.taken.fillIx = q.fillIx := by
  have := List.length_pos_iff.2 hf
  simp only [Q.fillIx, Q.taken, List.length_tail]; congr 1; omega

omit h in
theorem Q.ok.own_give (hf : q.out ≠ 0) : q.own q.r = 2 := by
  unfold Q.own dist; repeat' split
  all_goals omega
omit h in
theorem Q.ok.own_none (hf : q.out = 0) : q.own q.r ≠ 2 := by
  unfold Q.own dist; repeat' split
  all_goals omega
theorem Q.ok.own_given (hf : q.out ≠ 0) (i : Nat) (hi : i < q.n) : q.given.own i = if i = q.r then 0 else q.own i := by
  have := h.pos; have := h.r; have := h.fit
  simp only [Q.own, Q.given]
  unfold dist next; repeat' split
  all_goals omega
theorem Q.ok.given : q.given.ok := by
  have := h.fit; have := h.r
  exact ⟨h.pos, h.le, by simp only [Q.given, next]; split <;> omega, by simp only [Q.given]; omega, h.len, h.drop⟩
theorem Q.takeIx_given (hf : q.out ≠ 0) : q.given.takeIx = q.takeIx := by
  have := h.pos; have := h.r; have := h.fit
  simp only [Q.takeIx, Q.given, idx, next]; repeat' split
  all_goals omega
theorem Q.fillIx_given (hf : q.out ≠ 0) : q.given.fillIx = q.fillIx := by
  have := h.pos; have := h.r; have := h.fit
  simp only [Q.fillIx, Q.given, idx, next]; repeat' split
  all_goals omega

theorem Q.ok.missed (hd : q.dropped < 1000000) : q.missed.ok := ⟨h.pos, h.le, h.r, h.fit, h.len, by simp [Q.missed]; omega⟩

/-- The place of the j-th that is filled; none of two is one. -/
theorem Q.ok.place_lt {j : Nat} (hj : j < q.full.length) : idx q.n q.r (q.out + j) < q.n := by
  have := h.pos; have := h.r; have := h.fit
  unfold idx; split <;> omega
theorem Q.ok.place_ne_fill {j : Nat} (hj : j < q.full.length) (hf : q.out + q.full.length < q.n) : idx q.n q.r (q.out + j) ≠ q.fillIx := by
  have := h.pos; have := h.r; have := h.fit
  unfold Q.fillIx idx; repeat' split
  all_goals omega
theorem Q.ok.place_ne_give {j : Nat} (hj : j < q.full.length) (hf : q.out ≠ 0) : idx q.n q.r (q.out + j) ≠ q.r := by
  have := h.pos; have := h.r; have := h.fit
  unfold idx; repeat' split
  all_goals omega
omit h in
theorem Q.place_taken (j : Nat) : idx q.taken.n q.taken.r (q.taken.out + j) = idx q.n q.r (q.out + (j + 1)) := by
  simp only [Q.taken]; congr 1; omega
theorem Q.place_given (hf : q.out ≠ 0) {j : Nat} (hj : j < q.full.length) : idx q.given.n q.given.r (q.given.out + j) = idx q.n q.r (q.out + j) := by
  have := h.pos; have := h.r; have := h.fit
  simp only [Q.given]
  unfold idx next; repeat' split
  all_goals omega
end

end Go.Proofs.Ytnbbbhemlmkeiaa
