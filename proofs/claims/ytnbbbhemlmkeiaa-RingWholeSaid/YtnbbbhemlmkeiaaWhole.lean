/-
  The law RingWhole, walked: whatever the number and the script, it returns true.
-/
import Derived.Test.YtnbbbhemlmkeiaaPlay
namespace Go.Proofs.Ytnbbbhemlmkeiaa
open Go.RowKit

theorem Fc_succ' {n r m k : Nat} (hr : r < n) (hk : k < n) : Fc n r m (k + 1) = Fc n r m k + if dist n r k < m then 1 else 0 := by
  unfold Fc dist; repeat' split
  all_goals omega

/-- The place ahead of k, round the ring. -/
def prev (n k : Nat) : Nat := if k = 0 then n - 1 else k - 1

theorem dist_prev {n r k : Nat} (hr : r < n) (hk : k < n) : (dist n r k = 0 ∧ dist n r (prev n k) = n - 1) ∨ (dist n r k = dist n r (prev n k) + 1) := by
  unfold dist prev; repeat' split
  all_goals omega
theorem dist_lt {n r k : Nat} (hr : r < n) (hk : k < n) : dist n r k < n := by
  unfold dist; split <;> omega

def Q.bnd (q : Q) (k : Nat) : Nat := Fc q.n q.r 1 k + (Fc q.n q.r (q.out + 1) k - Fc q.n q.r q.out k) + (Fc q.n q.r (q.out + q.full.length + 1) k - Fc q.n q.r (q.out + q.full.length) k)

theorem Q.bnd_zero (q : Q) : q.bnd 0 = 0 := by unfold Q.bnd; simp [Fc_zero]
theorem Q.ok.bnd_all {q : Q} (h : q.ok) : q.bnd q.n ≤ 3 := by
  have := h.r; have := h.pos; have := h.fit
  unfold Q.bnd Fc; omega
theorem Q.ok.bnd_step {q : Q} (h : q.ok) {k : Nat} (hk : k < q.n) : q.bnd (k + 1) = q.bnd k + (if dist q.n q.r k = 0 then 1 else 0) + (if dist q.n q.r k = q.out then 1 else 0) + (if dist q.n q.r k = q.out + q.full.length then 1 else 0) := by
  have m1 : Fc q.n q.r q.out k ≤ Fc q.n q.r (q.out + 1) k := Fc_mono (by omega)
  have m2 : Fc q.n q.r (q.out + q.full.length) k ≤ Fc q.n q.r (q.out + q.full.length + 1) k := Fc_mono (by omega)
  unfold Q.bnd
  rw [Fc_succ' h.r hk, Fc_succ' h.r hk, Fc_succ' h.r hk, Fc_succ' h.r hk, Fc_succ' h.r hk]
  generalize dist q.n q.r k = d at *
  generalize Fc q.n q.r 1 k = a0 at *
  generalize Fc q.n q.r (q.out + 1) k = a1 at *
  generalize Fc q.n q.r q.out k = a2 at *
  generalize Fc q.n q.r (q.out + q.full.length + 1) k = a3 at *
  generalize Fc q.n q.r (q.out + q.full.length) k = a4 at *
  repeat' split
  all_goals omega

theorem Q.ok.turn {q : Q} (h : q.ok) {k : Nat} (hk : k < q.n) : (q.own k = 2 → q.own (prev q.n k) = 1 → q.n = q.out + q.full.length) ∧ (q.own k = 1 → q.own (prev q.n k) = 0 → q.out = 0) ∧ (q.own k = 0 → q.own (prev q.n k) = 2 → q.full.length = 0) ∧
    (q.own k ≠ q.own (prev q.n k) → q.bnd k + 1 ≤ q.bnd (k + 1)) ∧ q.bnd k ≤ q.bnd (k + 1) := by
  have hfit := h.fit
  have hpos := h.pos
  rw [h.bnd_step hk]
  have hd := dist_prev h.r hk
  have hl := dist_lt h.r hk
  unfold Q.own
  generalize dist q.n q.r k = d at *
  generalize dist q.n q.r (prev q.n k) = p at *
  generalize q.bnd k = b
  refine ⟨?_, ?_, ?_, ?_, ?_⟩
  all_goals repeat' split
  all_goals omega

end Go.Proofs.Ytnbbbhemlmkeiaa
