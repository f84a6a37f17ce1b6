/-
  The reference's Owner, New, Fork.
-/
import Derived.Test.YtnbbbhemlmkeiaaRef
namespace Go.Proofs.Ytnbbbhemlmkeiaa
open Go.RowKit

theorem behind_eq {k gv n r : Nat} (hk : k < n) (hn : n ≤ 64) (hr : r = gv % n) : (wrap64 (wrap64 ((k : Int) - (gv : Int) % (n : Int)) + (n : Int))).tmod (n : Int) = (dist n r k : Nat) := by
  have hrn : r < n := by rw [hr]; exact Nat.mod_lt _ (by omega)
  have e0 : (gv : Int) % (n : Int) = (r : Int) := by rw [hr]; exact (Int.natCast_emod gv n).symm
  rw [e0]
  have e1 : wrap64 ((k : Int) - (r : Int)) = (k : Int) - (r : Int) := by unfold wrap64; omega
  rw [e1]
  have e2 : wrap64 ((k : Int) - (r : Int) + (n : Int)) = (k : Int) - (r : Int) + (n : Int) := by unfold wrap64; omega
  rw [e2, Int.tmod_eq_emod_of_nonneg (by omega)]
  unfold dist
  by_cases h : r ≤ k
  · rw [if_pos h, show (k : Int) - (r : Int) + (n : Int) = ((k - r : Nat) : Int) + (n : Int) from by omega, Int.add_emod_right, Int.emod_eq_of_lt (by omega) (by omega)]
  · rw [if_neg h, Int.emod_eq_of_lt (by omega) (by omega)]; omega

set_option maxHeartbeats 400000 in
theorem refowner_in {B : Nat → Prop} {w : World} {y G : Nat} {q : Q} (hq : RefQ B w y q G) (k : Nat) (hk : k < q.n) : Calls Try.prog 28 #[.pointer (some ⟨y, 0, none⟩), .int .i64 k] w fun e w' => e = .returned (.tuple #[.int .i64 (q.own k), .int .i64 0]) ∧ Kept [] w w' := by
  obtain ⟨hok, hap, vf, gv, h1, h2, h3, h4⟩ := hq
  obtain ⟨fo, fcap, rfl⟩ := h4.form
  have c0 := blk_cell h1 0
  have c1 := blk_cell h1 1
  have c2 := blk_cell h1 2
  have c3 := blk_cell h1 3
  simp at c0 c1 c2 c3
  have hfit := hok.fit
  have hle := hok.le
  have hpos := hok.pos
  have hbeh := behind_eq hk hle h2
  clear h1 h2 h4 hap hok
  by_cases ha : dist q.n q.r k < q.out
  · have HO := hid (show q.own k = 2 from by unfold Q.own; rw [if_pos ha])
    go_enter Try.func28, Try.ntmps28
    go_wp2
    go_quiet (fail)
    go_wp2
    go_ret2
    rw [HO.out]
    exact ⟨rfl, (Kept.refl [] w).drewN _⟩
  · by_cases hb : dist q.n q.r k < q.out + q.full.length
    · have HO := hid (show q.own k = 1 from by unfold Q.own; rw [if_neg ha, if_pos hb])
      have hw : IntKind.i64.wrap ((q.out : Int) + (q.full.length : Int)) = (q.out : Int) + (q.full.length : Int) := IntWalk.i64_in _ (by omega)
      go_enter Try.func28, Try.ntmps28
      go_wp2
      go_quiet (fail)
      go_wp2
      go_quiet (fail)
      go_wp2
      go_ret2
      rw [HO.out]
      exact ⟨rfl, ((Kept.refl [] w).drewN _).drewN _⟩
    · have HO := hid (show q.own k = 0 from by unfold Q.own; rw [if_neg ha, if_neg hb])
      have hw : IntKind.i64.wrap ((q.out : Int) + (q.full.length : Int)) = (q.out : Int) + (q.full.length : Int) := IntWalk.i64_in _ (by omega)
      go_enter Try.func28, Try.ntmps28
      go_wp2
      go_quiet (fail)
      go_wp2
      go_quiet (fail)
      go_wp2
      go_ret2
      rw [HO.out]
      exact ⟨rfl, ((Kept.refl [] w).drewN _).drewN _⟩

def RefOwned (q : Q) (i : Int) (w : World) (e : Ending) (w' : World) : Prop := e = .returned (.tuple #[.int .i64 (q.ownAt i), .int .i64 (q.ownE i)]) ∧ Kept [] w w'

set_option maxHeartbeats 400000 in
theorem refowner_any {B : Nat → Prop} {w : World} {y G : Nat} {q : Q} (hq : RefQ B w y q G) (i : Int) : Calls Try.prog 28 #[.pointer (some ⟨y, 0, none⟩), .int .i64 i] w (RefOwned q i w) := by
  by_cases h0 : i < 0
  · have HF := hid (show RefOwned q i w (.returned (.tuple #[.int .i64 0, .int .i64 2])) w from ⟨by simp [Q.ownAt, Q.ownE, show ¬ (0 ≤ i) by omega], Kept.refl _ _⟩)
    clear hq
    go_enter Try.func28, Try.ntmps28
    go_wp2
    go_ret2
    exact HF.out
  · by_cases hn : i < q.n
    · obtain ⟨k, rfl⟩ : ∃ k : Nat, i = k := ⟨i.toNat, by omega⟩
      refine (refowner_in hq k (by omega)).mono ?_
      rintro e w' ⟨rfl, hk⟩
      exact ⟨by simp [Q.ownAt, Q.ownE, show k < q.n by omega], hk⟩
    · have HF := hid (show RefOwned q i w (.returned (.tuple #[.int .i64 0, .int .i64 2])) w from ⟨by simp [Q.ownAt, Q.ownE, hn], Kept.refl _ _⟩)
      obtain ⟨hok, hap, vf, gv, h1, h2, h3, h4⟩ := hq
      have c0 := blk_cell h1 0
      simp at c0
      clear h1 h2 h3 h4 hap hok
      go_enter Try.func28, Try.ntmps28
      go_wp2
      go_ret2
      exact HF.out

def RefMade (n : Nat) (w : World) (e : Ending) (w' : World) : Prop :=
  ∃ y, e = .returned (.tuple #[.pointer (some ⟨y, 0, none⟩), .int .i64 0]) ∧ w.heap.size ≤ y ∧ (∀ C : Nat → Prop, (∀ b, C b → b ≠ y) → RefQ C w' y (Q.new n) 0) ∧ Kept [] w w'

theorem new_ok {n : Nat} (h1 : 1 ≤ n) (h2 : n ≤ 64) : (Q.new n).ok := ⟨h1, h2, h1, by simp [Q.new], fun xs hx => by simp [Q.new] at hx, by simp [Q.new]⟩

theorem refmade_close {n : Nat} {w : World} (h1 : 1 ≤ n) (h2 : n ≤ 64) :
    RefMade n w (.returned (.tuple #[.pointer (some ⟨w.heap.size, 0, none⟩), .int .i64 0])) (w.alloc (.cells #[.int .i64 n, .slice none 0 0, .int .i64 0, .int .i64 0, .int .i64 0] 66)) := by
  refine ⟨w.heap.size, rfl, Nat.le_refl _, fun C hC => ?_, (Kept.refl [] w).alloc _⟩
  refine ⟨new_ok h1 h2, hC, .slice none 0 0, 0, blk_new w _, by simp [Q.new], Nat.le_refl _, ⟨[], SliceIn.nil _ _, fun j v xs h => by simp at h, fun u hu => by cases hu⟩⟩

set_option maxHeartbeats 400000 in
theorem refnew_yes (n : Nat) (w : World) (h1 : 1 ≤ n) (h2 : n ≤ 64) : Calls Try.prog 23 #[.int .i64 n] w (RefMade n w) := by
  have HC := hid (refmade_close (w := w) h1 h2)
  go_enter Try.func23, Try.ntmps23
  go_wp2
  go_ret2
  exact HC.out

theorem refnew_no (n : Int) (w : World) (h : n < 1 ∨ 64 < n) : Calls Try.prog 23 #[.int .i64 n] w fun e w' => e = .returned (.tuple #[.pointer none, .int .i64 2]) ∧ w = w' := by
  by_cases h1 : n < 1
  · clear h
    go_enter Try.func23, Try.ntmps23
    go_wp2
    go_ret2
    exact ⟨rfl, rfl⟩
  · have h2 : 64 < n := by omega
    clear h
    go_enter Try.func23, Try.ntmps23
    go_wp2
    go_ret2
    exact ⟨rfl, rfl⟩

def RefForked (B : Nat → Prop) (w : World) (q : Q) (G : Nat) (e : Ending) (w' : World) : Prop :=
  ∃ y, e = .returned (.pointer (some ⟨y, 0, none⟩)) ∧ w.heap.size ≤ y ∧ RefQ (fun b => B b ∧ b < w.heap.size) w' y q G ∧ Kept [] w w'

set_option maxHeartbeats 400000 in
theorem reffork_any {B : Nat → Prop} {w : World} {y G : Nat} {q : Q} (hq : RefQ B w y q G) : Calls Try.prog 18 #[.pointer (some ⟨y, 0, none⟩)] w (RefForked B w q G) := by
  obtain ⟨hok, hap, vf, gv, h1, h2, h3, h4⟩ := hq
  obtain ⟨fo, fcap, rfl⟩ := h4.form
  have c0 := blk_cell h1 0
  have c1 := blk_cell h1 1
  have c2 := blk_cell h1 2
  have c3 := blk_cell h1 3
  have c4 := blk_cell h1 4
  simp at c0 c1 c2 c3 c4
  have hyl := lt_of_block h1
  have HF := hid (show RefForked B w q G (.returned (.pointer (some ⟨w.heap.size, 0, none⟩))) (w.alloc (.cells #[.int .i64 q.n, .slice fo q.full.length fcap, .int .i64 q.out, .int .i64 (gv : Nat), .int .i64 q.dropped] 66)) from
    ⟨w.heap.size, rfl, Nat.le_refl _, ⟨hok, fun b hb => by omega, _, gv, blk_new w _, h2, h3, (h4.mono (C := fun b => B b ∧ b < w.heap.size) (fun b h1 h2 => ⟨h2, h1⟩)).kept ((Kept.refl [] w).alloc _) (fun _ _ _ => by simp)⟩, (Kept.refl [] w).alloc _⟩)
  clear h1 h2 h3 h4 hap hok
  go_enter Try.func18, Try.ntmps18
  go_wp2
  go_ret
  exact HF.out

end Go.Proofs.Ytnbbbhemlmkeiaa
