/-
  slices.Clone at []byte and at []slot: the clone is a row of the call's own that reads as the slice did.
-/
import Derived.Test.YtnbbbhemlmkeiaaBase
namespace Go.Proofs.Ytnbbbhemlmkeiaa
open Go.RowKit

theorem info5 : (Try.prog.info? 5).map (fun i => (i.zero, i.size, i.bytes)) = some (some (.int .u8 0), 1, 1) := by kernel_rfl
theorem info61 : (Try.prog.info? 61).map (fun i => (i.zero, i.size, i.bytes)) = some (some (.agg #[.int .i64 0, .slice none 0 0]), 2, 32) := by kernel_rfl

@[go_sem] theorem eqNil28 (w : World) (a : Option Addr) (n c : Nat) : (binOp .eql 28 (.slice a n c) (.slice none 0 0)).run Try.prog w = .ok (.bool a.isNone) w := Lib.run_eql_slice_nil w 28 5 a n c 0 0 Try.underlying28
@[go_sem] theorem eqNil53 (w : World) (a : Option Addr) (n c : Nat) : (binOp .eql 53 (.slice a n c) (.slice none 0 0)).run Try.prog w = .ok (.bool a.isNone) w := Lib.run_eql_slice_nil w 53 61 a n c 0 0 Try.underlying53

def Cloned (w : World) (e : TypeId) (size n : Nat) (xs : List Value) (en : Ending) (w' : World) : Prop :=
  ∃ v', en = .returned v' ∧ w'.ownsRow w.heap.size e size v' n xs ∧ Kept [] w w'

set_option maxHeartbeats 400000 in
theorem clone_bytes (B : Nat → Prop) (v : Value) (n : Nat) (xs : List Value) (w : World) (hv : SliceIn B w 1 v n xs) (h1 : ∀ u ∈ xs, u.oneCell' = true) (hn : n ≤ 140737488355328) :
    Calls Try.prog 22 #[v] w (Cloned w 5 1 n xs) := by
  obtain ⟨i0, hi, hz0, hz1, hz2⟩ := info_parts info5
  obtain ⟨ao, cap, rfl, hnil⟩ := hv.form0
  cases ao with
  | none =>
    obtain ⟨rfl, rfl⟩ := hnil rfl
    obtain rfl : xs = [] := List.eq_nil_of_length_eq_zero (by simpa using hv.1)
    go_enter Try.func22, Try.ntmps22
    go_wp2
    go_ret
    exact ⟨_, rfl, World.ownsRow_nil _ _ _ _, Kept.refl _ _⟩
  | some ad =>
    go_enter Try.func22, Try.ntmps22
    go_wp2_with (at_builtin; refine wpList_append_in _ rfl (.tmp 5) (.tmp 6) 28 rfl w.heap.size 5 i0 (.int .u8 0) 1 1 Try.underlying28 hi hz0 hz1 hz2 rfl (by decide) _ 0 [] rfl (World.ownsRow_made w #[] 0 (Nat.le_refl _) (Nat.zero_le _) rfl) B _ n xs rfl (hv.kept ((Kept.refl [] w).alloc _) (fun _ _ _ h => by cases h)) h1 (by unfold maxLen; omega) (by omega) (by simp) ?_)
    intro v' w' hown hgrow _
    go_wp2
    go_ret
    exact ⟨_, rfl, by simpa using hown, ((Kept.refl [] w).alloc _).grown hgrow (fun k h => by cases h; exact .inr (Nat.le_refl _))⟩

set_option maxHeartbeats 400000 in
theorem clone_slots (B : Nat → Prop) (v : Value) (n : Nat) (xs : List Value) (w : World) (hv : SliceIn B w 2 v n xs) (h1 : ∀ u ∈ xs, u.oneCell' = true) (hn : n ≤ 1000000) :
    Calls Try.prog 24 #[v] w (Cloned w 61 2 n xs) := by
  obtain ⟨i0, hi, hz0, hz1, hz2⟩ := info_parts info61
  obtain ⟨ao, cap, rfl, hnil⟩ := hv.form0
  cases ao with
  | none =>
    obtain ⟨rfl, rfl⟩ := hnil rfl
    obtain rfl : xs = [] := List.eq_nil_of_length_eq_zero (by simpa using hv.1)
    go_enter Try.func24, Try.ntmps24
    go_wp2
    go_ret
    exact ⟨_, rfl, World.ownsRow_nil _ _ _ _, Kept.refl _ _⟩
  | some ad =>
    go_enter Try.func24, Try.ntmps24
    go_wp2_with (at_builtin; refine wpList_append_in _ rfl (.tmp 5) (.tmp 6) 53 rfl w.heap.size 61 i0 (.agg #[.int .i64 0, .slice none 0 0]) 2 32 Try.underlying53 hi hz0 hz1 hz2 rfl (by decide) _ 0 [] rfl (World.ownsRow_made w #[] 0 (Nat.le_refl _) (Nat.zero_le _) rfl) B _ n xs rfl (hv.kept ((Kept.refl [] w).alloc _) (fun _ _ _ h => by cases h)) h1 (by unfold maxLen; omega) (by omega) (by simp) ?_)
    intro v' w' hown hgrow _
    go_wp2
    go_ret
    exact ⟨_, rfl, by simpa using hown, ((Kept.refl [] w).alloc _).grown hgrow (fun k h => by cases h; exact .inr (Nat.le_refl _))⟩

end Go.Proofs.Ytnbbbhemlmkeiaa
