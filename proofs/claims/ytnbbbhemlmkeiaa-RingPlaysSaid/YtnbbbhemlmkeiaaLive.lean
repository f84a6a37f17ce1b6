/-
  'live' of layer 7 returns true, whatever the world, and turns nothing that was there.
-/
import Derived.Test.YtnbbbhemlmkeiaaRing3
namespace Go.Proofs.Ytnbbbhemlmkeiaa
open Go.RowKit

theorem lit_in (w : World) (k : Int) : SliceIn (· = w.heap.size) (w.alloc (.cells #[.int .u8 k] 5)) 1 (.slice (some ⟨w.heap.size, 0, none⟩) 1 1) 1 (u8s [k]) :=
  ⟨rfl, .inr ⟨w.heap.size, 0, 1, rfl, Nat.le_refl _, rfl, by simp, fun j u hu => by
    rw [Nat.zero_add, blk_cell (blk_new w _)]
    simpa [u8s] using hu⟩⟩

theorem fill_lit {w : World} {x s : Nat} {q : Q} (hq : RingQ (fun b => b ≠ x ∧ b ≠ s) w x s q) (k : Int) (hd : q.dropped < 1000000) :
    Calls Try.prog 10 #[.pointer (some ⟨x, 0, none⟩), .slice (some ⟨w.heap.size, 0, none⟩) 1 1] (w.alloc (.cells #[.int .u8 k] 5)) fun e w' =>
      e = .returned (.int .i64 (q.fillE [k])) ∧ RingQ (fun b => b ≠ x ∧ b ≠ s) w' x s (q.fill [k]) ∧ Kept [x, s] w w' := by
  have hk := (Kept.refl [] w).alloc (.cells #[.int .u8 k] 5)
  have hlt := hq.lt
  refine (fill_any (hq.kept hk (by simp) (by simp) (fun _ _ _ => by simp)) (fun j hj => by simp at hj; omega) (C := (· = w.heap.size)) (fun b hb => by omega) (lit_in w k) hd).mono ?_
  rintro e w' ⟨he, h1, h2⟩
  exact ⟨he, h1, hk.tr0' h2⟩

/-- A []byte read as a string. -/
theorem conv_str {B : Nat → Prop} {w : World} {v : Value} {n : Nat} {xs : List Int} (h : SliceIn B w 1 v n (u8s xs)) : (convert 28 9 v).run Try.prog w = .ok (.string (strOfNums xs)) w := by
  have hn : xs.length = n := by have := h.1; simpa [u8s_length] using this
  rcases h.2 with ⟨h0, ao, cap, rfl, hc0⟩ | ⟨b, off, cap, rfl, _, _, _, hc⟩
  · obtain rfl : xs = [] := List.eq_nil_of_length_eq_zero (by omega)
    cases ao with
    | none => exact run_convert_bytes_nil w 28 5 Try.underlying28 Try.underlying5 0 _ 9 Try.underlying9
    | some ad =>
      rw [run_convert_bytes_string w 28 9 5 (some ad) 0 cap Try.underlying28 Try.underlying5 Try.underlying9, run_bytesToString w ad 0 cap [] (by simp [loadCells, loadCellsFrom])]
      rfl
  · refine run_convert_bytes_arg w 28 5 Try.underlying28 Try.underlying5 b off n cap xs hn (fun i hi => ?_) 9 Try.underlying9
    refine hc i _ ?_
    have : i < xs.length := by omega
    simp [u8s, List.getD, this]

set_option maxHeartbeats 1000000 in
theorem live_any (w : World) : Calls Try.prog 13 #[] w fun e w' => e = .returned (.bool true) ∧ Kept [] w w' := by
  go_enter Try.func13, Try.ntmps13
  go_wp2_with fail
  refine (new_yes 1 _ (by decide) (by decide)).mono ?_
  rintro e w0 ⟨x, s, rfl, hx, hs, hmk, hk0⟩
  have hq0 := hmk (fun b => b ≠ x ∧ b ≠ s) (fun b hb => hb)
  clear hmk
  go_wp2_with fail
  refine (fill_lit hq0 7 (by decide)).mono ?_
  rintro e w1 ⟨rfl, hq1, hk1⟩
  rw [show (Q.new 1).fillE [7] = 0 from by decide]
  go_wp2_with fail
  refine (fill_lit hq1 8 (by decide)).mono ?_
  rintro e w2 ⟨rfl, hq2, hk2⟩
  rw [show ((Q.new 1).fill [7]).fillE [8] = 10 from by decide]
  go_wp2_with fail
  refine (take_any hq2).mono ?_
  rintro e w3 ⟨v', rfl, hown, hq3, hk3⟩
  rw [show (((Q.new 1).fill [7]).fill [8]).takeE = 0 from by decide]
  rw [show (((Q.new 1).fill [7]).fill [8]).head = [7] from by decide] at hown
  go_wp2_with fail
  refine (fill_lit hq3 9 (by decide)).mono ?_
  rintro e w4 ⟨rfl, hq4, hk4⟩
  rw [show (((Q.new 1).fill [7]).fill [8]).take.fillE [9] = 10 from by decide]
  go_wp2_with fail
  refine (give_any hq4).mono ?_
  rintro e w5 ⟨rfl, hq5, hk5⟩
  rw [show ((((Q.new 1).fill [7]).fill [8]).take.fill [9]).giveE = 0 from by decide]
  have hlt := hq2.lt
  have hin := ((SliceIn.owned hown).kept hk4 (fun b _ hb => by simp; omega)).kept hk5 (fun b _ hb => by simp; omega)
  have hconv := conv_str hin
  have hstr : (strOfNums [7]).toList = [7] := by decide +kernel
  have HO := hid hown
  have HI := hid hin
  clear hown hin
  go_wp2_with fail
  refine (fill_lit hq5 9 (by decide)).mono ?_
  rintro e w6 ⟨rfl, hq6, hk6⟩
  rw [show (((((Q.new 1).fill [7]).fill [8]).take.fill [9]).give).fillE [9] = 0 from by decide]
  have hfin : Kept [] w w6 := (((((((hk0.trans hk1 (by simp; omega)).trans hk2 (by simp; omega)).trans hk3 (by simp; omega)).trans hk4 (by simp; omega)).trans hk5 (by simp; omega)).trans hk6 (by simp; omega)))
  go_wp2
  go_ret
  exact ⟨rfl, hfin⟩

end Go.Proofs.Ytnbbbhemlmkeiaa
