/-
  'same' of layer 7: the ring and the reference that read as one queue tell the same.
-/
import Derived.Test.YtnbbbhemlmkeiaaRef2
namespace Go.Proofs.Ytnbbbhemlmkeiaa
open Go.RowKit

/-- The ring at x, s and the reference at y read as one queue; their bytes lie elsewhere. -/
structure Both (w : World) (x s y : Nat) (q : Q) (G : Nat) : Prop where
  ring : RingQ (fun b => b ≠ x ∧ b ≠ s ∧ b ≠ y) w x s q
  ref : RefQ (fun b => b ≠ x ∧ b ≠ s ∧ b ≠ y) w y q G
  xy : x ≠ y
  sy : s ≠ y

theorem Both.kept {w w' : World} {x s y G : Nat} {q : Q} (h : Both w x s y q G) (hk : Kept [] w w') : Both w' x s y q G :=
  ⟨h.ring.kept hk (by simp) (by simp) (fun _ _ _ => by simp), h.ref.kept hk (by simp) (fun _ _ _ => by simp), h.xy, h.sy⟩

set_option maxHeartbeats 1000000 in
theorem same_any {w : World} {x s y G : Nat} {q : Q} (hb : Both w x s y q G) : Calls Try.prog 20 #[.pointer (some ⟨x, 0, none⟩), .pointer (some ⟨y, 0, none⟩)] w fun e w' => e = .returned (.bool true) ∧ Kept [] w w' := by
  have HB := hid hb
  obtain ⟨hok, hap, vf, gv, h1, h2, h3, h4⟩ := hb.ref
  obtain ⟨fo, fcap, rfl⟩ := h4.form
  have c0 := blk_cell h1 0
  have c1 := blk_cell h1 1
  have c2 := blk_cell h1 2
  have c4 := blk_cell h1 4
  simp at c0 c1 c2 c4
  have hle := hok.le
  have hfit := hok.fit
  clear h1 h2 h3 h4 hap hok hb
  go_enter Try.func20, Try.ntmps20
  go_wp2
  go_loopw [5] (fun i wr => ∃ k : Nat, k ≤ q.n ∧ i = .int .i64 k ∧ Kept [] w wr) (fun i _ => q.n - (intOf i).toNat)
  case atStart => exact ⟨0, Nat.zero_le _, rfl, Kept.refl [] w⟩
  case round =>
    obtain ⟨k, hk, rfl, hkp⟩ := hrel
    have d0 := hkp.cell c0 (by simp)
    have d1 := hkp.cell c1 (by simp)
    have d2 := hkp.cell c2 (by simp)
    have d4 := hkp.cell c4 (by simp)
    by_cases hlt : k < q.n
    · go_wp2_with fail
      refine (owner_any (HB.out.kept hkp).ring _).mono ?_
      rintro e w1 ⟨rfl, rfl⟩
      go_wp2_with fail
      refine (refowner_any (HB.out.kept hkp).ref _).mono ?_
      rintro e w1 ⟨rfl, hk1⟩
      go_wp2_with fail
      go_roundw
      case rel => exact ⟨k + 1, by omega, by go_num, hkp.tr hk1⟩
      case measure => simp [intOf]; omega
    · go_wp2_with fail
      refine (count_any (HB.out.kept hkp).ring).mono ?_
      rintro e w1 ⟨rfl, hk1⟩
      have e0 := hk1.cell d0 (by simp)
      have e1 := hk1.cell d1 (by simp)
      have e2 := hk1.cell d2 (by simp)
      have e4 := hk1.cell d4 (by simp)
      have hw1 : IntKind.i64.wrap ((q.n : Int) - (q.out : Int)) = (q.n : Int) - (q.out : Int) := IntWalk.i64_in _ (by omega)
      have hw2 : IntKind.i64.wrap ((q.n : Int) - (q.out : Int) - (q.full.length : Int)) = (q.n : Int) - (q.out : Int) - (q.full.length : Int) := IntWalk.i64_in _ (by omega)
      go_wp2_with fail
      go_quiet (fail)
      go_wp2
      go_ret
      exact ⟨rfl, (hkp.tr hk1).drewN _⟩

end Go.Proofs.Ytnbbbhemlmkeiaa
