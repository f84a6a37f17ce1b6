/-
  'play' of layer 7: deeds on the ring and on the reference: it returns true, and both read as one queue behind it.
-/
import Derived.Test.YtnbbbhemlmkeiaaDo
namespace Go.Proofs.Ytnbbbhemlmkeiaa
open Go.RowKit

/-- A script that came in: n deeds, in blocks below base. -/
structure DeedsAt (base : Nat) (w : World) (lv : Value) (n : Nat) (D : Nat → Int) (Bs : Nat → List Int) (I : Nat → Int) : Prop where
  lt : base ≤ w.heap.size
  rows : (n = 0 ∧ ∃ ao cap, lv = .slice ao 0 cap) ∨ ∃ b off cap, lv = .slice (some ⟨b, off, none⟩) n cap ∧ b < base ∧ ∀ i, i < n → ∃ bv, w.cell? ⟨b, off + i * 3, none⟩ = some (.int .i64 (D i)) ∧ w.cell? ⟨b, off + i * 3 + 1, none⟩ = some bv ∧
    w.cell? ⟨b, off + i * 3 + 2, none⟩ = some (.int .i64 (I i)) ∧ SliceIn (· < base) w 1 bv (Bs i).length (u8s (Bs i)) ∧ (Bs i).length ≤ 140737488351232

theorem DeedsAt.kept {base : Nat} {w w' : World} {lv : Value} {n : Nat} {D : Nat → Int} {Bs : Nat → List Int} {I : Nat → Int} {S : List Nat} (h : DeedsAt base w lv n D Bs I) (hk : Kept S w w') (hS : ∀ k ∈ S, base ≤ k) : DeedsAt base w' lv n D Bs I := by
  have hn : ∀ b, b < base → b ∉ S := fun b hb hm => by have := hS b hm; omega
  refine ⟨Nat.le_trans h.lt hk.size, ?_⟩
  rcases h.rows with h | ⟨b, off, cap, h1, h2, h3⟩
  · exact .inl h
  · refine .inr ⟨b, off, cap, h1, h2, fun i hi => ?_⟩
    obtain ⟨bv, e1, e2, e3, e4, e5⟩ := h3 i hi
    exact ⟨bv, hk.cell e1 (hn b h2), hk.cell e2 (hn b h2), hk.cell e3 (hn b h2), e4.kept hk (fun b _ hb => hn b hb), e5⟩

theorem DeedsAt.form {base : Nat} {w : World} {lv : Value} {n : Nat} {D : Nat → Int} {Bs : Nat → List Int} {I : Nat → Int} (h : DeedsAt base w lv n D Bs I) : ∃ ao cap, lv = .slice ao n cap := by
  rcases h.rows with ⟨h2, ao, cap, h1⟩ | ⟨b, off, cap, h1, _⟩
  · subst h2; exact ⟨ao, cap, h1⟩
  · exact ⟨_, cap, h1⟩

def Played (base n : Nat) (w : World) (e : Ending) (w' : World) : Prop :=
  ∃ x s y q G, e = .returned (.tuple #[.pointer (some ⟨x, 0, none⟩), .pointer (some ⟨y, 0, none⟩), .bool true]) ∧ w.heap.size ≤ x ∧ w.heap.size ≤ s ∧ w.heap.size ≤ y ∧ Both w' x s y q G ∧ q.n = n ∧ q.dropped ≤ 200 ∧ G ≤ 200 ∧ base ≤ w.heap.size ∧ Kept [] w w'

set_option maxRecDepth 100000 in
set_option maxHeartbeats 2000000 in
theorem play_yes {base : Nat} {w : World} {lv : Value} {m : Nat} {D : Nat → Int} {Bs : Nat → List Int} {I : Nat → Int} (hl : DeedsAt base w lv m D Bs I) (n : Nat) (h1 : 1 ≤ n) (h2 : n ≤ 64) :
    Calls Try.prog 15 #[.int .i64 n, lv] w (Played base n w) := by
  have HL := hid hl
  obtain ⟨ao, cap, rfl⟩ := hl.form
  clear hl
  go_enter Try.func15, Try.ntmps15
  go_wp2_with fail
  refine (new_yes n _ h1 h2).mono ?_
  rintro e w0 ⟨x, s, rfl, hx, hs, hmk, hk0⟩
  go_wp2_with fail
  refine (refnew_yes n _ h1 h2).mono ?_
  rintro e w1 ⟨y, rfl, hy, hmy, hk1⟩
  have hxl : x < w0.heap.size ∧ s < w0.heap.size := (hmk (fun b => b ≠ x ∧ b ≠ s) (fun _ h => h)).lt
  have hb : Both w1 x s y (Q.new n) 0 := ⟨((hmk (fun b => b ≠ x ∧ b ≠ s ∧ b ≠ y) (fun b h => ⟨h.1, h.2.1⟩))).kept hk1 (by simp) (by simp) (fun _ _ _ => by simp), hmy _ (fun b h => h.2.2), by omega, by omega⟩
  have HB := hid hb
  have k1 := hk0.tr hk1
  clear hmk hmy hb
  go_wp2_with fail
  go_loopw [11] (fun i wr => ∃ (k : Nat) (q : Q) (G : Nat), k ≤ m ∧ k ≤ 200 ∧ i = .int .i64 k ∧ Both wr x s y q G ∧ q.n = n ∧ q.dropped ≤ k ∧ G ≤ k ∧ Kept [] w wr) (fun i _ => 200 - (intOf i).toNat)
  case atStart => exact ⟨0, Q.new n, 0, Nat.zero_le _, Nat.zero_le _, rfl, HB.out, rfl, Nat.le_refl _, Nat.le_refl _, k1⟩
  case round =>
    obtain ⟨k, q, G, hkm, hk2, rfl, hbw, hqn, hqd, hG, hkw⟩ := hrel
    have HQN := hid hqn
    have HBW := hid hbw
    clear hqn hbw
    by_cases hlt : k < m
    · by_cases h200 : k < 200
      · have hlw := HL.out.kept hkw (by simp)
        have hbase := HL.out.lt
        rcases hlw.rows with ⟨h, _⟩ | ⟨b, off, cap', hv, hbb, hc⟩
        · omega
        cases hv
        obtain ⟨bv, e1, e2, e3, e4, e5⟩ := hc k hlt
        have HE4 := hid e4
        have HE5 := hid e5
        obtain ⟨bo, bc, rfl⟩ := e4.form
        clear hc e4 e5 hlw
        go_wp2_with fail
        refine (do_any HBW.out HE4.out (fun b hb => by omega) HE5.out (by omega) (by omega)).mono ?_
        rintro e w2 ⟨rfl, hb2, hk2'⟩
        have HB2 := hid hb2
        clear hb2
        go_wp2_with fail
        refine (same_any HB2.out).mono ?_
        rintro e w3 ⟨rfl, hk3⟩
        have k3 := (hkw.trans hk2' (by simp; omega)).tr hk3
        have ha := q.act_n (D k) (Bs k)
        go_wp2_with fail
        go_roundw
        case rel => exact ⟨k + 1, _, G + 1, by omega, by omega, by go_num, HB2.out.kept hk3, by rw [ha.1]; exact HQN.out, by omega, by omega, k3⟩
        case measure => simp [intOf]; omega
      · go_wp2_with fail
        go_ret3
        exact ⟨x, s, y, q, G, rfl, hx, hs, by have := hk0.size; omega, HBW.out, HQN.out, by omega, by omega, HL.out.lt, hkw⟩
    · go_wp2_with fail
      go_ret3
      exact ⟨x, s, y, q, G, rfl, hx, hs, by have := hk0.size; omega, HBW.out, HQN.out, by omega, by omega, HL.out.lt, hkw⟩

set_option maxRecDepth 100000 in
set_option maxHeartbeats 2000000 in
theorem play_no {w : World} {ao : Option Addr} {m cap : Nat} (n : Int) (h : n < 1 ∨ 64 < n) :
    Calls Try.prog 15 #[.int .i64 n, .slice ao m cap] w fun e w' => e = .returned (.tuple #[.pointer none, .pointer none, .bool true]) ∧ w = w' := by
  go_enter Try.func15, Try.ntmps15
  go_wp2_with fail
  refine (new_no n _ h).mono ?_
  rintro e w0 ⟨rfl, rfl⟩
  go_wp2_with fail
  refine (refnew_no n _ h).mono ?_
  rintro e w0 ⟨rfl, rfl⟩
  go_wp2_with fail
  refine wp_loop_rounds 1 ?_
  rw [rounds_succ]
  go_wp2
  go_ret3
  exact ⟨rfl, rfl⟩

/-- The law RingPlays. -/
theorem plays_any {base : Nat} {w : World} {lv : Value} {m : Nat} {D : Nat → Int} {Bs : Nat → List Int} {I : Nat → Int} (hl : DeedsAt base w lv m D Bs I) (n : Int) :
    Calls Try.prog 5 #[.int .i64 n, lv] w fun e w' => e = .returned (.bool true) ∧ Kept [] w w' := by
  by_cases h : n < 1 ∨ 64 < n
  · obtain ⟨ao, cap, rfl⟩ := hl.form
    clear hl
    go_enter Try.func5, Try.ntmps5
    go_wp2_with fail
    refine (play_no n h).mono ?_
    rintro e w0 ⟨rfl, rfl⟩
    go_wp2_with fail
    refine (live_any _).mono ?_
    rintro e w1 ⟨rfl, hk⟩
    go_wp2
    go_ret
    exact ⟨rfl, hk⟩
  · obtain ⟨k, rfl⟩ : ∃ k : Nat, n = k := ⟨n.toNat, by omega⟩
    have HP := hid (play_yes hl k (by omega) (by omega))
    obtain ⟨ao, cap, rfl⟩ := hl.form
    clear hl h
    go_enter Try.func5, Try.ntmps5
    go_wp2_with fail
    refine HP.out.mono ?_
    rintro e w0 ⟨x, s, y, q, G, rfl, _, _, _, _, _, _, _, _, hk0⟩
    go_wp2_with fail
    refine (live_any _).mono ?_
    rintro e w1 ⟨rfl, hk⟩
    go_wp2
    go_ret
    exact ⟨rfl, hk0.tr hk⟩

end Go.Proofs.Ytnbbbhemlmkeiaa
