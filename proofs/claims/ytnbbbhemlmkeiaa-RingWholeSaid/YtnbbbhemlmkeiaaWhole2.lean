/-
  The law RingWhole, walked: whatever the number and the script, it returns true.
-/
import Derived.Test.YtnbbbhemlmkeiaaWhole
import Derived.Test.YtnbbbhemlmkeiaaArr
namespace Go.Proofs.Ytnbbbhemlmkeiaa
open Go.RowKit

theorem eqArr44 (a b c : Int) (w : World) : (binOp .eql 44 (.agg #[.int .i64 a, .int .i64 b, .int .i64 c]) (.agg #[.int .i64 a, .int .i64 b, .int .i64 c])).run Try.prog w = .ok (.bool true) w := by
  have h := run_eql_ints (P := Try.prog) w 44 3 .i64 3 Try.underlying44 Try.underlying3 (fun _ => by kernel_rfl) [a, b, c] [a, b, c] rfl rfl
  simpa using h

theorem Q.bnd_le (q : Q) (k : Nat) : q.bnd k ≤ 3 * k := by
  have h1 : Fc q.n q.r 1 k ≤ k := Fc_le
  have h2 : Fc q.n q.r (q.out + 1) k ≤ k := Fc_le
  have h3 : Fc q.n q.r (q.out + q.full.length + 1) k ≤ k := Fc_le
  unfold Q.bnd; omega
theorem prev_succ (n k : Nat) : prev n (k + 1) = k := by unfold prev; simp

theorem Q.ownAt_last (q : Q) (h : 1 ≤ q.n) : q.ownAt ((q.n : Int) - 1) = (q.own (prev q.n 0) : Int) ∧ q.ownE ((q.n : Int) - 1) = 0 := by
  have e : ((q.n : Int) - 1).toNat = q.n - 1 := by omega
  have h1 : (0 : Int) ≤ (q.n : Int) - 1 ∧ (q.n : Int) - 1 < (q.n : Int) := by omega
  unfold Q.ownAt Q.ownE prev
  rw [if_pos h1, if_pos h1, e]
  simp
theorem Q.ownAt_in (q : Q) {k : Nat} (h : k < q.n) : q.ownAt (k : Int) = (q.own k : Int) ∧ q.ownE (k : Int) = 0 := by
  unfold Q.ownAt Q.ownE
  simp [h]

set_option maxRecDepth 100000 in
set_option maxHeartbeats 4000000 in
theorem whole_any {base : Nat} {w : World} {lv : Value} {m : Nat} {D : Nat → Int} {Bs : Nat → List Int} {I : Nat → Int} (hl : DeedsAt base w lv m D Bs I) (a : Nat) (ha : a < 256) :
    Calls Try.prog 6 #[.int .u8 a, lv] w fun e w' => e = .returned (.bool true) ∧ Kept [] w w' := by
  obtain ⟨K, hK, hK1, hK2⟩ : ∃ K : Nat, 1 + (a : Int) % 64 = (K : Int) ∧ 1 ≤ K ∧ K ≤ 64 := ⟨1 + a % 64, by omega, by omega, by omega⟩
  have HK := hid hK
  have HP := hid (play_yes hl K hK1 hK2)
  obtain ⟨ao, cap, rfl⟩ := hl.form
  clear hl hK
  go_enter Try.func6, Try.ntmps6
  go_wp2_with fail
  rw [HK.out]
  refine HP.out.mono ?_
  rintro e w0 ⟨x, s, y, q, G, rfl, _, _, _, hb, hqn, _, _, _, hk0⟩
  subst hqn
  have hq := hb.ring
  have hok := hq.ok
  have HOK := hid hok
  have HQ := hid hq
  clear hb hq
  go_wp2_with fail
  refine (count_any HQ.out).mono ?_
  rintro e w1 ⟨rfl, hk1⟩
  have hfit := hok.fit
  have hpos := hok.pos
  have hle := hok.le
  clear hok
  have hsum : ((q.n : Int) - (q.out : Int) - (q.full.length : Int) + (q.full.length : Int) + (q.out : Int) != (q.n : Int)) = false := by rw [bne_eq_false_iff_eq]; omega
  go_wp2_with fail
  have hka := (Kept.refl [] w1).alloc (.cells #[.int .i64 0, .int .i64 0, .int .i64 0] 44)
  have hk01 := hk0.tr hk1
  have hq2 := (HQ.out.kept hk1 (by simp) (by simp) (fun _ _ _ => by simp)).kept hka (by simp) (by simp) (fun _ _ _ => by simp)
  have HQ2 := hid hq2
  have hnew := blk_new w1 (.cells #[.int .i64 0, .int .i64 0, .int .i64 0] 44)
  have HN := hid hnew
  clear hq2 hnew
  refine (owner_any HQ2.out _).mono ?_
  rintro e w2 ⟨rfl, rfl⟩
  rw [(q.ownAt_last hpos).1, (q.ownAt_last hpos).2]
  go_wp2_with fail
  go_loopw [13, 15, 17] (fun t l i wr => ∃ k u : Nat, k ≤ q.n ∧ u ≤ q.bnd k ∧ t = .int .i64 u ∧ l = .int .i64 (q.own (prev q.n k)) ∧ i = .int .i64 k ∧
      wr.heap[w1.heap.size]? = some (.cells #[.int .i64 (q.c0 k), .int .i64 (q.c1 k), .int .i64 (q.c2 k)] 44 (0, 0)) ∧ Kept [] w1 wr) (fun _ _ i _ => q.n - (intOf i).toNat)
  case atStart =>
    obtain ⟨z0, z1, z2⟩ := q.c_zero
    exact ⟨0, 0, Nat.zero_le _, Nat.zero_le _, rfl, rfl, rfl, by rw [z0, z1, z2]; exact HN.out, hka⟩
  case round =>
    obtain ⟨k, u, hk, hu, rfl, rfl, rfl, hb, hkp⟩ := hrel
    by_cases hlt : k < q.n
    · have hq3 := HQ.out.kept (hk1.tr hkp) (by simp) (by simp) (fun _ _ _ => by simp)
      have HQ3 := hid hq3
      have b0 := blk_cell hb 0
      have b1 := blk_cell hb 1
      have b2 := blk_cell hb 2
      simp at b0 b1 b2
      have bf := blk_free hb
      have HCS := hid (count_step HOK.out hlt hb)
      have HT := hid (HOK.out.turn hlt)
      have HBA := hid (HOK.out.bnd_all)
      obtain ⟨l0, l1, l2⟩ := q.c_le k
      have hub := q.bnd_le k
      clear hb hq3
      go_wp2_with fail
      refine (owner_any HQ3.out _).mono ?_
      rintro e w2 ⟨rfl, rfl⟩
      rw [(q.ownAt_in hlt).1, (q.ownAt_in hlt).2]
      clear hfit
      rcases q.own_le k with ho | ho | ho <;> rcases q.own_le (prev q.n k) with hp | hp | hp
      · have HO := hid ho
        have HPV := hid hp
        rw [ho, hp]
        clear ho hp
        go_wp2
        go_roundw
        case rel => exact ⟨k + 1, u, by omega, by have := HT.out.2.2.2.2; omega, rfl, by rw [prev_succ, HO.out]; rfl, by go_num, HCS.out.1 HO.out, hkp.setCell (.inr (Nat.le_refl _)) _⟩
        case measure => simp [intOf]; omega
      · have HO := hid ho
        have HPV := hid hp
        rw [ho, hp]
        clear ho hp
        go_wp2
        go_roundw
        case rel => exact ⟨k + 1, u + 1, by omega, by have := HT.out.2.2.2.1 (by rw [HO.out, HPV.out]; decide); omega, by go_num, by rw [prev_succ, HO.out]; rfl, by go_num, HCS.out.1 HO.out, hkp.setCell (.inr (Nat.le_refl _)) _⟩
        case measure => simp [intOf]; omega
      · have HO := hid ho
        have HPV := hid hp
        have hz' : ¬ 0 < q.full.length := (by have := HT.out.2.2.1 HO.out HPV.out; omega)
        rw [ho, hp]
        clear ho hp
        go_wp2
        go_roundw
        case rel => exact ⟨k + 1, u + 1, by omega, by have := HT.out.2.2.2.1 (by rw [HO.out, HPV.out]; decide); omega, by go_num, by rw [prev_succ, HO.out]; rfl, by go_num, HCS.out.1 HO.out, hkp.setCell (.inr (Nat.le_refl _)) _⟩
        case measure => simp [intOf]; omega
      · have HO := hid ho
        have HPV := hid hp
        have hz' : ¬ 0 < q.out := (by have := HT.out.2.1 HO.out HPV.out; omega)
        rw [ho, hp]
        clear ho hp
        go_wp2
        go_roundw
        case rel => exact ⟨k + 1, u + 1, by omega, by have := HT.out.2.2.2.1 (by rw [HO.out, HPV.out]; decide); omega, by go_num, by rw [prev_succ, HO.out]; rfl, by go_num, HCS.out.2.1 HO.out, hkp.setCell (.inr (Nat.le_refl _)) _⟩
        case measure => simp [intOf]; omega
      · have HO := hid ho
        have HPV := hid hp
        rw [ho, hp]
        clear ho hp
        go_wp2
        go_roundw
        case rel => exact ⟨k + 1, u, by omega, by have := HT.out.2.2.2.2; omega, rfl, by rw [prev_succ, HO.out]; rfl, by go_num, HCS.out.2.1 HO.out, hkp.setCell (.inr (Nat.le_refl _)) _⟩
        case measure => simp [intOf]; omega
      · have HO := hid ho
        have HPV := hid hp
        rw [ho, hp]
        clear ho hp
        go_wp2
        go_roundw
        case rel => exact ⟨k + 1, u + 1, by omega, by have := HT.out.2.2.2.1 (by rw [HO.out, HPV.out]; decide); omega, by go_num, by rw [prev_succ, HO.out]; rfl, by go_num, HCS.out.2.1 HO.out, hkp.setCell (.inr (Nat.le_refl _)) _⟩
        case measure => simp [intOf]; omega
      · have HO := hid ho
        have HPV := hid hp
        rw [ho, hp]
        clear ho hp
        go_wp2
        go_roundw
        case rel => exact ⟨k + 1, u + 1, by omega, by have := HT.out.2.2.2.1 (by rw [HO.out, HPV.out]; decide); omega, by go_num, by rw [prev_succ, HO.out]; rfl, by go_num, HCS.out.2.2 HO.out, hkp.setCell (.inr (Nat.le_refl _)) _⟩
        case measure => simp [intOf]; omega
      · have HO := hid ho
        have HPV := hid hp
        have hz' : q.n ≤ q.out + q.full.length := by have := HT.out.1 HO.out HPV.out; omega
        rw [ho, hp]
        clear ho hp
        go_wp2
        go_roundw
        case rel => exact ⟨k + 1, u + 1, by omega, by have := HT.out.2.2.2.1 (by rw [HO.out, HPV.out]; decide); omega, by go_num, by rw [prev_succ, HO.out]; rfl, by go_num, HCS.out.2.2 HO.out, hkp.setCell (.inr (Nat.le_refl _)) _⟩
        case measure => simp [intOf]; omega
      · have HO := hid ho
        have HPV := hid hp
        rw [ho, hp]
        clear ho hp
        go_wp2
        go_roundw
        case rel => exact ⟨k + 1, u, by omega, by have := HT.out.2.2.2.2; omega, rfl, by rw [prev_succ, HO.out]; rfl, by go_num, HCS.out.2.2 HO.out, hkp.setCell (.inr (Nat.le_refl _)) _⟩
        case measure => simp [intOf]; omega
    · obtain rfl : k = q.n := by omega
      have hu3 : u ≤ 3 := Nat.le_trans hu HOK.out.bnd_all
      clear hu
      have hfitl := HOK.out.fit
      have e0 : ((q.c0 q.n : Nat) : Int) = (q.n : Int) - (q.out : Int) - (q.full.length : Int) := by have := Fc_all HOK.out.r HOK.out.fit; unfold Q.c0; rw [this]; omega
      have e1 : q.c1 q.n = q.full.length := by have := Fc_all HOK.out.r HOK.out.fit; have h2 := Fc_all HOK.out.r (show q.out ≤ q.n by omega); unfold Q.c1; rw [this, h2]; omega
      have e2 : q.c2 q.n = q.out := by have h2 := Fc_all HOK.out.r (show q.out ≤ q.n by omega); unfold Q.c2; rw [h2]
      rw [e0, e1, e2] at hb
      have HB := hid hb
      clear hb e0 e1 e2 hfitl
      go_wp2_with fail
      refine (live_any _).mono ?_
      rintro e w3 ⟨rfl, hk3⟩
      have hb3 := hk3.blk HB.out (by simp)
      have b0 := blk_cell hb3 0
      have b1 := blk_cell hb3 1
      have b2 := blk_cell hb3 2
      simp at b0 b1 b2
      clear hb3
      have hae := eqArr44
      go_wp2
      go_ret
      exact ⟨rfl, (hk01.tr hkp).tr hk3⟩

end Go.Proofs.Ytnbbbhemlmkeiaa
