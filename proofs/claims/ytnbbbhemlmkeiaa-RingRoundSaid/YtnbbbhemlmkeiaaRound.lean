/-
  The law RingRound, walked: whatever the number, how often it went round, and the script, it returns true.
-/
import Derived.Test.YtnbbbhemlmkeiaaOrder
import Derived.Deep.RegionHeld3
namespace Go.Proofs.Ytnbbbhemlmkeiaa
open Go.RowKit

/-- The same queue, but for where it stands. -/
structure Like (p q : Q) : Prop where
  n : p.n = q.n
  out : p.out = q.out
  full : p.full = q.full
  dropped : p.dropped = q.dropped

section
variable {p q : Q} (h : Like p q)
include h
theorem Like.fillE (bs : List Int) : p.fillE bs = q.fillE bs := by unfold Q.fillE; rw [h.n, h.out, h.full]
theorem Like.fill (bs : List Int) : Like (p.fill bs) (q.fill bs) := by
  obtain ⟨h1, h2, h3, h4⟩ := h
  unfold Q.fill
  rw [h1, h2, h3]
  split
  · split
    · exact ⟨h1, h2, by simp [Q.filled, h3], h4⟩
    · exact ⟨h1, h2, h3, by simp [Q.missed, h4]⟩
  · exact ⟨h1, h2, h3, h4⟩
theorem Like.takeE : p.takeE = q.takeE := by unfold Q.takeE; rw [h.full]
theorem Like.head : p.head = q.head := by unfold Q.head; rw [h.full]
theorem Like.take : Like p.take q.take := by
  obtain ⟨h1, h2, h3, h4⟩ := h
  unfold Q.take
  rw [h3]
  split
  · exact ⟨h1, h2, h3, h4⟩
  · exact ⟨h1, by simp [Q.taken, h2], by simp [Q.taken, h3], h4⟩
theorem Like.giveE : p.giveE = q.giveE := by unfold Q.giveE; rw [h.out]
theorem Like.give : Like p.give q.give := by
  obtain ⟨h1, h2, h3, h4⟩ := h
  unfold Q.give
  rw [h2]
  split
  · exact ⟨h1, h2, h3, h4⟩
  · exact ⟨h1, by simp [Q.given, h2], h3, h4⟩
end

/-- Two rings that tell the same. -/
structure Two (w : World) (x s y t : Nat) (p q : Q) : Prop where
  rx : RingQ (fun b => (b ≠ x ∧ b ≠ s) ∧ b ≠ y ∧ b ≠ t) w x s p
  ry : RingQ (fun b => (b ≠ y ∧ b ≠ t) ∧ b ≠ x ∧ b ≠ s) w y t q
  like : Like p q
  ne : x ≠ y ∧ x ≠ t ∧ s ≠ y ∧ s ≠ t

def Q.empty (n : Nat) (p : Q) : Prop := p.n = n ∧ p.out = 0 ∧ p.full = [] ∧ p.dropped = 0

theorem Q.round_empty {n : Nat} (hn : 1 ≤ n) {p : Q} (h : Q.empty n p) : p.fillE [1] = 0 ∧ (p.fill [1]).takeE = 0 ∧ (p.fill [1]).take.giveE = 0 ∧ Q.empty n (p.fill [1]).take.give := by
  obtain ⟨h1, h2, h3, h4⟩ := h
  have hf : Q.fits [1] := by decide
  have hlt : p.out + p.full.length < p.n := by rw [h2, h3, h1]; simp; omega
  have e1 : p.fill [1] = p.filled [1] := by unfold Q.fill; rw [if_pos hf, if_pos hlt]
  have e2 : (p.filled [1]).full = [[1]] := by simp [Q.filled, h3]
  have e3 : (p.filled [1]).take = (p.filled [1]).taken := by unfold Q.take; rw [if_neg (by rw [e2]; simp)]
  have e4 : (p.filled [1]).taken.out = 1 := by simp [Q.taken, Q.filled, h2]
  refine ⟨by unfold Q.fillE; rw [if_pos hf, if_pos hlt], by rw [e1]; unfold Q.takeE; rw [if_neg (by rw [e2]; simp)], by rw [e1, e3]; unfold Q.giveE; rw [if_neg (by rw [e4]; simp)], ?_⟩
  rw [e1, e3]
  unfold Q.give
  rw [if_neg (by rw [e4]; simp)]
  exact ⟨h1, by simp [Q.given, e4], by simp [Q.given, Q.taken, Q.filled, h3], h4⟩

theorem fill_lit' {B : Nat → Prop} {w : World} {x s : Nat} {q : Q} (hq : RingQ B w x s q) (hB : ∀ k, w.heap.size ≤ k → B k) (k : Int) (hd : q.dropped < 1000000) :
    Calls Try.prog 10 #[.pointer (some ⟨x, 0, none⟩), .slice (some ⟨w.heap.size, 0, none⟩) 1 1] (w.alloc (.cells #[.int .u8 k] 5)) fun e w' =>
      e = .returned (.int .i64 (q.fillE [k])) ∧ RingQ B w' x s (q.fill [k]) ∧ Kept [x, s] w w' := by
  have hk := (Kept.refl [] w).alloc (.cells #[.int .u8 k] 5)
  have hlt := hq.lt
  refine (fill_any (hq.kept hk (by simp) (by simp) (fun _ _ _ => by simp)) (fun j hj => hB j (by simp at hj; omega)) (C := (· = w.heap.size)) (fun b hb => by omega) (lit_in w k) hd).mono ?_
  rintro e w' ⟨he, h1, h2⟩
  exact ⟨he, h1, hk.tr0' h2⟩

set_option maxRecDepth 100000 in
set_option maxHeartbeats 4000000 in
theorem round_any {base : Nat} {w : World} {lv : Value} {m : Nat} {D : Nat → Int} {Bs : Nat → List Int} {I : Nat → Int} (hl : DeedsAt base w lv m D Bs I) (a c : Nat) (ha : a < 256) (hc : c < 256) :
    Calls Try.prog 4 #[.int .u8 a, .int .u8 c, lv] w fun e w' => e = .returned (.bool true) ∧ Kept [] w w' := by
  obtain ⟨K, hK, hK1, hK2⟩ : ∃ K : Nat, 1 + (a : Int) % 64 = (K : Int) ∧ 1 ≤ K ∧ K ≤ 64 := ⟨1 + a % 64, by omega, by omega, by omega⟩
  have HK := hid hK
  have HL := hid hl
  obtain ⟨ao, cap, rfl⟩ := hl.form
  have hbase := hl.lt
  clear hl hK
  go_enter Try.func4, Try.ntmps4
  go_wp2_with fail
  rw [HK.out]
  refine (new_yes K _ hK1 hK2).mono ?_
  rintro e w1 ⟨x, s, rfl, hx, hs, hmk, hk1⟩
  have hxl : x < w1.heap.size ∧ s < w1.heap.size := (hmk (fun b => b ≠ x ∧ b ≠ s) (fun _ h => h)).lt
  go_wp2_with fail
  refine (new_yes K _ hK1 hK2).mono ?_
  rintro e w2 ⟨y, t, rfl, hy, ht, hmk2, hk2⟩
  have hyl : y < w2.heap.size ∧ t < w2.heap.size := (hmk2 (fun b => b ≠ y ∧ b ≠ t) (fun _ h => h)).lt
  have htwo : Two w2 x s y t (Q.new K) (Q.new K) := ⟨(hmk _ (fun b h => h.1)).kept hk2 (by simp) (by simp) (fun _ _ _ => by simp), hmk2 _ (fun b h => h.1), ⟨rfl, rfl, rfl, rfl⟩, by omega, by omega, by omega, by omega⟩
  have H2 := hid htwo
  have k2 := hk1.tr hk2
  have hz := k2.size
  have hz1 := hk1.size
  clear hmk hmk2 htwo
  go_wp2_with fail
  go_loopw [12] (fun i wr => ∃ (k : Nat) (p : Q), k ≤ c ∧ i = .int .i64 k ∧ Two wr x s y t p (Q.new K) ∧ Q.empty K p ∧ Kept [] w wr) (fun i _ => c - (intOf i).toNat)
  case atStart => exact ⟨0, Q.new K, Nat.zero_le _, rfl, H2.out, ⟨rfl, rfl, rfl, rfl⟩, k2⟩
  case round =>
    obtain ⟨k, p, hkc, rfl, htw, hem, hkw⟩ := hrel
    have HT := hid htw
    have HE := hid (Q.round_empty hK1 hem)
    have hpd : p.dropped ≤ 0 := by rw [hem.2.2.2]; exact Nat.le_refl _
    clear htw hem
    have hlx := HT.out.rx.lt
    have hly := HT.out.ry.lt
    have hne := HT.out.ne
    by_cases hlt : k < c
    · go_wp2_with fail
      refine (fill_lit' HT.out.rx (fun j hj => ⟨⟨by omega, by omega⟩, by omega, by omega⟩) 1 (by omega)).mono ?_
      rintro e w3 ⟨rfl, hq3, hk3⟩
      rw [HE.out.1]
      go_wp2_with fail
      refine (take_any hq3).mono ?_
      rintro e w4 ⟨v4, rfl, _, hq4, hk4⟩
      go_wp2_with fail
      refine (give_any hq4).mono ?_
      rintro e w5 ⟨rfl, hq5, hk5⟩
      rw [HE.out.2.2.1]
      have hk35 := (hk3.tr hk4).tr hk5
      have hem5 := HE.out.2.2.2
      have htw5 : Two w5 x s y t (p.fill [1]).take.give (Q.new K) := ⟨hq5, HT.out.ry.kept hk35 (by simp; omega) (by simp; omega) (fun b _ h => by simp; omega), ⟨hem5.1, hem5.2.1, hem5.2.2.1, hem5.2.2.2⟩, hne⟩
      have HT5 := hid htw5
      have HE5 := hid hem5
      clear htw5 hem5 hq3 hq4 hq5
      go_wp2
      go_roundw
      case rel => exact ⟨k + 1, _, by omega, by go_num, HT5.out, HE5.out, hkw.trans hk35 (by simp; omega)⟩
      case measure => simp [intOf]; omega
    · obtain ⟨wo, rfl⟩ : ∃ wo : World, wo = wr := ⟨_, rfl⟩
      have HT0 := hid (show Two wo x s y t p (Q.new K) from HT.out)
      go_wp2_with fail
      clear hlt hkc
      go_loopw [13] (fun i wq => ∃ (j : Nat) (p q : Q), j ≤ m ∧ j ≤ 200 ∧ i = .int .i64 j ∧ Two wq x s y t p q ∧ p.dropped ≤ j ∧ Kept [] w wq) (fun i _ => 200 - (intOf i).toNat)
      case atStart => exact ⟨0, p, Q.new K, Nat.zero_le _, Nat.zero_le _, rfl, HT0.out, hpd, hkw⟩
      case round =>
        clear HT HE hpd HT0 hlx hly
        obtain ⟨j, p, q, hjm, hj2, rfl, htq, hpd, hkq⟩ := hrel
        have HT := hid htq
        clear htq
        have hlx := HT.out.rx.lt
        have hly := HT.out.ry.lt
        have hqd : q.dropped ≤ j := by rw [← HT.out.like.dropped]; exact hpd
        have HB := hid (fun (i : Nat) (hi : wr.heap.size ≤ i) => show ((i ≠ x ∧ i ≠ s) ∧ i ≠ y ∧ i ≠ t) from ⟨⟨by omega, by omega⟩, by omega, by omega⟩)
        by_cases hlt : j < m ∧ j < 200
        · obtain ⟨hlt, h200⟩ := hlt
          have hlw := HL.out.kept hkq (by simp)
          rcases hlw.rows with ⟨h, _⟩ | ⟨b, off, cap', hv, hbb, hcc⟩
          · omega
          cases hv
          obtain ⟨bv, e1, e2, e3, e4, e5⟩ := hcc j hlt
          have HE4 := hid e4
          obtain ⟨co, bc, rfl⟩ := e4.form
          clear hcc e3 e4 e5 hlw
          by_cases h0 : D j = 0
          · rw [h0] at e1
            have hap := p.act_n 0 (Bs j)
            have hap' : (p.fill (Bs j)).dropped ≤ p.dropped + 1 := hap.2
            clear hap h0
            have kd : Kept [] wr wr.drew := (Kept.refl [] wr).drew
            have HXd := hid (HT.out.rx.kept kd (by simp) (by simp) (fun _ _ _ => by simp))
            have HYd := hid (HT.out.ry.kept kd (by simp) (by simp) (fun _ _ _ => by simp))
            have HE4d := hid (HE4.out.kept kd (fun _ _ _ => by simp))
            have e2d : wr.drew.cell? ⟨b, off + j * 3 + 1, none⟩ = some (.slice co (Bs j).length bc) := e2
            have E2d := hid e2d
            clear e2d
            go_wp2_with fail
            go_region_held3 (fun w' => w'.cell? ⟨b, off + j * 3 + 1, none⟩ = some (.slice co (Bs j).length bc)) (first | assumption | (exact E2d.out) | (exact hk3.cell E2d.out (by simp; omega)) | (exact hk4.cell (hk3.cell E2d.out (by simp; omega)) (by simp; omega)))
              (first | (go_at_call_of 10 (x); refine (fill_any HXd.out HB.out (fun b hb => by omega) HE4d.out (by omega)).mono ?_; rintro e w3 ⟨rfl, hq3, hk3⟩) | (go_at_call_of 10 (y); refine (fill_any (HYd.out.kept hk3 (by simp; omega) (by simp; omega) (fun b _ h => by simp; omega)) (fun i hi => by have := HB.out i (Nat.le_trans hk3.size hi); exact ⟨this.2, this.1⟩) (fun b hb => by omega) (HE4d.out.kept hk3 (fun b _ h => by simp; omega)) (by omega)).mono ?_; rintro e w4 ⟨rfl, hq4, hk4⟩))
            rw [HT.out.like.fillE]
            have hx4 := hq3.kept hk4 (by simp; omega) (by simp; omega) (fun b _ h => by simp; omega)
            have HTN := hid (show Two w4 x s y t (p.fill (Bs j)) (q.fill (Bs j)) from ⟨hx4, hq4, HT.out.like.fill _, HT.out.ne⟩)
            have hkn : Kept [] w w4 := ((hkq.tr kd).trans hk3 (by simp; omega)).trans hk4 (by simp; omega)
            clear hq3 hq4 hx4
            go_wp2
            go_roundw
            case rel => exact ⟨j + 1, _, _, by omega, by omega, by go_num, HTN.out, by omega, hkn⟩
            case measure => simp [intOf]; omega
          · by_cases h1 : D j = 1
            · rw [h1] at e1
              have hap := p.act_n 1 (Bs j)
              have hap' : p.take.dropped ≤ p.dropped + 1 := hap.2
              clear hap h0 h1
              go_wp2_with fail
              refine (take_any HT.out.rx).mono ?_
              rintro e w3 ⟨v3, rfl, hown3, hq3, hk3⟩
              go_wp2_with fail
              refine (take_any (HT.out.ry.kept hk3 (by simp; omega) (by simp; omega) (fun b _ h => by simp; omega))).mono ?_
              rintro e w4 ⟨v4, rfl, hown4, hq4, hk4⟩
              rw [HT.out.like.takeE]
              have hc1 := conv_str ((SliceIn.owned hown3).kept hk4 (fun b _ h => by simp at h ⊢; omega))
              have hc2 := conv_str (SliceIn.owned hown4)
              rw [HT.out.like.head] at hc1
              obtain ⟨o3, c3, rfl⟩ := (SliceIn.owned hown3).form
              obtain ⟨o4, c4, rfl⟩ := (SliceIn.owned hown4).form
              have hx4 := hq3.kept hk4 (by simp; omega) (by simp; omega) (fun b _ h => by simp; omega)
              have HTN := hid (show Two w4 x s y t p.take q.take from ⟨hx4, hq4, HT.out.like.take, HT.out.ne⟩)
              have hkn : Kept [] w w4 := (hkq.trans hk3 (by simp; omega)).trans hk4 (by simp; omega)
              clear hq3 hq4 hx4 hown3 hown4
              go_wp2
              go_roundw
              case rel => exact ⟨j + 1, _, _, by omega, by omega, by go_num, HTN.out, by omega, hkn⟩
              case measure => simp [intOf]; omega
            · by_cases h2 : D j = 2
              · rw [h2] at e1
                have hap := p.act_n 2 (Bs j)
                have hap' : p.give.dropped ≤ p.dropped + 1 := hap.2
                clear hap h0 h1 h2
                go_wp2_with fail
                refine (give_any HT.out.rx).mono ?_
                rintro e w3 ⟨rfl, hq3, hk3⟩
                go_wp2_with fail
                refine (give_any (HT.out.ry.kept hk3 (by simp; omega) (by simp; omega) (fun b _ h => by simp; omega))).mono ?_
                rintro e w4 ⟨rfl, hq4, hk4⟩
                rw [HT.out.like.giveE]
                have hx4 := hq3.kept hk4 (by simp; omega) (by simp; omega) (fun b _ h => by simp; omega)
                have HTN := hid (show Two w4 x s y t p.give q.give from ⟨hx4, hq4, HT.out.like.give, HT.out.ne⟩)
                have hkn : Kept [] w w4 := (hkq.trans hk3 (by simp; omega)).trans hk4 (by simp; omega)
                clear hq3 hq4 hx4
                go_wp2
                go_roundw
                case rel => exact ⟨j + 1, _, _, by omega, by omega, by go_num, HTN.out, by omega, hkn⟩
                case measure => simp [intOf]; omega
              · have b0 : (D j == 0) = false := beq_eq_false_iff_ne.2 h0
                have b1 : (D j == 1) = false := beq_eq_false_iff_ne.2 h1
                have b2 : (D j == 2) = false := beq_eq_false_iff_ne.2 h2
                clear h0 h1 h2
                go_wp2
                go_roundw
                case rel => exact ⟨j + 1, _, _, by omega, by omega, by go_num, HT.out, by omega, hkq⟩
                case measure => simp [intOf]; omega
        · have hdec : ¬ j < m ∨ (j < m ∧ ¬ j < 200) := by omega
          clear hlt
          rcases hdec with hdec | ⟨hd1, hdec⟩
          all_goals
            go_wp2_with fail
            refine (count_any HT.out.rx).mono ?_
            rintro e w3 ⟨rfl, hk3⟩
            go_wp2_with fail
            refine (count_any (HT.out.ry.kept hk3 (by simp) (by simp) (fun _ _ _ => by simp))).mono ?_
            rintro e w4 ⟨rfl, hk4⟩
            rw [HT.out.like.n, HT.out.like.out, HT.out.like.full, HT.out.like.dropped]
            go_wp2_with fail
            refine (live_any _).mono ?_
            rintro e w5 ⟨rfl, hk5⟩
            go_wp2
            go_ret
            exact ⟨rfl, ((hkq.tr hk3).tr hk4).tr hk5⟩

end Go.Proofs.Ytnbbbhemlmkeiaa
