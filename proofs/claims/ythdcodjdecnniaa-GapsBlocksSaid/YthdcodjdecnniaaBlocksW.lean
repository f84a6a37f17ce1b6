/-
  The law GapsBlocks: the walk.
-/
import Derived.Test.YthdcodjdecnniaaBlocksLaw
namespace Go.Proofs.Ythdcodjdecnniaa
open Go.RowKit

theorem blocks_chain {t : T} (h : t.ok) : Chain t.far 0 (blocksOf t.far) := chain_take 16 (chain_runs t.far 0 h.far)
theorem blocks_len (l : List Int) : (blocksOf l).length ≤ 16 := by simp [blocksOf]; omega
theorem blocks_top {t : T} (h : (blocksOf t.far).length ≠ 16) : t.top = (t.cum + atOf (blocksOf t.far)) % 4294967296 := by
  have e : blocksOf t.far = runsOf t.far := List.take_of_length_le (by
    have := blocks_len t.far
    simp only [blocksOf, List.length_take] at h
    omega)
  rw [e, atOf_last, lastOf_runs]; rfl

set_option maxRecDepth 100000 in
set_option maxHeartbeats 2000000 in
theorem blocks_any {C : Nat → Prop} {w : World} {first : Int} {lv : Value} {ds : List (Int × Bool)} (hl : SliceIn C w 2 lv ds.length (deedsV ds)) (hf : 0 ≤ first ∧ first < 4294967296) :
    Calls Try.prog 5 #[.int .u32 first, lv] w fun e w' => e = .returned (.bool true) ∧ Kept [] w w' := by
  have HP := hid (play_any hl hf)
  clear hl
  generalize T.plays first (ds.take 300) = t at *
  go_enter Try.func5, Try.ntmps5
  go_wp2_with fail
  refine HP.out.mono ?_
  rintro e w1 ⟨x, y, rfl, o, B, p1, _, _, _, _, p6⟩
  have HT := hid p1.here
  have HK1 := hid p6
  clear p1 p6
  go_wp2_with fail
  refine (Blocks_any HT.out).mono ?_
  rintro e w2 ⟨bv, rfl, hbv, hk2⟩
  have HT := hid (HT.out.kept hk2 (by simp) (by simp))
  have HK2 := hid (HK1.out.tr hk2)
  have HV := hid (SliceIn.owned hbv)
  obtain ⟨ao, cap, rfl⟩ := HV.out.form
  have HCH := hid (blocks_chain HT.out.ok)
  have hbl := blocks_len t.far
  have HTOP := hid (@blocks_top t)
  have HOK := hid HT.out.ok
  clear hk2 hbv
  generalize hbb : blocksOf t.far = bl at *
  clear hbb
  go_wp2_with fail
  go_loopw [9, 10] (fun a i wr => ∃ k : Nat, k ≤ bl.length ∧ i = .int .i64 k ∧ a = .int .i64 (atOf (bl.take k)) ∧ Kept [] w2 wr) (fun a i wr => bl.length - (intOf i).toNat)
  case atStart => exact ⟨0, Nat.zero_le _, rfl, rfl, Kept.refl _ _⟩
  case round =>
    obtain ⟨wo, rfl⟩ : ∃ wo : World, wo = wr := ⟨_, rfl⟩
    obtain ⟨k, hk, rfl, rfl, hko⟩ := hrel
    have HKO := hid hko
    clear hko
    by_cases hlt : k < bl.length
    · obtain ⟨g1, g2, g3, g4, g5, g6⟩ := chain_get HCH.out hlt
      have HG4 := hid g4
      have HG5 := hid g5
      obtain ⟨b, off, hao, _, _, _, hc⟩ := (HV.out.kept HKO.out (fun _ _ _ => by simp)).rows (by omega)
      subst hao
      obtain ⟨u0, u1⟩ := u16s_get hlt
      have c0 := hc _ _ u0
      have c1 := hc _ _ u1
      rw [Nat.mul_comm 2 k] at c0 c1
      have eo : off + (k * 2 + 1) = off + k * 2 + 1 := by omega
      rw [eo] at c1
      have HA := hid (show atOf (bl.take (k + 1)) = bl[k].2 from by rw [List.take_succ_eq_append_getElem hlt, atOf_snoc])
      clear hc u0 u1 eo g4 g5
      generalize atOf (bl.take k) = a at *
      generalize bl[k].1 = lo at *
      generalize bl[k].2 = hi at *
      have m0 : lo % 65536 = lo := by omega
      have m1 : hi % 65536 = hi := by omega
      rw [m0] at c0
      rw [m1] at c1
      clear m0 m1
      have t0 : decide (lo < a + 2) = false := decide_eq_false (by omega)
      have t1 : decide (hi < lo) = false := decide_eq_false (by omega)
      have t2 : decide (256 < hi) = false := decide_eq_false (by omega)
      have HC0 := hid c0
      have HC1 := hid c1
      go_wp2_with fail
      go_quiet (fail)
      have HKO2 := hid (HKO.out.drewN nq)
      have c0p : (wo.drewN nq).cell? ⟨b, off + k * 2, none⟩ = some (.int .u16 lo) := HC0.out
      have c1p : (wo.drewN nq).cell? ⟨b, off + k * 2 + 1, none⟩ = some (.int .u16 hi) := HC1.out
      have HC0 := hid c0p
      have HC1 := hid c1p
      clear c0 c1 c0p c1p t0 t1 t2
      generalize wo.drewN nq = wp at *
      have c0 := HC0.out
      go_wp2_with fail
      go_loopw [11] (fun i wl => ∃ j : Int, a < j ∧ j ≤ lo ∧ i = .int .i64 j ∧ Kept [] wp wl) (fun i wl => (lo - intOf i).toNat)
      case atStart => exact ⟨a + 1, by omega, by omega, rfl, Kept.refl _ _⟩
      case round =>
        obtain ⟨j, hj1, hj2, rfl, hkl⟩ := hrel
        have HKL := hid hkl
        have d0 := hkl.cell HC0.out (by simp)
        have HTL := hid (HT.out.kept (HKO2.out.tr hkl) (by simp) (by simp))
        clear hkl c0
        by_cases hjl : j < lo
        · have hno := HG4.out j hj1 hjl
          have hha := has_ahead HOK.out (k := j) (by omega) (by omega)
          have hdf : decide (j ∈ t.far) = false := decide_eq_false hno
          rw [hdf] at hha
          have hwj : IntKind.u32.wrap j = j := IntWalk.u32_in j (by omega)
          have bj : decide (j < lo) = true := decide_eq_true hjl
          have hn : 0 ≤ (t.cum + j) % 4294967296 ∧ (t.cum + j) % 4294967296 < 4294967296 := by omega
          have HHA := hid hha
          have HN := hid hn
          clear hno hdf hn hha
          go_wp2_with fail
          refine (Cum_any HTL.out).mono ?_
          rintro e wq ⟨rfl, rfl⟩
          go_wp2_with fail
          refine (Has_any HTL.out HN.out).mono ?_
          rintro e wq ⟨rfl, hkq⟩
          have HKQ := hid (HKL.out.tr hkq)
          have hha := HHA.out
          clear hkq
          go_wp2
          go_roundw
          case rel => exact ⟨j + 1, by omega, by omega, by first | rfl | go_num, HKQ.out⟩
          case measure => simp [intOf]; omega
        · have bj : decide (j < lo) = false := decide_eq_false hjl
          obtain rfl : j = lo := by omega
          have HKM := hid (HKO2.out.tr HKL.out)
          have HD1 := hid (HKL.out.cell HC1.out (by simp))
          have HD0 := hid d0
          obtain ⟨wm, rfl⟩ : ∃ wm : World, wm = wr := ⟨_, rfl⟩
          go_wp2_with fail
          go_loopw [12] (fun i wl => ∃ z : Int, j ≤ z ∧ z ≤ hi + 1 ∧ i = .int .i64 z ∧ Kept [] wm wl) (fun i wl => (hi + 1 - intOf i).toNat)
          case atStart => exact ⟨j, Int.le_refl _, by omega, rfl, Kept.refl _ _⟩
          case round =>
            obtain ⟨z, hz1, hz2, rfl, hkz⟩ := hrel
            have HKZ := hid hkz
            have e1 := hkz.cell HD1.out (by simp)
            have HTZ := hid (HT.out.kept (HKM.out.tr hkz) (by simp) (by simp))
            clear hkz d0
            by_cases hzl : z ≤ hi
            · have hyes := HG5.out z hz1 hzl
              have hha := has_ahead HOK.out (k := z) (by omega) (by omega)
              have hdf : decide (z ∈ t.far) = true := decide_eq_true hyes
              rw [hdf] at hha
              have hwz : IntKind.u32.wrap z = z := IntWalk.u32_in z (by omega)
              have bz : decide (z ≤ hi) = true := decide_eq_true hzl
              have hn : 0 ≤ (t.cum + z) % 4294967296 ∧ (t.cum + z) % 4294967296 < 4294967296 := by omega
              have HHA := hid hha
              have HN := hid hn
              clear hyes hdf hn hha
              go_wp2_with fail
              refine (Cum_any HTZ.out).mono ?_
              rintro e wq ⟨rfl, rfl⟩
              go_wp2_with fail
              refine (Has_any HTZ.out HN.out).mono ?_
              rintro e wq ⟨rfl, hkq⟩
              have HKQ := hid (HKZ.out.tr hkq)
              have hha := HHA.out
              clear hkq
              go_wp2
              go_roundw
              case rel => exact ⟨z + 1, by omega, by omega, by first | rfl | go_num, HKQ.out⟩
              case measure => simp [intOf]; omega
            · have bz : decide (z ≤ hi) = false := decide_eq_false hzl
              have HFIN := hid (HKM.out.tr HKZ.out)
              go_wp2
              go_roundw
              case rel => exact ⟨k + 1, by omega, by go_num, by rw [HA.out], HFIN.out⟩
              case measure => simp [intOf]; omega
    · have hkl : k = bl.length := by omega
      subst hkl
      have HTZ := hid (HT.out.kept HKO.out (by simp) (by simp))
      have ht := bl.take_length
      rw [ht]
      go_wp2_with fail
      refine (live_any _).mono ?_
      rintro e w3 ⟨rfl, hk3⟩
      have HK3 := hid (HKO.out.tr hk3)
      have HTZ := hid (HTZ.out.kept hk3 (by simp) (by simp))
      clear hk3
      by_cases h16 : bl.length = 16
      · have b16 : ((bl.length : Int) == 16) = true := by simp [h16]
        go_wp2
        go_ret
        exact ⟨rfl, HK2.out.tr HK3.out⟩
      · have b16 : ((bl.length : Int) == 16) = false := beq_eq_false_iff_ne.2 (by omega)
        have htop := HTOP.out h16
        have hat : 0 ≤ atOf bl ∧ atOf bl ≤ 256 := by
          have := (chain_at bl.length (Int.le_refl 0) (by omega) HCH.out (Nat.le_refl _)).2
          rwa [List.take_length] at this
        have hwa : IntKind.u32.wrap (atOf bl) = atOf bl := IntWalk.u32_in _ (by omega)
        go_wp2_with fail
        refine (Top_any HTZ.out).mono ?_
        rintro e w4 ⟨rfl, hk4⟩
        have HK4 := hid (HK3.out.tr hk4)
        have HTZ := hid (HTZ.out.kept hk4 (by simp) (by simp))
        clear hk4
        go_wp2_with fail
        refine (Cum_any HTZ.out).mono ?_
        rintro e w5 ⟨rfl, rfl⟩
        go_wp2
        go_ret
        exact ⟨rfl, HK2.out.tr HK4.out⟩

end Go.Proofs.Ythdcodjdecnniaa
