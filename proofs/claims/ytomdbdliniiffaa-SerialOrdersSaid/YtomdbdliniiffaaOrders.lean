/-
  The law SerialOrders: what it returns.
-/
import Derived.Test.YtomdbdliniiffaaLaws1
namespace Go.Proofs.Ytomdbdliniiffaa
open Go.RowKit

theorem count_step (y : Int) {o : List Int} {k : Nat} (h : k < o.length) : (o.take (k + 1)).count y = (o.take k).count y + (if o.getD k 0 = y then 1 else 0) := by
  have e : o.getD k 0 = o[k] := by simp [List.getD, h]
  rw [List.take_succ_eq_append_getElem h, List.count_append, List.count_singleton, e]
  congr 1
  by_cases hy : o[k] = y <;> simp [hy]
theorem far_next {m f : Int} {l o : List Int} (h : Met m f l o) {i : Nat} (hi : i + 1 < o.length) : far m f (o.getD i 0) < far m f (o.getD (i + 1) 0) := by
  have e1 : o.getD i 0 = o[i] := by simp [List.getD, show i < o.length by omega]
  have e2 : o.getD (i + 1) 0 = o[i + 1] := by simp [List.getD, hi]
  rw [e1, e2]
  exact List.pairwise_iff_getElem.1 h.1 i (i + 1) (by omega) hi (by omega)

set_option maxRecDepth 100000 in
set_option maxHeartbeats 8000000 in
theorem orders_true {B : Nat → Prop} {w : World} {lv : Value} {f : Int} {xs : List Int} (hv : SliceIn B w 1 lv xs.length (u32s xs)) (hf : 0 ≤ f ∧ f < 4294967296) (hx : ∀ x ∈ xs, 0 ≤ x ∧ x < 4294967296) (hl : xs.length * 4 ≤ 140737488351232) :
    Calls Try.prog 5 #[.int .u32 f, lv, .bool true] w fun e w' => e = .returned (.bool true) ∧ Kept [] w w' := by
  obtain ⟨ao, cap, rfl⟩ := hv.form
  obtain ⟨i22, hi22, hz22, hs22, hy22⟩ := info_parts Try.info22
  have I22 := hid hi22
  have HV := hid hv
  have HX := hid hx
  have HFIT := hid (show ∀ (y : Int), 0 ≤ y ∧ y < 4294967296 → ∀ W, Calls Try.prog 20 #[.bool true, .int .u32 y] W fun e w' => e = .returned (.tuple #[.int .i64 32, .int .u32 (fitX true y)]) ∧ W = w' from fun y hy W => fit_any true y W hy)
  have hF0 := fit_in true hf
  rw [show mOf (fitB true) = 4294967296 from rfl] at hF0
  have HF1 := hid (HFIT.out f hf)
  have HMB0 := hid (show ∀ y ∈ xs.map (fitX true), 0 ≤ y ∧ y < 4294967296 from fun y hy => by
    obtain ⟨x, hm, rfl⟩ := List.mem_map.1 hy
    exact fit_in true (hx x hm))
  have hML : (xs.map (fitX true)).length = xs.length := by simp
  have HMI := hid (show ∀ i, i < xs.length → fitX true (xs.getD i 0) = (xs.map (fitX true)).getD i 0 from fun i hi => by simp [List.getD, hi])
  generalize xs.map (fitX true) = M at *
  generalize fitX true f = x0 at *
  clear hi22 hv hx hf
  go_enter Try.func5, Try.ntmps5
  go_wp2_with fail
  refine (HF1.out _).mono ?_
  rintro e w1 ⟨rfl, rfl⟩
  go_wp2_with fail
  go_loopw [9, 10] (fun v iv wr => ∃ i : Nat, i ≤ xs.length ∧ iv = .int .i64 i ∧ wr.ownsRow w.heap.size 22 1 v i (u32s (M.take i)) ∧ Kept [] w wr) (fun _ iv _ => xs.length - (intOf iv).toNat)
  case atStart => exact ⟨0, Nat.zero_le _, rfl, ⟨rfl, .inl ⟨rfl, rfl⟩⟩, Kept.refl [] w⟩
  case round =>
    obtain ⟨i, hi, rfl, hown, hkr⟩ := hrel
    obtain ⟨vo, vc, rfl⟩ := (SliceIn.owned hown).form
    have HO := hid hown
    have HK := hid hkr
    have hws := hkr.size
    have hwi : IntKind.i64.wrap ((i : Int) + 1) = (i : Int) + 1 := IntWalk.i64_in _ (by omega)
    by_cases hlt : i < xs.length
    · have HVr := hid (HV.out.carry hkr.size fun b hb _ => hkr.block b hb (by simp))
      obtain ⟨b, off, hao, _, _, hb, hcell⟩ := HVr.out.rows (by omega)
      subst hao
      have ci := hcell i _ (u32s_get hlt)
      have HFX := hid (HFIT.out _ (HX.out _ (getD_mem hlt)))
      have hltM : i < M.length := by omega
      have HN := hid (show u32s (M.take (i + 1)) = u32s (M.take i) ++ [.int .u32 (M.getD i 0)] from by
        have e : M.getD i 0 = M[i] := by simp [List.getD, hltM]
        rw [e, List.take_succ_eq_append_getElem hltM]
        simp only [u32s, List.map_append, List.map_cons, List.map_nil])
      rw [HMI.out i hlt] at HFX
      clear hcell hown hkr
      generalize M.getD i 0 = y at *
      generalize xs.getD i 0 = x at *
      go_wp2_with fail
      refine (HFX.out _).mono ?_
      rintro e w2 ⟨rfl, rfl⟩
      go_wp2_with (at_builtin; refine wpList_append_in _ rfl (.tmp 43) (.tmp 45) 30 rfl w.heap.size 22 i22 _ 1 4 Try.underlying30 I22.out hz22 hs22 hy22 rfl (by decide) _ _ _ rfl (HO.out.alloc _) Any _ 1 _ rfl (block_in (blk_new _ _) rfl) (by simp [Value.oneCell']) (by unfold maxLen; omega) (by omega) (by simp <;> omega) ?_)
      intro v4 w4 ho4 hg4 _
      have HF := hid (show w4.ownsRow w.heap.size 22 1 v4 (i + 1) (u32s (M.take (i + 1))) ∧ Kept [] w w4 from ⟨by rw [HN.out]; exact ho4, kept_in (HK.out.alloc _) (HO.out.alloc _) hg4⟩)
      clear ho4 hg4
      go_wp2
      go_roundw
      case rel => exact ⟨i + 1, by omega, by go_num, HF.out.1, HF.out.2⟩
      case measure => simp [intOf]; omega
    · obtain rfl : i = xs.length := by omega
      have hmt : M.take xs.length = M := by rw [← hML]; exact List.take_length
      rw [hmt, ← hML] at HO
      rw [← hML]
      rw [← hML] at hl
      clear hown hkr hwi hlt hi HV HX HMI hmt hML
      have hw0 : wrong 32 (x0 :: M) = 0 := fit_right true (l := x0 :: M) (fun y hy => by
        rcases List.mem_cons.1 hy with rfl | hy
        · exact hF0.2
        · exact (HMB0.out y hy).2)
      have hS1 := Sort_any (fun b => w.heap.size ≤ b) 32 x0 M _ wr (SliceIn.owned HO.out) (by omega) (fun y hy => by have := HMB0.out y hy; omega) (by omega)
      unfold SortedR at hS1
      simp only [hw0, if_true] at hS1
      have HS1 := hid hS1
      clear hS1 hw0
      go_wp2_with fail
      refine HS1.out.mono ?_
      rintro e w5 ⟨v5, o, rfl, hmet, ho5, hk5⟩
      have hmet : Met 4294967296 x0 M o := hmet
      obtain ⟨oo, oc, rfl⟩ := (SliceIn.owned ho5).form
      have HMET := hid hmet
      have hol := met_length hmet
      have HOB := hid (show ∀ y ∈ o, 0 ≤ y ∧ y < 4294967296 from fun y hy => HMB0.out y ((hmet.2 y).1 hy))
      have HO5 := hid ho5
      have HK5 := hid hk5
      have hw0 : wrong 32 (x0 :: o) = 0 := fit_right true (l := x0 :: o) (fun y hy => by
        rcases List.mem_cons.1 hy with rfl | hy
        · exact hF0.2
        · exact (HOB.out y hy).2)
      have hS2 := Sort_any (fun b => wr.heap.size ≤ b) 32 x0 o _ w5 (SliceIn.owned ho5) (by omega) (fun y hy => by have := HOB.out y hy; omega) (by omega)
      unfold SortedR at hS2
      simp only [hw0, if_true] at hS2
      have HS2 := hid hS2
      clear hS2 hw0 hmet ho5 hk5
      go_wp2_with fail
      refine HS2.out.mono ?_
      rintro e w6 ⟨v6, p, rfl, hmet2, ho6, hk6⟩
      have hmet2 : Met 4294967296 x0 o p := hmet2
      obtain rfl : p = o := hmet2.unique (met_again HMET.out)
      obtain ⟨po, pc, rfl⟩ := (SliceIn.owned ho6).form
      have HO56 := hid (ownsRow_kept HO5.out hk6 (by simp))
      have HK6 := hid (HK5.out.tr hk6)
      have HSM := hid (show Calls Try.prog 19 #[.slice oo p.length oc, .slice po p.length pc] w6 fun e w' => e = .returned (.bool true) ∧ Kept [] w6 w' from by
        have h := Same_any (SliceIn.owned HO56.out) (SliceIn.owned ho6) (by omega)
        rw [decide_eq_true rfl] at h
        exact h)
      clear hmet2 ho6 hk6
      go_wp2_with (go_at_call 19; refine HSM.out.mono ?_; rintro e w7 ⟨rfl, hk7⟩; have HK7 := hid (HK6.out.tr hk7); have HO7 := hid (ownsRow_kept HO56.out hk7 (by simp)); clear hk7)
      have HM7 := hid (ownsRow_kept HO.out HK7.out (by simp))
      have HKM := hid HK.out
      obtain ⟨wq, rfl⟩ : ∃ wq : World, wq = wr := ⟨_, rfl⟩
      clear HK
      go_loopw [17] (fun iv wr' => ∃ i : Nat, i ≤ M.length ∧ iv = .int .i64 i ∧ Kept [] w7 wr') (fun iv _ => M.length - (intOf iv).toNat)
      case atStart => exact ⟨0, Nat.zero_le _, rfl, Kept.refl [] _⟩
      case round =>
        obtain ⟨i, hi, rfl, hkr⟩ := hrel
        have HK := hid hkr
        have hwi : IntKind.i64.wrap ((i : Int) + 1) = (i : Int) + 1 := IntWalk.i64_in _ (by omega)
        by_cases hlt : i < M.length
        · obtain ⟨b, off, hao, _, _, hb, hcell⟩ := (SliceIn.owned (ownsRow_kept HM7.out hkr (by simp))).rows (by omega)
          subst hao
          have HCM := hid (hcell i _ (u32s_get hlt))
          have hcount := met_count HMET.out (getD_mem hlt)
          clear hcell hkr
          generalize M.getD i 0 = y at *
          have HCO := hid hcount
          clear hcount
          obtain ⟨wo, rfl⟩ : ∃ wo : World, wo = wr := ⟨_, rfl⟩
          go_wp2_with fail
          go_loopw [18, 19] (fun nv kv wr => ∃ k : Nat, k ≤ p.length ∧ kv = .int .i64 k ∧ nv = .int .i64 ((p.take k).count y : Nat) ∧ Kept [] wo wr) (fun _ kv _ => p.length - (intOf kv).toNat)
          case atStart => exact ⟨0, Nat.zero_le _, rfl, rfl, Kept.refl [] _⟩
          case round =>
            obtain ⟨k, hk, rfl, rfl, hkq⟩ := hrel
            have HKQ := hid hkq
            have hwk : IntKind.i64.wrap ((k : Int) + 1) = (k : Int) + 1 := IntWalk.i64_in _ (by omega)
            by_cases hlk : k < p.length
            · obtain ⟨b2, off2, hao2, _, _, hb2, hcell⟩ := (SliceIn.owned (ownsRow_kept HO7.out (HK.out.tr hkq) (by simp))).rows (by omega)
              subst hao2
              have cz := hcell k _ (u32s_get hlk)
              have cm := hkq.cell HCM.out (by simp)
              have HCT := hid (count_step y hlk)
              have hcl : (p.take k).count y ≤ k := by
                have := List.count_le_length (a := y) (l := p.take k)
                rw [List.length_take] at this
                omega
              have hwc : IntKind.i64.wrap (((p.take k).count y : Nat) + 1 : Int) = ((p.take k).count y : Nat) + 1 := IntWalk.i64_in _ (by omega)
              clear hcell hkq
              generalize p.getD k 0 = z at *
              generalize (p.take k).count y = c at *
              by_cases hzy : z = y
              · have bz : (z == y) = true := by simpa using hzy
                have HR := hid (show (p.take (k + 1)).count y = c + 1 from by rw [HCT.out, if_pos hzy])
                clear hzy
                go_wp2_with fail
                go_quiet (fail)
                go_wp2
                go_roundw
                case rel => exact ⟨k + 1, by omega, by go_num, by rw [HR.out]; go_num, HKQ.out.drewN _⟩
                case measure => simp [intOf]; omega
              · have bz : (z == y) = false := by simpa using hzy
                have HR := hid (show (p.take (k + 1)).count y = c from by rw [HCT.out, if_neg hzy]; rfl)
                clear hzy
                go_wp2_with fail
                go_quiet (fail)
                go_wp2
                go_roundw
                case rel => exact ⟨k + 1, by omega, by go_num, by rw [HR.out], HKQ.out.drewN _⟩
                case measure => simp [intOf]; omega
            · obtain rfl : k = p.length := by omega
              clear hkq
              rw [List.take_length, HCO.out]
              go_wp2_with fail
              go_roundw
              case rel => exact ⟨i + 1, by omega, by go_num, HK.out.tr HKQ.out⟩
              case measure => simp [intOf]; omega
        · obtain rfl : i = M.length := by omega
          have HK8 := hid hkr
          obtain ⟨w8, rfl⟩ : ∃ w8 : World, w8 = wr := ⟨_, rfl⟩
          clear hkr HK
          go_wp2_with fail
          go_loopw [21] (fun iv wr => ∃ i : Nat, i ≤ p.length ∧ iv = .int .i64 i ∧ Kept [] w8 wr) (fun iv _ => p.length - (intOf iv).toNat)
          case atStart => exact ⟨0, Nat.zero_le _, rfl, Kept.refl [] _⟩
          case round =>
            obtain ⟨i, hi, rfl, hkr⟩ := hrel
            have HK := hid hkr
            by_cases hlt4 : i + 1 < p.length
            · obtain ⟨b2, off2, hao2, _, _, hb2, hcell⟩ := (SliceIn.owned (ownsRow_kept HO7.out (HK8.out.tr hkr) (by simp))).rows (by omega)
              subst hao2
              have c1 := hcell i _ (u32s_get (by omega))
              have c2 := hcell (i + 1) _ (u32s_get hlt4)
              have hb1 := HOB.out _ (getD_mem (k := i) (by omega))
              have hb2 := HOB.out _ (getD_mem hlt4)
              have hfar := far_next HMET.out hlt4
              unfold far at hfar
              clear hcell hkr
              generalize p.getD i 0 = a1 at *
              generalize p.getD (i + 1) 0 = a2 at *
              have e1 : (a1 + 4294967296 - x0) % 4294967296 = (a1 - x0) % 4294967296 := by omega
              have e2 : (a2 + 4294967296 - x0) % 4294967296 = (a2 - x0) % 4294967296 := by omega
              have bg : decide ((a2 + 4294967296 - x0) % 4294967296 ≤ (a1 + 4294967296 - x0) % 4294967296) = false := decide_eq_false (by omega)
              have hq1 : (a1 + 4294967296 - x0) % 18446744073709551616 = a1 + 4294967296 - x0 := by omega
              have hq2 : (a2 + 4294967296 - x0) % 18446744073709551616 = a2 + 4294967296 - x0 := by omega
              have hq3 : (a1 + 4294967296) % 18446744073709551616 = a1 + 4294967296 := by omega
              have hq4 : (a2 + 4294967296) % 18446744073709551616 = a2 + 4294967296 := by omega
              have hq5 : a1 % 18446744073709551616 = a1 := by omega
              have hq6 : a2 % 18446744073709551616 = a2 := by omega
              have hq7 : x0 % 18446744073709551616 = x0 := by omega
              have hin : (i : Int) + 1 < (p.length : Int) := by omega
              have hwi4 : IntKind.i64.wrap ((i : Int) + 1) = (i : Int) + 1 := IntWalk.i64_in _ (by omega)
              clear e1 e2 hfar
              go_wp2_with fail
              go_quiet (fail)
              go_wp2
              go_roundw
              case rel => exact ⟨i + 1, by omega, by go_num, HK.out.drewN _⟩
              case measure => simp [intOf]; omega
            · have bn : decide ((i : Int) + 1 < (p.length : Int)) = false := decide_eq_false (by omega)
              have ble : decide ((p.length : Int) ≤ (M.length : Int)) = true := decide_eq_true (by omega)
              have hwi4 : IntKind.i64.wrap ((i : Int) + 1) = (i : Int) + 1 := IntWalk.i64_in _ (by omega)
              clear hkr
              go_wp2_with (go_at_call 16; refine (live_any _).mono ?_; rintro e w9 ⟨rfl, hk9⟩; have HK9 := hid (HK.out.tr hk9); clear hk9)
              go_ret
              exact ⟨rfl, HKM.out.tr (HK7.out.tr (HK8.out.tr HK9.out))⟩

set_option maxRecDepth 100000 in
set_option maxHeartbeats 8000000 in
theorem orders_false {B : Nat → Prop} {w : World} {lv : Value} {f : Int} {xs : List Int} (hv : SliceIn B w 1 lv xs.length (u32s xs)) (hf : 0 ≤ f ∧ f < 4294967296) (hx : ∀ x ∈ xs, 0 ≤ x ∧ x < 4294967296) (hl : xs.length * 4 ≤ 140737488351232) :
    Calls Try.prog 5 #[.int .u32 f, lv, .bool false] w fun e w' => e = .returned (.bool true) ∧ Kept [] w w' := by
  obtain ⟨ao, cap, rfl⟩ := hv.form
  obtain ⟨i22, hi22, hz22, hs22, hy22⟩ := info_parts Try.info22
  have I22 := hid hi22
  have HV := hid hv
  have HX := hid hx
  have HFIT := hid (show ∀ (y : Int), 0 ≤ y ∧ y < 4294967296 → ∀ W, Calls Try.prog 20 #[.bool false, .int .u32 y] W fun e w' => e = .returned (.tuple #[.int .i64 16, .int .u32 (fitX false y)]) ∧ W = w' from fun y hy W => fit_any false y W hy)
  have hF0 := fit_in false hf
  rw [show mOf (fitB false) = 65536 from rfl] at hF0
  have HF1 := hid (HFIT.out f hf)
  have HMB0 := hid (show ∀ y ∈ xs.map (fitX false), 0 ≤ y ∧ y < 65536 from fun y hy => by
    obtain ⟨x, hm, rfl⟩ := List.mem_map.1 hy
    exact fit_in false (hx x hm))
  have hML : (xs.map (fitX false)).length = xs.length := by simp
  have HMI := hid (show ∀ i, i < xs.length → fitX false (xs.getD i 0) = (xs.map (fitX false)).getD i 0 from fun i hi => by simp [List.getD, hi])
  generalize xs.map (fitX false) = M at *
  generalize fitX false f = x0 at *
  clear hi22 hv hx hf
  go_enter Try.func5, Try.ntmps5
  go_wp2_with fail
  refine (HF1.out _).mono ?_
  rintro e w1 ⟨rfl, rfl⟩
  go_wp2_with fail
  go_loopw [9, 10] (fun v iv wr => ∃ i : Nat, i ≤ xs.length ∧ iv = .int .i64 i ∧ wr.ownsRow w.heap.size 22 1 v i (u32s (M.take i)) ∧ Kept [] w wr) (fun _ iv _ => xs.length - (intOf iv).toNat)
  case atStart => exact ⟨0, Nat.zero_le _, rfl, ⟨rfl, .inl ⟨rfl, rfl⟩⟩, Kept.refl [] w⟩
  case round =>
    obtain ⟨i, hi, rfl, hown, hkr⟩ := hrel
    obtain ⟨vo, vc, rfl⟩ := (SliceIn.owned hown).form
    have HO := hid hown
    have HK := hid hkr
    have hws := hkr.size
    have hwi : IntKind.i64.wrap ((i : Int) + 1) = (i : Int) + 1 := IntWalk.i64_in _ (by omega)
    by_cases hlt : i < xs.length
    · have HVr := hid (HV.out.carry hkr.size fun b hb _ => hkr.block b hb (by simp))
      obtain ⟨b, off, hao, _, _, hb, hcell⟩ := HVr.out.rows (by omega)
      subst hao
      have ci := hcell i _ (u32s_get hlt)
      have HFX := hid (HFIT.out _ (HX.out _ (getD_mem hlt)))
      have hltM : i < M.length := by omega
      have HN := hid (show u32s (M.take (i + 1)) = u32s (M.take i) ++ [.int .u32 (M.getD i 0)] from by
        have e : M.getD i 0 = M[i] := by simp [List.getD, hltM]
        rw [e, List.take_succ_eq_append_getElem hltM]
        simp only [u32s, List.map_append, List.map_cons, List.map_nil])
      rw [HMI.out i hlt] at HFX
      clear hcell hown hkr
      generalize M.getD i 0 = y at *
      generalize xs.getD i 0 = x at *
      go_wp2_with fail
      refine (HFX.out _).mono ?_
      rintro e w2 ⟨rfl, rfl⟩
      go_wp2_with (at_builtin; refine wpList_append_in _ rfl (.tmp 43) (.tmp 45) 30 rfl w.heap.size 22 i22 _ 1 4 Try.underlying30 I22.out hz22 hs22 hy22 rfl (by decide) _ _ _ rfl (HO.out.alloc _) Any _ 1 _ rfl (block_in (blk_new _ _) rfl) (by simp [Value.oneCell']) (by unfold maxLen; omega) (by omega) (by simp <;> omega) ?_)
      intro v4 w4 ho4 hg4 _
      have HF := hid (show w4.ownsRow w.heap.size 22 1 v4 (i + 1) (u32s (M.take (i + 1))) ∧ Kept [] w w4 from ⟨by rw [HN.out]; exact ho4, kept_in (HK.out.alloc _) (HO.out.alloc _) hg4⟩)
      clear ho4 hg4
      go_wp2
      go_roundw
      case rel => exact ⟨i + 1, by omega, by go_num, HF.out.1, HF.out.2⟩
      case measure => simp [intOf]; omega
    · obtain rfl : i = xs.length := by omega
      have hmt : M.take xs.length = M := by rw [← hML]; exact List.take_length
      rw [hmt, ← hML] at HO
      rw [← hML]
      rw [← hML] at hl
      clear hown hkr hwi hlt hi HV HX HMI hmt hML
      have hw0 : wrong 16 (x0 :: M) = 0 := fit_right false (l := x0 :: M) (fun y hy => by
        rcases List.mem_cons.1 hy with rfl | hy
        · exact hF0.2
        · exact (HMB0.out y hy).2)
      have hS1 := Sort_any (fun b => w.heap.size ≤ b) 16 x0 M _ wr (SliceIn.owned HO.out) (by omega) (fun y hy => by have := HMB0.out y hy; omega) (by omega)
      unfold SortedR at hS1
      simp only [hw0, if_true] at hS1
      have HS1 := hid hS1
      clear hS1 hw0
      go_wp2_with fail
      refine HS1.out.mono ?_
      rintro e w5 ⟨v5, o, rfl, hmet, ho5, hk5⟩
      have hmet : Met 65536 x0 M o := hmet
      obtain ⟨oo, oc, rfl⟩ := (SliceIn.owned ho5).form
      have HMET := hid hmet
      have hol := met_length hmet
      have HOB := hid (show ∀ y ∈ o, 0 ≤ y ∧ y < 65536 from fun y hy => HMB0.out y ((hmet.2 y).1 hy))
      have HO5 := hid ho5
      have HK5 := hid hk5
      have hw0 : wrong 16 (x0 :: o) = 0 := fit_right false (l := x0 :: o) (fun y hy => by
        rcases List.mem_cons.1 hy with rfl | hy
        · exact hF0.2
        · exact (HOB.out y hy).2)
      have hS2 := Sort_any (fun b => wr.heap.size ≤ b) 16 x0 o _ w5 (SliceIn.owned ho5) (by omega) (fun y hy => by have := HOB.out y hy; omega) (by omega)
      unfold SortedR at hS2
      simp only [hw0, if_true] at hS2
      have HS2 := hid hS2
      clear hS2 hw0 hmet ho5 hk5
      go_wp2_with fail
      refine HS2.out.mono ?_
      rintro e w6 ⟨v6, p, rfl, hmet2, ho6, hk6⟩
      have hmet2 : Met 65536 x0 o p := hmet2
      obtain rfl : p = o := hmet2.unique (met_again HMET.out)
      obtain ⟨po, pc, rfl⟩ := (SliceIn.owned ho6).form
      have HO56 := hid (ownsRow_kept HO5.out hk6 (by simp))
      have HK6 := hid (HK5.out.tr hk6)
      have HSM := hid (show Calls Try.prog 19 #[.slice oo p.length oc, .slice po p.length pc] w6 fun e w' => e = .returned (.bool true) ∧ Kept [] w6 w' from by
        have h := Same_any (SliceIn.owned HO56.out) (SliceIn.owned ho6) (by omega)
        rw [decide_eq_true rfl] at h
        exact h)
      clear hmet2 ho6 hk6
      go_wp2_with (go_at_call 19; refine HSM.out.mono ?_; rintro e w7 ⟨rfl, hk7⟩; have HK7 := hid (HK6.out.tr hk7); have HO7 := hid (ownsRow_kept HO56.out hk7 (by simp)); clear hk7)
      have HM7 := hid (ownsRow_kept HO.out HK7.out (by simp))
      have HKM := hid HK.out
      obtain ⟨wq, rfl⟩ : ∃ wq : World, wq = wr := ⟨_, rfl⟩
      clear HK
      go_loopw [17] (fun iv wr' => ∃ i : Nat, i ≤ M.length ∧ iv = .int .i64 i ∧ Kept [] w7 wr') (fun iv _ => M.length - (intOf iv).toNat)
      case atStart => exact ⟨0, Nat.zero_le _, rfl, Kept.refl [] _⟩
      case round =>
        obtain ⟨i, hi, rfl, hkr⟩ := hrel
        have HK := hid hkr
        have hwi : IntKind.i64.wrap ((i : Int) + 1) = (i : Int) + 1 := IntWalk.i64_in _ (by omega)
        by_cases hlt : i < M.length
        · obtain ⟨b, off, hao, _, _, hb, hcell⟩ := (SliceIn.owned (ownsRow_kept HM7.out hkr (by simp))).rows (by omega)
          subst hao
          have HCM := hid (hcell i _ (u32s_get hlt))
          have hcount := met_count HMET.out (getD_mem hlt)
          clear hcell hkr
          generalize M.getD i 0 = y at *
          have HCO := hid hcount
          clear hcount
          obtain ⟨wo, rfl⟩ : ∃ wo : World, wo = wr := ⟨_, rfl⟩
          go_wp2_with fail
          go_loopw [18, 19] (fun nv kv wr => ∃ k : Nat, k ≤ p.length ∧ kv = .int .i64 k ∧ nv = .int .i64 ((p.take k).count y : Nat) ∧ Kept [] wo wr) (fun _ kv _ => p.length - (intOf kv).toNat)
          case atStart => exact ⟨0, Nat.zero_le _, rfl, rfl, Kept.refl [] _⟩
          case round =>
            obtain ⟨k, hk, rfl, rfl, hkq⟩ := hrel
            have HKQ := hid hkq
            have hwk : IntKind.i64.wrap ((k : Int) + 1) = (k : Int) + 1 := IntWalk.i64_in _ (by omega)
            by_cases hlk : k < p.length
            · obtain ⟨b2, off2, hao2, _, _, hb2, hcell⟩ := (SliceIn.owned (ownsRow_kept HO7.out (HK.out.tr hkq) (by simp))).rows (by omega)
              subst hao2
              have cz := hcell k _ (u32s_get hlk)
              have cm := hkq.cell HCM.out (by simp)
              have HCT := hid (count_step y hlk)
              have hcl : (p.take k).count y ≤ k := by
                have := List.count_le_length (a := y) (l := p.take k)
                rw [List.length_take] at this
                omega
              have hwc : IntKind.i64.wrap (((p.take k).count y : Nat) + 1 : Int) = ((p.take k).count y : Nat) + 1 := IntWalk.i64_in _ (by omega)
              clear hcell hkq
              generalize p.getD k 0 = z at *
              generalize (p.take k).count y = c at *
              by_cases hzy : z = y
              · have bz : (z == y) = true := by simpa using hzy
                have HR := hid (show (p.take (k + 1)).count y = c + 1 from by rw [HCT.out, if_pos hzy])
                clear hzy
                go_wp2_with fail
                go_quiet (fail)
                go_wp2
                go_roundw
                case rel => exact ⟨k + 1, by omega, by go_num, by rw [HR.out]; go_num, HKQ.out.drewN _⟩
                case measure => simp [intOf]; omega
              · have bz : (z == y) = false := by simpa using hzy
                have HR := hid (show (p.take (k + 1)).count y = c from by rw [HCT.out, if_neg hzy]; rfl)
                clear hzy
                go_wp2_with fail
                go_quiet (fail)
                go_wp2
                go_roundw
                case rel => exact ⟨k + 1, by omega, by go_num, by rw [HR.out], HKQ.out.drewN _⟩
                case measure => simp [intOf]; omega
            · obtain rfl : k = p.length := by omega
              clear hkq
              rw [List.take_length, HCO.out]
              go_wp2_with fail
              go_roundw
              case rel => exact ⟨i + 1, by omega, by go_num, HK.out.tr HKQ.out⟩
              case measure => simp [intOf]; omega
        · obtain rfl : i = M.length := by omega
          have HK8 := hid hkr
          obtain ⟨w8, rfl⟩ : ∃ w8 : World, w8 = wr := ⟨_, rfl⟩
          clear hkr HK
          go_wp2_with fail
          go_loopw [21] (fun iv wr => ∃ i : Nat, i ≤ p.length ∧ iv = .int .i64 i ∧ Kept [] w8 wr) (fun iv _ => p.length - (intOf iv).toNat)
          case atStart => exact ⟨0, Nat.zero_le _, rfl, Kept.refl [] _⟩
          case round =>
            obtain ⟨i, hi, rfl, hkr⟩ := hrel
            have HK := hid hkr
            by_cases hlt4 : i + 1 < p.length
            · obtain ⟨b2, off2, hao2, _, _, hb2, hcell⟩ := (SliceIn.owned (ownsRow_kept HO7.out (HK8.out.tr hkr) (by simp))).rows (by omega)
              subst hao2
              have c1 := hcell i _ (u32s_get (by omega))
              have c2 := hcell (i + 1) _ (u32s_get hlt4)
              have hb1 := HOB.out _ (getD_mem (k := i) (by omega))
              have hb2 := HOB.out _ (getD_mem hlt4)
              have hfar := far_next HMET.out hlt4
              unfold far at hfar
              clear hcell hkr
              generalize p.getD i 0 = a1 at *
              generalize p.getD (i + 1) 0 = a2 at *
              have e1 : (a1 + 65536 - x0) % 65536 = (a1 - x0) % 65536 := by omega
              have e2 : (a2 + 65536 - x0) % 65536 = (a2 - x0) % 65536 := by omega
              have bg : decide ((a2 + 65536 - x0) % 65536 ≤ (a1 + 65536 - x0) % 65536) = false := decide_eq_false (by omega)
              have hq1 : (a1 + 65536 - x0) % 18446744073709551616 = a1 + 65536 - x0 := by omega
              have hq2 : (a2 + 65536 - x0) % 18446744073709551616 = a2 + 65536 - x0 := by omega
              have hq3 : (a1 + 65536) % 18446744073709551616 = a1 + 65536 := by omega
              have hq4 : (a2 + 65536) % 18446744073709551616 = a2 + 65536 := by omega
              have hq5 : a1 % 18446744073709551616 = a1 := by omega
              have hq6 : a2 % 18446744073709551616 = a2 := by omega
              have hq7 : x0 % 18446744073709551616 = x0 := by omega
              have hin : (i : Int) + 1 < (p.length : Int) := by omega
              have hwi4 : IntKind.i64.wrap ((i : Int) + 1) = (i : Int) + 1 := IntWalk.i64_in _ (by omega)
              clear e1 e2 hfar
              go_wp2_with fail
              go_quiet (fail)
              go_wp2
              go_roundw
              case rel => exact ⟨i + 1, by omega, by go_num, HK.out.drewN _⟩
              case measure => simp [intOf]; omega
            · have bn : decide ((i : Int) + 1 < (p.length : Int)) = false := decide_eq_false (by omega)
              have ble : decide ((p.length : Int) ≤ (M.length : Int)) = true := decide_eq_true (by omega)
              have hwi4 : IntKind.i64.wrap ((i : Int) + 1) = (i : Int) + 1 := IntWalk.i64_in _ (by omega)
              clear hkr
              go_wp2_with (go_at_call 16; refine (live_any _).mono ?_; rintro e w9 ⟨rfl, hk9⟩; have HK9 := hid (HK.out.tr hk9); clear hk9)
              go_ret
              exact ⟨rfl, HKM.out.tr (HK7.out.tr (HK8.out.tr HK9.out))⟩

theorem orders_any {B : Nat → Prop} {w : World} {lv : Value} {f : Int} {wide : Bool} {xs : List Int} (hv : SliceIn B w 1 lv xs.length (u32s xs)) (hf : 0 ≤ f ∧ f < 4294967296) (hx : ∀ x ∈ xs, 0 ≤ x ∧ x < 4294967296) (hl : xs.length * 4 ≤ 140737488351232) :
    Calls Try.prog 5 #[.int .u32 f, lv, .bool wide] w fun e w' => e = .returned (.bool true) ∧ Kept [] w w' := by
  cases wide
  · exact orders_false hv hf hx hl
  · exact orders_true hv hf hx hl

end Go.Proofs.Ytomdbdliniiffaa
