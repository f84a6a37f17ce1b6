/-
  The reference's Span; the law SerialSpans: what they return.
-/
import Derived.Test.YtomdbdliniiffaaLive
namespace Go.Proofs.Ytomdbdliniiffaa
open Go.RowKit

theorem runs_begin' {m : Int} {l : List Int} {i : Nat} (h : i < l.length) (hn : ∀ j, j + 1 = i → ¬ (l.getD j 0 + 1) % m = l.getD i 0) : runs m (l.take (i + 1)) = runs m (l.take i) ++ [(l.getD i 0, l.getD i 0)] := by
  have e : l.getD i 0 = l[i] := by simp [List.getD, h]
  rw [e]
  refine runs_begin h (fun j hj hc => hn j hj ?_)
  have e2 : l.getD j 0 = l[j] := by simp [List.getD, show j < l.length by omega]
  rw [e, e2]
  exact hc
theorem runs_on' {m : Int} {l : List Int} {k : Nat} {o : List (Int × Int)} {p : Int} (h : k + 1 < l.length) (he : runs m (l.take (k + 1)) = o ++ [(p, l.getD k 0)]) (hc : (l.getD k 0 + 1) % m = l.getD (k + 1) 0) : runs m (l.take (k + 1 + 1)) = o ++ [(p, l.getD (k + 1) 0)] := by
  have e1 : l.getD k 0 = l[k] := by simp [List.getD, show k < l.length by omega]
  have e2 : l.getD (k + 1) 0 = l[k + 1] := by simp [List.getD, h]
  rw [e1] at he hc
  rw [e2] at hc ⊢
  exact runs_on h he hc

theorem kept_as {w wr W : World} (hk : Kept [] w wr) (o : Obj) (h1 : W.heap = (wr.alloc o).heap) (h2 : W.os = wr.os) (h3 : W.tape = wr.tape) (h4 : W.output = wr.output) : Kept [] w W :=
  hk.tr ⟨h2, h3, h4, by rw [h1]; simp, fun b hb _ => by rw [h1]; exact ((Kept.refl [] wr).alloc o).block b hb (by simp)⟩
theorem block_as {wr W : World} {size : Nat} {cs : Array Value} {t : TypeId} (h : W.heap = (wr.alloc (.cells cs t)).heap) (hs : cs.size = size) : SliceIn Any W size (.slice (some ⟨wr.heap.size, 0, none⟩) 1 1) 1 cs.toList :=
  block_in (b := wr.heap.size) (by rw [h]; exact blk_new wr (.cells cs t)) hs

set_option maxRecDepth 100000 in
set_option maxHeartbeats 8000000 in
theorem RefSpan_any (B : Nat → Prop) (bits : Int) (xs : List Int) (lv : Value) (w : World) (hv : SliceIn B w 1 lv xs.length (u32s xs)) (hx : ∀ x ∈ xs, 0 ≤ x ∧ x < 4294967296) (hl : xs.length ≤ 140737488355328) :
    Calls Try.prog 22 #[.int .i64 bits, lv] w (Spanned bits xs w) := by
  obtain ⟨ao, cap, rfl⟩ := hv.form
  have HR := hid (Check_any B bits xs _ w hv hx hl)
  by_cases h0 : wrong bits xs = 0
  · have b0 : (wrong bits xs != 0) = false := by simp [h0]
    by_cases h1 : 256 < xs.length
    · have HP := hid (fun w' (hk : Kept [] w w') => spanned_bad (bits := bits) (xs := xs) (r := 6) (by simp [spanE, h0, h1]) (by decide) hk)
      have h1' : (256 : Int) < (xs.length : Int) := by omega
      generalize Spanned bits xs w = Post at *
      clear h0
      go_enter Try.func22, Try.ntmps22
      go_wp2_with fail
      refine HR.out.mono ?_
      rintro e w1 ⟨rfl, hk1⟩
      have HK1 := hid hk1
      clear hk1
      go_wp2
      exact HP.out _ HK1.out
    · have HE := hid (show spanE bits xs = 0 from by simp [spanE, h0, h1])
      have HP := hid (fun (v : Value) w' (ho : w'.ownsRow w.heap.size 42 2 v (runs (mOf bits) xs).length (pairsV (runs (mOf bits) xs))) (hk : Kept [] w w') => spanned_ok HE.out ho hk)
      have h1' : ¬ (256 : Int) < (xs.length : Int) := by omega
      have HV := hid hv
      have HX := hid hx
      obtain ⟨i42, hi42, hz42, hs42, hy42⟩ := info_parts Try.info42
      have I42 := hid hi42
      clear hi42 hv hx
      generalize Spanned bits xs w = Post at *
      clear h0
      go_enter Try.func22, Try.ntmps22
      go_wp2_with fail
      refine HR.out.mono ?_
      rintro e w1 ⟨rfl, hk1⟩
      have HK1 := hid hk1
      have HO1 := hid (show (w1.alloc (.cells #[] 42)).ownsRow w.heap.size 42 2 (.slice (some ⟨w1.heap.size, 0, none⟩) 0 0) 0 [] from World.ownsRow_made w1 #[] 0 hk1.size (Nat.zero_le _) rfl)
      clear hk1
      go_wp2_with fail
      go_loopw [7, 8] (fun v iv wr => ∃ i : Nat, i ≤ xs.length ∧ iv = .int .i64 i ∧ wr.ownsRow w.heap.size 42 2 v (runs (mOf bits) (xs.take i)).length (pairsV (runs (mOf bits) (xs.take i))) ∧
        (∀ j, j + 1 = i → i < xs.length → ¬ (xs.getD j 0 + 1) % mOf bits = xs.getD i 0) ∧ Kept [] w wr) (fun _ iv _ => xs.length - (intOf iv).toNat)
      case atStart => exact ⟨0, Nat.zero_le _, rfl, HO1.out, fun j hj => by omega, HK1.out.alloc _⟩
      case round =>
        obtain ⟨i, hi, rfl, hown, hgap, hkr⟩ := hrel
        have HK := hid hkr
        have hrl : (runs (mOf bits) (xs.take i)).length ≤ i := by
          have := runs_length (mOf bits) (xs.take i)
          rw [List.length_take] at this
          omega
        obtain ⟨vo, vc, rfl⟩ := (SliceIn.owned hown).form
        by_cases hlt : i < xs.length
        · have RB := hid (runs_begin' hlt (fun j hj => hgap j hj hlt))
          have HO := hid hown
          have HVr := hid (HV.out.carry hkr.size fun b hb _ => hkr.block b hb (by simp))
          have hws := hkr.size
          obtain ⟨wo, rfl⟩ : ∃ wo : World, wo = wr := ⟨_, rfl⟩
          have HKW := hid HK.out
          clear hown hkr hgap HK
          generalize runs (mOf bits) (xs.take i) = o at *
          go_wp2_with fail
          go_loopw [9] (fun kv wr => ∃ k : Nat, i ≤ k ∧ k < xs.length ∧ kv = .int .i64 k ∧ runs (mOf bits) (xs.take (k + 1)) = o ++ [(xs.getD i 0, xs.getD k 0)] ∧ Kept [] wo wr) (fun kv _ => xs.length - (intOf kv).toNat)
          case atStart => exact ⟨i, Nat.le_refl _, hlt, rfl, RB.out, Kept.refl [] _⟩
          case round =>
            obtain ⟨k, hik, hkl, rfl, hrn, hkq⟩ := hrel
            have HRN := hid hrn
            have HKQ := hid hkq
            have HOq := hid (ownsRow_kept HO.out hkq (by simp))
            have HKWq := hid (HKW.out.tr hkq)
            have hwq := hkq.size
            obtain ⟨b, off, hao, _, _, hb, hcell⟩ := HVr.out.rows (by omega)
            subst hao
            have ci := hkq.cell (hcell i _ (u32s_get hlt)) (by simp)
            have ck := hkq.cell (hcell k _ (u32s_get hkl)) (by simp)
            have hbk := HX.out _ (getD_mem hkl)
            have hwk : IntKind.i64.wrap ((k : Int) + 1) = (k : Int) + 1 := IntWalk.i64_in _ (by omega)
            have HOT := hid (show ∀ W : World, W.heap = (wr.alloc (.cells #[.int .u32 (xs.getD i 0), .int .u32 (xs.getD k 0)] 42)).heap → W.ownsRow w.heap.size 42 2 (.slice vo o.length vc) o.length (pairsV o) from fun W h => own_heap (HOq.out.alloc _) h)
            have HINT := hid (show ∀ W : World, W.heap = (wr.alloc (.cells #[.int .u32 (xs.getD i 0), .int .u32 (xs.getD k 0)] 42)).heap → SliceIn Any W 2 (.slice (some ⟨wr.heap.size, 0, none⟩) 1 1) 1 (pairsV [(xs.getD i 0, xs.getD k 0)]) from fun W h => block_as h rfl)
            have HFIN := hid (show ∀ (W : World) (v4 : Value) (w4 : World), W.grownBy w4 (Value.ownBlock (.slice vo o.length vc)) → w4.ownsRow w.heap.size 42 2 v4 (o.length + 1) (pairsV o ++ pairsV [(xs.getD i 0, xs.getD k 0)]) → W.heap = (wr.alloc (.cells #[.int .u32 (xs.getD i 0), .int .u32 (xs.getD k 0)] 42)).heap → W.os = wr.os → W.tape = wr.tape → W.output = wr.output →
                w4.ownsRow w.heap.size 42 2 v4 (runs (mOf bits) (xs.take (k + 1))).length (pairsV (runs (mOf bits) (xs.take (k + 1)))) ∧ Kept [] w w4 from fun W v4 w4 hg ho h1 h2 h3 h4 => by
              refine ⟨?_, kept_in (kept_as HKWq.out _ h1 h2 h3 h4) (HOT.out W h1) hg⟩
              rw [HRN.out, List.length_append, pairsV_append]
              exact ho)
            have HCELL := hid hcell
            clear hcell hrn hkq
            by_cases hn1 : k + 1 < xs.length
            · have ck1 := HKQ.out.cell (HCELL.out (k + 1) _ (u32s_get hn1)) (by simp)
              have hn1' : (k : Int) + 1 < (xs.length : Int) := by omega
              have bn : decide ((k : Int) + 1 < (xs.length : Int)) = true := decide_eq_true hn1'
              have hbk1 := HX.out _ (getD_mem hn1)
              have hx1 : IntKind.i64.wrap (xs.getD k 0) = xs.getD k 0 := IntWalk.i64_in _ (by omega)
              have hx2 : IntKind.i64.wrap (xs.getD (k + 1) 0) = xs.getD (k + 1) 0 := IntWalk.i64_in _ (by omega)
              have hx5 : IntKind.i64.wrap (xs.getD k 0 + 1) = xs.getD k 0 + 1 := IntWalk.i64_in _ (by omega)
              by_cases hc : (xs.getD k 0 + 1) % mOf bits = xs.getD (k + 1) 0
              · have bc : ((xs.getD k 0 + 1) % mOf bits == xs.getD (k + 1) 0) = true := by simpa using hc
                have HN := hid (runs_on' hn1 HRN.out hc)
                clear hc
                generalize xs.getD i 0 = xi at *
                generalize xs.getD k 0 = x at *
                generalize hye : xs.getD (k + 1) 0 = y at *
                have HYE := hid hye
                clear hye
                go_wp2_with fail
                go_quiet ((go_at_call 27; exact quiet_same (rest_any _ _ _)))
                go_wp2
                go_roundw
                case rel => exact ⟨k + 1, by omega, hn1, by go_num, by rw [HYE.out]; exact HN.out, HKQ.out.drewN _⟩
                case measure => simp [intOf]; omega
              · have bc : ((xs.getD k 0 + 1) % mOf bits == xs.getD (k + 1) 0) = false := by simpa using hc
                have HGAP := hid (show ∀ j, j + 1 = k + 1 → k + 1 < xs.length → ¬ (xs.getD j 0 + 1) % mOf bits = xs.getD (k + 1) 0 from fun j hj _ => by
                  obtain rfl : j = k := by omega
                  exact hc)
                clear hc
                generalize xs.getD i 0 = xi at *
                generalize hye : xs.getD (k + 1) 0 = y at *
                have HYE := hid hye
                clear hye
                generalize xs.getD k 0 = x at *
                go_wp2_with fail
                go_quiet ((go_at_call 27; exact quiet_same (rest_any _ _ _)))
                go_wp2_with fail
                go_region_law (refine step_append_in rfl (.tmp 49) (.tmp 59) 39 rfl w.heap.size 42 i42 _ 2 8 Try.underlying39 I42.out hz42 hs42 hy42 rfl (by decide) _ o.length (pairsV o) (by simp [Act.eval]) (HOT.out _ rfl) Any _ 1 _ (by simp [Act.eval]) (HINT.out _ rfl) (by simp [pairsV, pairV, Value.oneCell']) (by unfold maxLen; omega) (by omega) (by simp; omega) ?_; intro v4 w4 ho4 hg4)
                all_goals
                  have HF := hid (HFIN.out _ _ _ hg4.out ho4.out rfl rfl rfl rfl)
                  clear ho4 hg4
                  go_wp2
                  go_roundw
                  case rel => exact ⟨k + 1, by omega, by go_num, HF.out.1, by rw [HYE.out]; exact HGAP.out, HF.out.2⟩
                  case measure => simp [intOf]; omega
            · have bn : decide ((k : Int) + 1 < (xs.length : Int)) = false := decide_eq_false (by omega)
              generalize xs.getD i 0 = xi at *
              generalize xs.getD k 0 = x at *
              go_wp2_with fail
              go_quiet (fail)
              go_wp2_with fail
              go_region_law (refine step_append_in rfl (.tmp 49) (.tmp 59) 39 rfl w.heap.size 42 i42 _ 2 8 Try.underlying39 I42.out hz42 hs42 hy42 rfl (by decide) _ o.length (pairsV o) (by simp [Act.eval]) (HOT.out _ rfl) Any _ 1 _ (by simp [Act.eval]) (HINT.out _ rfl) (by simp [pairsV, pairV, Value.oneCell']) (by unfold maxLen; omega) (by omega) (by simp; omega) ?_; intro v4 w4 ho4 hg4)
              all_goals
                have HF := hid (HFIN.out _ _ _ hg4.out ho4.out rfl rfl rfl rfl)
                clear ho4 hg4
                go_wp2
                go_roundw
                case rel => exact ⟨k + 1, by omega, by go_num, HF.out.1, fun j hj hj2 => by omega, HF.out.2⟩
                case measure => simp [intOf]; omega
        · obtain rfl : i = xs.length := by omega
          rw [List.take_length] at hown
          have HF := hid (HP.out _ _ hown hkr)
          clear hown hkr
          rw [List.take_length]
          go_wp2
          exact HF.out
  · have HP := hid (fun w' (hk : Kept [] w w') => spanned_bad (bits := bits) (xs := xs) (r := wrong bits xs) (by simp [spanE, h0]) h0 hk)
    have b0 : (wrong bits xs != 0) = true := by simp [h0]
    generalize Spanned bits xs w = Post at *
    clear h0
    go_enter Try.func22, Try.ntmps22
    go_wp2_with fail
    refine HR.out.mono ?_
    rintro e w1 ⟨rfl, hk1⟩
    have HK1 := hid hk1
    clear hk1
    go_wp2
    exact HP.out _ HK1.out

set_option maxRecDepth 100000 in
set_option maxHeartbeats 4000000 in
theorem spans_any {B : Nat → Prop} {bits : Int} {w : World} {lv : Value} {xs : List Int} (hv : SliceIn B w 1 lv xs.length (u32s xs)) (hx : ∀ x ∈ xs, 0 ≤ x ∧ x < 4294967296) (hl : xs.length * 4 ≤ 140737488351232) :
    Calls Try.prog 6 #[.int .i64 bits, lv] w fun e w' => e = .returned (.bool true) ∧ Kept [] w w' := by
  obtain ⟨ao, cap, rfl⟩ := hv.form
  have H1 := hid (Span_any B bits xs _ w hv hx (by omega))
  have H2 := hid (show ∀ W, Kept [] w W → Calls Try.prog 22 #[.int .i64 bits, .slice ao xs.length cap] W (Spanned bits xs W) from fun W hk => RefSpan_any _ bits xs _ W (hv.carry hk.size fun b hb _ => hk.block b hb (by simp)) hx (by omega))
  have hol : (spanO bits xs).length ≤ xs.length := by
    unfold spanO
    split
    · exact runs_length _ _
    · exact Nat.zero_le _
  unfold Spanned at H1 H2
  generalize spanO bits xs = o at *
  generalize spanE bits xs = er at *
  have be : (er != er) = false := by simp
  clear hv hx
  go_enter Try.func6, Try.ntmps6
  go_wp2_with fail
  refine H1.out.mono ?_
  rintro e w1 ⟨v1, rfl, ho1, hk1⟩
  obtain ⟨ao1, c1, rfl⟩ := (SliceIn.owned ho1).form
  have HO1 := hid ho1
  have HK1 := hid hk1
  clear ho1 hk1
  go_wp2_with fail
  refine (H2.out _ HK1.out).mono ?_
  rintro e w2 ⟨v2, rfl, ho2, hk2⟩
  obtain ⟨ao2, c2, rfl⟩ := (SliceIn.owned ho2).form
  have HO2 := hid ho2
  have HO12 := hid (ownsRow_kept HO1.out hk2 (by simp))
  have HK2 := hid (HK1.out.tr hk2)
  clear ho2 hk2
  have bl : ((o.length : Int) != (o.length : Int)) = false := by simp
  go_wp2_with fail
  go_loopw [9] (fun iv wr => ∃ i : Nat, i ≤ o.length ∧ iv = .int .i64 i ∧ Kept [] w2 wr) (fun iv _ => o.length - (intOf iv).toNat)
  case atStart => exact ⟨0, Nat.zero_le _, rfl, Kept.refl [] _⟩
  case round =>
    obtain ⟨i, hi, rfl, hkr⟩ := hrel
    have HK := hid hkr
    have hwi : IntKind.i64.wrap ((i : Int) + 1) = (i : Int) + 1 := IntWalk.i64_in _ (by omega)
    by_cases hlt : i < o.length
    · have h1 := ownsRow_kept HO12.out hkr (by simp)
      have h2 := ownsRow_kept HO2.out hkr (by simp)
      obtain ⟨g1, c1', e1⟩ := own_form h1 (by omega)
      cases e1
      obtain ⟨g2, c2', e2⟩ := own_form h2 (by omega)
      cases e2
      have hp := pairsV_get o i hlt
      have d0 := (own_set h1 hp.1).1
      have d1 := (own_set h1 hp.2).1
      have k0 := (own_set h2 hp.1).1
      have k1 := (own_set h2 hp.2).1
      generalize o[i] = p at *
      obtain ⟨p1, p2⟩ := p
      dsimp only at d0 d1 k0 k1
      have heq : ∀ W, (Op.equalIn 10000 42 (.agg #[.int .u32 p1, .int .u32 p2]) (.agg #[.int .u32 p1, .int .u32 p2])).run Try.prog W = .ok true W := fun W => by
        have h := eq42 p1 p2 p1 p2 W
        rw [beq_self_eq_true] at h
        exact h
      clear h1 h2 hp hkr
      go_wp2_with fail
      go_quiet (fail)
      go_wp2
      go_roundw
      case rel => exact ⟨i + 1, by omega, by go_num, HK.out.drewN _⟩
      case measure => simp [intOf]; omega
    · obtain rfl : i = o.length := by omega
      go_wp2_with fail
      refine (live_any _).mono ?_
      rintro e w5 ⟨rfl, hk5⟩
      have HK5 := hid (HK2.out.tr (HK.out.tr hk5))
      clear hk5
      go_wp2
      go_ret
      exact ⟨rfl, HK5.out⟩

end Go.Proofs.Ytomdbdliniiffaa
