/-
  The reference's Sort; the law SerialSorts: what they return.
-/
import Derived.Test.YtomdbdliniiffaaLive
namespace Go.Proofs.Ytomdbdliniiffaa
open Go.RowKit

theorem slice_to {B : Nat → Prop} {w : World} {n cap k : Nat} {ao : Option Addr} {xs : List Value} (h : SliceIn B w 1 (.slice ao n cap) n xs) (hk : k ≤ n) :
    (∀ w', (Instr.slice 30 (.slice ao n cap) none (some (.int .i64 (k : Int))) none).run Try.prog w' = .ok (.slice ao k cap) w') ∧ SliceIn B w 1 (.slice ao k cap) k (xs.take k) := by
  have hkc : k ≤ cap := by
    rcases h.2 with ⟨h0, _⟩ | ⟨b, off, cap', he, h2, _⟩
    · omega
    · cases he; omega
  have h1 : (0 : Int) ≤ (k : Int) ∧ (k : Int) ≤ (cap : Int) := by omega
  obtain ⟨i, hi, _, hs, _⟩ := info_parts Try.info22
  have hl := h.1
  refine ⟨fun w' => ?_, by rw [List.length_take]; omega, ?_⟩
  · simp [Instr.slice, Instr.sliceBounds, Instr.sliceBound, asIntOf, run_underlying Try.underlying30, h1, sizeOf, typeInfo, hi]
    rw [if_pos hkc]
    have e0 : (if cap = 0 then ao else Option.map (fun x => x.add 0) ao) = ao := by
      cases ao with
      | none => simp
      | some ad => obtain ⟨b, off, spot⟩ := ad; cases spot <;> simp [Addr.add]
    rw [e0]
  · rcases h.2 with ⟨h0, ao', cap', he, hc⟩ | ⟨b, off, cap', he, h2, h3, h4, h5⟩
    · subst h0
      cases he
      have hk0 : k = 0 := by omega
      subst hk0
      exact .inl ⟨rfl, ao, cap, rfl, hc⟩
    · cases he
      refine .inr ⟨b, off, cap, rfl, hkc, h3, h4, fun j u hu => h5 j u ?_⟩
      rw [List.getElem?_take] at hu
      split at hu
      · exact hu
      · cases hu

theorem slice_from {B : Nat → Prop} {w : World} {n cap k : Nat} {ao : Option Addr} {xs : List Value} (h : SliceIn B w 1 (.slice ao n cap) n xs) (hk : k ≤ n) :
    ∃ xv, (∀ w', (Instr.slice 30 (.slice ao n cap) (some (.int .i64 (k : Int))) none none).run Try.prog w' = .ok xv w') ∧ SliceIn B w 1 xv (n - k) (xs.drop k) := by
  have hl := h.1
  have h1 : (0 : Int) ≤ (k : Int) ∧ (k : Int) ≤ (n : Int) := by omega
  obtain ⟨i, hi, _, hs, _⟩ := info_parts Try.info22
  refine ⟨.slice (if cap = k then ao else ao.map (·.add (k * 1))) (n - k) (cap - k), fun w' => ?_, ?_⟩
  · simp [Instr.slice, Instr.sliceBounds, Instr.sliceBound, asIntOf, run_underlying Try.underlying30, h1, sizeOf, typeInfo, hi, hs]
    intro hlt
    omega
  · rcases h.2 with ⟨h0, ao', cap', he, hc⟩ | ⟨b, off, cap', he, h2, h3, h4, h5⟩
    · subst h0
      cases he
      have : k = 0 := by omega
      subst this
      refine ⟨by have := hl; simp at this ⊢; exact this, .inl ⟨rfl, _, _, rfl, fun hn => ?_⟩⟩
      cases ao with
      | none => exact hc rfl
      | some ad => split at hn <;> simp at hn
    · cases he
      by_cases hkn : k < n
      · have hne : ¬ cap = k := by omega
        have hadd : (⟨b, off, none⟩ : Addr).add k = ⟨b, off + k, none⟩ := by unfold Addr.add; split <;> simp_all
        simp only [hne, if_false, Option.map_some, Nat.mul_one, hadd]
        refine ⟨by simp; omega, .inr ⟨b, off + k, cap - k, rfl, by omega, h3, h4, fun j u hu => ?_⟩⟩
        rw [List.getElem?_drop] at hu
        rw [show off + k + j = off + (k + j) by omega]
        exact h5 _ _ hu
      · have : k = n := by omega
        subst this
        refine ⟨by simp; omega, .inl ⟨by omega, _, _, by rw [Nat.sub_self], fun hn => ?_⟩⟩
        split at hn <;> simp at hn

set_option maxRecDepth 100000 in
set_option maxHeartbeats 8000000 in
theorem RefSort_any (B : Nat → Prop) (bits f : Int) (xs : List Int) (lv : Value) (w : World) (hv : SliceIn B w 1 lv xs.length (u32s xs)) (hf : 0 ≤ f ∧ f < 4294967296) (hx : ∀ x ∈ xs, 0 ≤ x ∧ x < 4294967296) (hl : (1 + xs.length) * 4 ≤ 140737488355328) :
    Calls Try.prog 18 #[.int .i64 bits, .int .u32 f, lv] w (SortedR bits f xs w) := by
  obtain ⟨ao, cap, rfl⟩ := hv.form
  obtain ⟨i22, hi22, hz22, hs22, hy22⟩ := info_parts Try.info22
  have I22 := hid hi22
  have HV := hid hv
  have HX := hid hx
  have HOW := hid (own_one w f)
  have HKA := hid ((Kept.refl [] w).alloc (.cells #[.int .u32 f] 22))
  have HIN := hid (hv.carry HKA.out.size fun b hb _ => HKA.out.block b hb (by simp))
  have HXF := hid (show ∀ x ∈ f :: xs, 0 ≤ x ∧ x < 4294967296 from fun x hm => by
    rcases List.mem_cons.1 hm with rfl | hm
    · exact hf
    · exact hx x hm)
  clear hi22 hv hx
  generalize hP : SortedR bits f xs w = Post
  have HP := hid hP
  clear hP
  go_enter Try.func18, Try.ntmps18
  go_wp2_with (at_builtin; refine wpList_append_in _ rfl (.tmp 16) (.tmp 17) 30 rfl w.heap.size 22 i22 _ 1 4 Try.underlying30 I22.out hz22 hs22 hy22 rfl (by decide) _ 1 (u32s [f]) rfl HOW.out B _ xs.length (u32s xs) rfl HIN.out (u32s_one _) (by unfold maxLen; omega) hl (by simp) ?_)
  intro v2 w2 ho2 hg2 _
  have HK2 := hid (kept_in HKA.out HOW.out hg2)
  have HC := hid (Check_any (fun b => w.heap.size ≤ b) bits (f :: xs) v2 w2 (by rw [List.length_cons, Nat.add_comm]; exact SliceIn.owned ho2) HXF.out (by rw [List.length_cons]; omega))
  clear ho2 hg2
  go_wp2_with fail
  refine HC.out.mono ?_
  rintro e w3 ⟨rfl, hk3⟩
  have HK3 := hid (HK2.out.tr hk3)
  clear hk3
  by_cases h0 : wrong bits (f :: xs) = 0
  · have b0 : (wrong bits (f :: xs) != 0) = false := by simp [h0]
    have HQ := hid (show ∀ (v : Value) (o : List Int) (w' : World), Met (mOf bits) f xs o → w'.ownsRow w.heap.size 22 1 v o.length (u32s o) → Kept [] w w' → Post (.returned (.tuple #[v, .int .i64 0])) w' from fun v o w' hm ho hk => by
      rw [← HP.out]
      exact ⟨v, o, by rw [h0], by rw [if_pos h0]; exact hm, ho, hk⟩)
    have HINM := hid (show ∀ x ∈ xs, 0 ≤ x ∧ x < mOf bits from fun x hm => ⟨(HX.out x hm).1, wrong_in h0 (List.mem_cons_of_mem _ hm) (HX.out x hm).2⟩)
    have HO3 := hid (show (w3.alloc (.cells #[] 22)).ownsRow w.heap.size 22 1 (.slice (some ⟨w3.heap.size, 0, none⟩) 0 0) 0 [] from World.ownsRow_made w3 #[] 0 HK3.out.size (Nat.zero_le _) rfl)
    clear h0
    go_wp2_with fail
    go_loopw [9, 10] (fun v iv wr => ∃ (i : Nat) (o : List Int), i ≤ xs.length ∧ iv = .int .i64 i ∧ wr.ownsRow w.heap.size 22 1 v o.length (u32s o) ∧ Met (mOf bits) f (xs.take i) o ∧ Kept [] w wr) (fun _ iv _ => xs.length - (intOf iv).toNat)
    case atStart => exact ⟨0, [], Nat.zero_le _, rfl, HO3.out, met_nil _ _, HK3.out.alloc _⟩
    case round =>
      obtain ⟨i, o, hi, rfl, hown, hmet, hkr⟩ := hrel
      obtain ⟨vo, vc, rfl⟩ := (SliceIn.owned hown).form
      have HO := hid hown
      have HM := hid hmet
      have HKW := hid hkr
      have hol := met_length hmet
      rw [List.length_take] at hol
      have hws := hkr.size
      obtain ⟨wo, rfl⟩ : ∃ wo : World, wo = wr := ⟨_, rfl⟩
      clear hown hmet hkr
      by_cases hlt : i < xs.length
      · have HVr := hid (HV.out.carry HKW.out.size fun b hb _ => HKW.out.block b hb (by simp))
        obtain ⟨b, off, hao, _, _, hb, hcell⟩ := HVr.out.rows (by omega)
        subst hao
        have hci := hcell i _ (u32s_get hlt)
        have HCI := hid hci
        have hxk := HX.out _ (getD_mem hlt)
        have HG := hid (show xs.getD i 0 = xs[i] from by simp [List.getD, hlt])
        have HYB := hid (show ∀ y ∈ o, 0 ≤ y ∧ y < 4294967296 from fun y hy => HX.out y (List.mem_of_mem_take ((HM.out.2 y).1 hy)))
        have HSAME := hid (show xs[i] ∈ o → Met (mOf bits) f (xs.take (i + 1)) o from met_same hlt HM.out)
        have HPUT := hid (show ∀ k, k ≤ o.length → (∀ j (hj : j < k) (h : j < o.length), far (mOf bits) f o[j] < far (mOf bits) f xs[i]) → (∀ h : k < o.length, ¬ far (mOf bits) f o[k] < far (mOf bits) f xs[i] ∧ o[k] ≠ xs[i]) → Met (mOf bits) f (xs.take (i + 1)) (o.take k ++ (xs[i] :: o.drop k)) from
          fun k hk h1 h2 => met_put HINM.out hlt HM.out hk (fun j hj => h1 j hj (by omega)) h2)
        have hwi : IntKind.i64.wrap ((i : Int) + 1) = (i : Int) + 1 := IntWalk.i64_in _ (by omega)
        clear hcell
        rw [← HG.out] at HSAME HPUT
        generalize xs.getD i 0 = x at *
        have hx1 : IntKind.i64.wrap x = x := IntWalk.i64_in _ (by omega)
        have hf1 : IntKind.i64.wrap f = f := IntWalk.i64_in _ (by omega)
        have hs1 : IntKind.i64.wrap (x - f) = x - f := IntWalk.i64_in _ (by omega)
        have hs2 : wrap64 (x - f) = x - f := IntWalk.wrap64_in _ (by omega)
        go_wp2_with fail
        refine (rest_any bits (x - f) _).mono ?_
        rintro e w4 ⟨rfl, rfl⟩
        obtain ⟨d, hd⟩ : ∃ d, far (mOf bits) f x = d := ⟨_, rfl⟩
        rw [show (x - f) % mOf bits = d from hd]
        rw [hd] at HPUT
        clear hd
        go_wp2_with fail
        go_loopw [12] (fun kv wr => ∃ k : Nat, k ≤ o.length ∧ kv = .int .i64 k ∧ (∀ j (hj : j < k) (h : j < o.length), far (mOf bits) f o[j] < d) ∧ Kept [] wo wr) (fun kv _ => o.length - (intOf kv).toNat)
        case atStart => exact ⟨0, Nat.zero_le _, rfl, fun j hj _ => by omega, Kept.refl [] _⟩
        case round =>
          obtain ⟨k, hk, rfl, hless, hkq⟩ := hrel
          have HLESS := hid hless
          have HKQ := hid hkq
          have HOq := hid (ownsRow_kept HO.out hkq (by simp))
          have HKWq := hid (HKW.out.tr hkq)
          have hwq := hkq.size
          have ci := hkq.cell HCI.out (by simp)
          have hwk : IntKind.i64.wrap ((k : Int) + 1) = (k : Int) + 1 := IntWalk.i64_in _ (by omega)
          clear hless hkq
          by_cases hko : k < o.length
          · have hko' : (k : Int) < (o.length : Int) := by omega
            have bn : decide ((k : Int) < (o.length : Int)) = true := decide_eq_true hko'
            obtain ⟨b2, off2, hvo, _, _, hb2, hc2⟩ := (SliceIn.owned HOq.out).rows (by omega)
            subst hvo
            have ck := hc2 k _ (u32s_get hko)
            have hyb := HYB.out _ (getD_mem hko)
            have HY := hid (show o.getD k 0 = o[k] from by simp [List.getD, hko])
            clear hc2
            generalize o.getD k 0 = y at *
            have hy1 : IntKind.i64.wrap y = y := IntWalk.i64_in _ (by omega)
            have hy2 : IntKind.i64.wrap (y - f) = y - f := IntWalk.i64_in _ (by omega)
            have hy3 : wrap64 (y - f) = y - f := IntWalk.wrap64_in _ (by omega)
            by_cases hfar : (y - f) % mOf bits < d
            · have bf : decide ((y - f) % mOf bits < d) = true := decide_eq_true hfar
              have HN := hid (show ∀ j (hj : j < k + 1) (h : j < o.length), far (mOf bits) f o[j] < d from fun j hj h => by
                by_cases hjk : j < k
                · exact HLESS.out j hjk h
                · obtain rfl : j = k := by omega
                  rw [← HY.out]
                  exact hfar)
              go_wp2_with (go_at_call 27; refine (rest_any bits (y - f) _).mono ?_; rintro e w5 ⟨rfl, rfl⟩)
              go_roundw
              case rel => exact ⟨k + 1, by omega, by go_num, HN.out, HKQ.out⟩
              case measure => simp [intOf]; omega
            · have bf : decide ((y - f) % mOf bits < d) = false := decide_eq_false hfar
              have HNF := hid (show ¬ far (mOf bits) f o[k] < d from by rw [← HY.out]; exact hfar)
              clear hfar
              by_cases hyx : y = x
              · have byx : (y == x) = true := by simpa using hyx
                have HIN1 := hid (HSAME.out (by rw [← hyx, HY.out]; exact List.getElem_mem hko))
                clear hyx
                go_wp2_with (go_at_call 27; refine (rest_any bits (y - f) _).mono ?_; rintro e w5 ⟨rfl, rfl⟩)
                go_quiet (fail)
                go_wp2
                go_roundw
                case rel => exact ⟨i + 1, o, by omega, by go_num, own_heap HOq.out rfl, HIN1.out, HKWq.out.drewN _⟩
                case measure => simp [intOf]; omega
              · have byx : (y == x) = false := by simpa using hyx
                have HPT := hid (HPUT.out k hk HLESS.out (fun h => ⟨by have := HNF.out; omega, by rw [← HY.out]; exact hyx⟩))
                clear hyx
                go_wp2_with (go_at_call 27; refine (rest_any bits (y - f) _).mono ?_; rintro e w5 ⟨rfl, rfl⟩)
                go_quiet (fail)
                have HMD := hid (show ((wr.drewN nq).alloc (.cells #[] 22)).ownsRow wr.heap.size 22 1 (.slice (some ⟨wr.heap.size, 0, none⟩) 0 0) 0 [] from World.ownsRow_made (wr.drewN nq) #[] 0 (Nat.le_refl _) (Nat.zero_le _) rfl)
                have HKM := hid (((Kept.refl [] wr).drewN nq).alloc (.cells #[] 22))
                obtain ⟨st1, st2⟩ := slice_to (SliceIn.owned (ownsRow_kept HOq.out HKM.out (by simp))) (k := k) (by omega)
                have HST2 := hid st2
                clear st2
                go_wp2_with (at_builtin; refine wpList_append_in _ rfl (.tmp 75) (.tmp 78) 30 rfl wr.heap.size 22 i22 _ 1 4 Try.underlying30 I22.out hz22 hs22 hy22 rfl (by decide) _ 0 [] rfl HMD.out _ _ k _ rfl HST2.out (by rw [u32s, ← List.map_take]; exact u32s_one _) (by unfold maxLen; omega) (by omega) (by simp <;> omega) ?_)
                intro v5 w5 ho5 hg5 _
                have hk5 := HKM.out.grown hg5 (fun j hj => by cases hj; exact .inr (Nat.le_refl _))
                have HO5 := hid ho5
                have HK5 := hid hk5
                have ci5 := hk5.cell ci (by simp)
                have hw5 := hk5.size
                clear ho5 hg5 hk5 st1
                go_wp2_with (at_builtin; refine wpList_append_in _ rfl (.tmp 80) (.tmp 85) 30 rfl wr.heap.size 22 i22 _ 1 4 Try.underlying30 I22.out hz22 hs22 hy22 rfl (by decide) _ _ _ rfl (HO5.out.alloc _) Any _ 1 _ rfl (block_in (blk_new _ _) rfl) (by simp [Value.oneCell']) (by unfold maxLen; omega) (by omega) (by simp <;> omega) ?_)
                intro v6 w6 ho6 hg6 _
                have hk6 := (HK5.out.alloc (.cells #[.int .u32 x] 22)).grown hg6 (fun j hj => .inr (own_lt HO5.out j hj).1)
                have HO6 := hid ho6
                have HK6 := hid hk6
                have hw6 := hk6.size
                obtain ⟨xv, hxv, hT⟩ := slice_from (SliceIn.owned (ownsRow_kept HOq.out hk6 (by simp))) (k := k) (by omega)
                have HT := hid hT
                clear ho6 hg6 hk6 hT
                go_wp2_with (at_builtin; refine wpList_append_in _ rfl (.tmp 87) (.tmp 90) 30 rfl wr.heap.size 22 i22 _ 1 4 Try.underlying30 I22.out hz22 hs22 hy22 rfl (by decide) _ _ _ rfl HO6.out _ _ (o.length - k) _ rfl HT.out (by rw [u32s, ← List.map_drop]; exact u32s_one _) (by unfold maxLen; omega) (by omega) (by omega) ?_)
                intro v7 w7 ho7 hg7 _
                have HF := hid (show w7.ownsRow w.heap.size 22 1 v7 (o.take k ++ (x :: o.drop k)).length (u32s (o.take k ++ (x :: o.drop k))) ∧ Kept [] w w7 from by
                  refine ⟨?_, (HKWq.out.tr (HK6.out.grown hg7 (fun j hj => .inr ((own_lt HO6.out j hj).1))))⟩
                  have e : (o.take k ++ (x :: o.drop k)).length = k + 1 + (o.length - k) := by simp; omega
                  rw [e]
                  refine ownsRow_low (b := wr.heap.size) ?_ (Nat.le_trans hws hwq)
                  simpa [u32s, List.map_take, List.map_drop] using ho7)
                clear ho7 hg7
                go_wp2
                go_roundw
                case rel => exact ⟨i + 1, _, by omega, by go_num, HF.out.1, HPT.out, HF.out.2⟩
                case measure => simp [intOf]; omega
          · have bn : decide ((k : Int) < (o.length : Int)) = false := decide_eq_false (by omega)
            have HPT := hid (HPUT.out k hk HLESS.out (fun h => absurd h hko))
            go_wp2_with fail
            go_quiet (fail)
            have HMD := hid (show ((wr.drewN nq).alloc (.cells #[] 22)).ownsRow wr.heap.size 22 1 (.slice (some ⟨wr.heap.size, 0, none⟩) 0 0) 0 [] from World.ownsRow_made (wr.drewN nq) #[] 0 (Nat.le_refl _) (Nat.zero_le _) rfl)
            have HKM := hid (((Kept.refl [] wr).drewN nq).alloc (.cells #[] 22))
            obtain ⟨st1, st2⟩ := slice_to (SliceIn.owned (ownsRow_kept HOq.out HKM.out (by simp))) (k := k) (by omega)
            have HST2 := hid st2
            clear st2
            go_wp2_with (at_builtin; refine wpList_append_in _ rfl (.tmp 75) (.tmp 78) 30 rfl wr.heap.size 22 i22 _ 1 4 Try.underlying30 I22.out hz22 hs22 hy22 rfl (by decide) _ 0 [] rfl HMD.out _ _ k _ rfl HST2.out (by rw [u32s, ← List.map_take]; exact u32s_one _) (by unfold maxLen; omega) (by omega) (by simp <;> omega) ?_)
            intro v5 w5 ho5 hg5 _
            have hk5 := HKM.out.grown hg5 (fun j hj => by cases hj; exact .inr (Nat.le_refl _))
            have HO5 := hid ho5
            have HK5 := hid hk5
            have ci5 := hk5.cell ci (by simp)
            have hw5 := hk5.size
            clear ho5 hg5 hk5 st1
            go_wp2_with (at_builtin; refine wpList_append_in _ rfl (.tmp 80) (.tmp 85) 30 rfl wr.heap.size 22 i22 _ 1 4 Try.underlying30 I22.out hz22 hs22 hy22 rfl (by decide) _ _ _ rfl (HO5.out.alloc _) Any _ 1 _ rfl (block_in (blk_new _ _) rfl) (by simp [Value.oneCell']) (by unfold maxLen; omega) (by omega) (by simp <;> omega) ?_)
            intro v6 w6 ho6 hg6 _
            have hk6 := (HK5.out.alloc (.cells #[.int .u32 x] 22)).grown hg6 (fun j hj => .inr (own_lt HO5.out j hj).1)
            have HO6 := hid ho6
            have HK6 := hid hk6
            have hw6 := hk6.size
            obtain ⟨xv, hxv, hT⟩ := slice_from (SliceIn.owned (ownsRow_kept HOq.out hk6 (by simp))) (k := k) (by omega)
            have HT := hid hT
            clear ho6 hg6 hk6 hT
            go_wp2_with (at_builtin; refine wpList_append_in _ rfl (.tmp 87) (.tmp 90) 30 rfl wr.heap.size 22 i22 _ 1 4 Try.underlying30 I22.out hz22 hs22 hy22 rfl (by decide) _ _ _ rfl HO6.out _ _ (o.length - k) _ rfl HT.out (by rw [u32s, ← List.map_drop]; exact u32s_one _) (by unfold maxLen; omega) (by omega) (by omega) ?_)
            intro v7 w7 ho7 hg7 _
            have HF := hid (show w7.ownsRow w.heap.size 22 1 v7 (o.take k ++ (x :: o.drop k)).length (u32s (o.take k ++ (x :: o.drop k))) ∧ Kept [] w w7 from by
              refine ⟨?_, (HKWq.out.tr (HK6.out.grown hg7 (fun j hj => .inr ((own_lt HO6.out j hj).1))))⟩
              have e : (o.take k ++ (x :: o.drop k)).length = k + 1 + (o.length - k) := by simp; omega
              rw [e]
              refine ownsRow_low (b := wr.heap.size) ?_ (Nat.le_trans hws hwq)
              simpa [u32s, List.map_take, List.map_drop] using ho7)
            clear ho7 hg7
            go_wp2
            go_roundw
            case rel => exact ⟨i + 1, _, by omega, by go_num, HF.out.1, HPT.out, HF.out.2⟩
            case measure => simp [intOf]; omega
      · obtain rfl : i = xs.length := by omega
        have hm := HM.out
        rw [List.take_length] at hm
        have HZ := hid (HQ.out _ _ _ hm HO.out HKW.out)
        clear hm
        go_wp2
        exact HZ.out
  · have b0 : (wrong bits (f :: xs) != 0) = true := by simp [h0]
    have HQ := hid (show Post (.returned (.tuple #[.slice none 0 0, .int .i64 (wrong bits (f :: xs))])) w3 from by
      rw [← HP.out]
      exact ⟨_, [], rfl, by rw [if_neg h0], ⟨rfl, .inl ⟨rfl, rfl⟩⟩, HK3.out⟩)
    clear h0
    go_wp2
    exact HQ.out

set_option maxRecDepth 100000 in
set_option maxHeartbeats 4000000 in
theorem sorts_any {B : Nat → Prop} {bits f : Int} {w : World} {lv : Value} {xs : List Int} (hv : SliceIn B w 1 lv xs.length (u32s xs)) (hf : 0 ≤ f ∧ f < 4294967296) (hx : ∀ x ∈ xs, 0 ≤ x ∧ x < 4294967296) (hl : xs.length * 4 ≤ 140737488351232) :
    Calls Try.prog 4 #[.int .i64 bits, .int .u32 f, lv] w fun e w' => e = .returned (.bool true) ∧ Kept [] w w' := by
  obtain ⟨ao, cap, rfl⟩ := hv.form
  have H1 := hid (Sort_any B bits f xs _ w hv hf hx (by omega))
  have H2 := hid (show ∀ W, Kept [] w W → Calls Try.prog 18 #[.int .i64 bits, .int .u32 f, .slice ao xs.length cap] W (SortedR bits f xs W) from fun W hk => RefSort_any _ bits f xs _ W (hv.carry hk.size fun b hb _ => hk.block b hb (by simp)) hf hx (by omega))
  have hlen : ∀ o, (if wrong bits (f :: xs) = 0 then Met (mOf bits) f xs o else o = []) → o.length ≤ xs.length := fun o h => by
    split at h
    · exact met_length h
    · rw [h]; exact Nat.zero_le _
  have huniq : ∀ o p, (if wrong bits (f :: xs) = 0 then Met (mOf bits) f xs o else o = []) → (if wrong bits (f :: xs) = 0 then Met (mOf bits) f xs p else p = []) → p = o := fun o p h1 h2 => by
    split at h1
    · rename_i h0
      rw [if_pos h0] at h2
      exact h2.unique h1
    · rename_i h0
      rw [if_neg h0] at h2
      rw [h1, h2]
  have HLEN := hid hlen
  have HU := hid huniq
  unfold SortedR at H1 H2
  generalize wrong bits (f :: xs) = er at *
  have be : (er == er) = true := beq_self_eq_true _
  clear hv hx hlen huniq
  go_enter Try.func4, Try.ntmps4
  go_wp2_with fail
  refine H1.out.mono ?_
  rintro e w1 ⟨v1, o, rfl, hm1, ho1, hk1⟩
  obtain ⟨ao1, c1, rfl⟩ := (SliceIn.owned ho1).form
  have HO1 := hid ho1
  have HM1 := hid hm1
  have HK1 := hid hk1
  clear ho1 hk1 hm1
  go_wp2_with fail
  refine (H2.out _ HK1.out).mono ?_
  rintro e w2 ⟨v2, p, rfl, hm2, ho2, hk2⟩
  obtain rfl := HU.out o p HM1.out hm2
  obtain ⟨ao2, c2, rfl⟩ := (SliceIn.owned ho2).form
  have HO2 := hid (SliceIn.owned ho2)
  have HO12 := hid (SliceIn.owned (ownsRow_kept HO1.out hk2 (by simp)))
  have HK2 := hid (HK1.out.tr hk2)
  have hol := HLEN.out _ hm2
  have HSM := hid (show ∀ W, Kept [] w2 W → Calls Try.prog 19 #[.slice ao1 p.length c1, .slice ao2 p.length c2] W fun e w' => e = .returned (.bool true) ∧ Kept [] W w' from fun W hk => by
    have h := Same_any (HO12.out.kept hk (fun _ _ _ => by simp)) (HO2.out.kept hk (fun _ _ _ => by simp)) (by omega)
    rw [decide_eq_true rfl] at h
    exact h)
  clear ho2 hk2 hm2
  go_wp2_with fail
  refine (live_any _).mono ?_
  rintro e w3 ⟨rfl, hk3⟩
  have HK3 := hid hk3
  clear hk3
  go_wp2_with (go_at_call 19; refine (HSM.out _ HK3.out).mono ?_; rintro e w4 ⟨rfl, hk4⟩; have HK4 := hid (HK2.out.tr (HK3.out.tr hk4)); clear hk4)
  go_ret
  exact ⟨rfl, HK4.out⟩

end Go.Proofs.Ytomdbdliniiffaa
