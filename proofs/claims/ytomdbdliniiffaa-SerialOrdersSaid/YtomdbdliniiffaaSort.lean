/-
  serial.Sort: what it returns.
-/
import Derived.Test.YtomdbdliniiffaaSortC
import Derived.Test.YtomdbdliniiffaaSpan
import Derived.Test.YtomdbdliniiffaaMaps
import Derived.Deep.CutRange
namespace Go.Proofs.Ytomdbdliniiffaa
open Go.RowKit Go.Maps

/-- What Sort answers. -/
def SortedR (bits f : Int) (xs : List Int) (w : World) (e : Ending) (w' : World) : Prop :=
  ∃ (v : Value) (o : List Int), e = .returned (.tuple #[v, .int .i64 (wrong bits (f :: xs))]) ∧ (if wrong bits (f :: xs) = 0 then Met (mOf bits) f xs o else o = []) ∧ w'.ownsRow w.heap.size 22 1 v o.length (u32s o) ∧ Kept [] w w'

theorem Try.underlying22k : Try.prog.underlying 22 = some (.int .u32) := by kernel_rfl
theorem Try.underlying59 : Try.prog.underlying 59 = some (.map 22 3) := by kernel_rfl
theorem law22 : Keyed Try.prog 22 := int_keyed Try.underlying22k
theorem wf_u32 {x : Int} (h : 0 ≤ x ∧ x < 4294967296) : (Lit.int .u32 x).wf = true := by
  simp [Lit.wf, IntKind.min, IntKind.max, IntKind.signed, IntKind.bits]; omega
theorem key22 {x : Int} (h : 0 ≤ x ∧ x < 4294967296) : keyOf Try.prog 22 (.int .u32 x) = some (.int .u32 x) := keyOf_int_mk Try.underlying22k (wf_u32 h)
theorem zero3 (w : World) : (zeroValue 3).run Try.prog w = .ok (.int .i64 0) w := by kernel_rfl

/-- How often each number was there. -/
def cntV (l : List Int) (x : Int) : Option Value := if l.count x = 0 then none else some (.int .i64 (l.count x : Nat))
theorem cnt_get (l : List Int) (x : Int) : (cntV l x).getD (.int .i64 0) = .int .i64 (l.count x : Nat) := by
  unfold cntV
  split
  · rename_i h; rw [h]; rfl
  · rfl
theorem cnt_step {l : List Int} {k : Nat} (h : k < l.length) : (fun y => if y = l[k] then some (.int .i64 (((l.take k).count l[k] : Nat) + 1 : Int)) else cntV (l.take k) y) = cntV (l.take (k + 1)) := by
  funext y
  unfold cntV
  rw [List.take_succ_eq_append_getElem h, List.count_append, List.count_singleton]
  by_cases e : y = l[k]
  · subst e
    simp
  · have e' : (l[k] == y) = false := beq_eq_false_iff_ne.2 (Ne.symm e)
    rw [if_neg e, e']
    simp
theorem wrong_in {bits x : Int} {l : List Int} (h : wrong bits l = 0) (hm : x ∈ l) (hx : x < 4294967296) : x < mOf bits := by
  rcases mOf_cases bits with ⟨e1, e2⟩ | ⟨e1, e2⟩
  · rw [e2]
    rcases Int.lt_or_le x 65536 with h1 | h1
    · exact h1
    · rw [e1, wrong_hit hm h1] at h
      cases h
  · rw [e2]; exact hx

theorem map_grown {w w' : World} {b : Nat} {G : Int → Option Value} {e : TypeId} {size n : Nat} {v : Value} {l : List Value} (hm : MapIs Try.prog 22 (Value.int .u32) w b G) (ho : w.ownsRow (b + 1) e size v n l) (hg : w.grownBy w' v.ownBlock) : MapIs Try.prog 22 (Value.int .u32) w' b G := by
  rcases ho.2 with ⟨rfl, _⟩ | ⟨g, cap, cur, rfl, h1, _⟩
  · exact hm.kept ((Kept.refl [] w).grown hg (fun k e => by cases e)) (by simp)
  · exact hm.kept ((Kept.refl [g] w).grown hg (fun k e => by cases e; simp)) (by simp; omega)

theorem own_one (w : World) (f : Int) : (w.alloc (.cells #[.int .u32 f] 22)).ownsRow w.heap.size 22 1 (.slice (some ⟨w.heap.size, 0, none⟩) 1 1) 1 (u32s [f]) :=
  ⟨rfl, .inr ⟨w.heap.size, 1, _, rfl, Nat.le_refl _, blk_new w _, Nat.le_refl _, by decide, rfl, rfl⟩⟩
theorem own_heap {w w' : World} {b : Nat} {e : TypeId} {size n : Nat} {v : Value} {xs : List Value} (h : w.ownsRow b e size v n xs) (hh : w'.heap = w.heap) : w'.ownsRow b e size v n xs := by
  refine ⟨h.1, ?_⟩
  rcases h.2 with h | ⟨g, cap, cur, h1, h2, h3, h4⟩
  · exact .inl h
  · exact .inr ⟨g, cap, cur, h1, h2, by rw [hh]; exact h3, h4⟩

set_option maxRecDepth 100000 in
set_option maxHeartbeats 4000000 in
theorem Sort_any (B : Nat → Prop) (bits f : Int) (xs : List Int) (lv : Value) (w : World) (hv : SliceIn B w 1 lv xs.length (u32s xs)) (hf : 0 ≤ f ∧ f < 4294967296) (hx : ∀ x ∈ xs, 0 ≤ x ∧ x < 4294967296) (hl : (1 + xs.length) * 4 ≤ 140737488355328) :
    Calls Try.prog 17 #[.int .i64 bits, .int .u32 f, lv] w (SortedR bits f xs w) := by
  obtain ⟨ao, cap, rfl⟩ := hv.form
  obtain ⟨i22, hi22, hz22, hs22, hy22⟩ := info_parts Try.info22
  have I22 := hid hi22
  have HV := hid hv
  have HX := hid hx
  have HF := hid hf
  clear hi22 hv hx hf
  generalize hP : SortedR bits f xs w = Post
  have HP := hid hP
  clear hP
  go_enter Try.func17, Try.ntmps17
  go_upto_region 1 with fail
  obtain ⟨wb, hwb⟩ : ∃ wb : World, (w.alloc (.cells #[.int .i64 bits] 3)).alloc (.cells #[.int .u32 f] 22) = wb := ⟨_, rfl⟩
  have HKB := hid (show Kept [] w wb from by rw [← hwb]; exact ((Kept.refl [] w).alloc _).alloc _)
  have HB1 := hid (show wb.heap[w.heap.size]? = some (.cells #[.int .i64 bits] 3) from by rw [← hwb]; exact blk_alloc _ (blk_new w _))
  have HB2 := hid (show wb.heap[w.heap.size + 1]? = some (.cells #[.int .u32 f] 22) from by rw [← hwb]; have h := blk_new (w.alloc (.cells #[.int .i64 bits] 3)) (.cells #[.int .u32 f] 22); rwa [World.size_alloc] at h)
  have hsz : wb.heap.size = w.heap.size + 1 + 1 := by rw [← hwb]; simp
  rw [hwb]
  clear hwb
  go_cut [8] from 13 to 18 (fun q wx => q = .int .i64 (wrong bits (f :: xs)) ∧ Kept [] wb wx)
  case first =>
    have HOW := hid (show ∀ W : World, W.heap = (wb.alloc (.cells #[.int .u32 f] 22)).heap → W.ownsRow wb.heap.size 22 1 (.slice (some ⟨wb.heap.size, 0, none⟩) 1 1) 1 (u32s [f]) from fun W h => own_heap (own_one wb f) h)
    have HVB := hid (HV.out.carry HKB.out.size fun b hb _ => HKB.out.block b hb (by simp))
    have HIN := hid (show ∀ W : World, W.heap = (wb.alloc (.cells #[.int .u32 f] 22)).heap → SliceIn Any W 1 (.slice ao xs.length cap) xs.length (u32s xs) from fun W h => by
      have hk : Kept [] wb (wb.alloc (.cells #[.int .u32 f] 22)) := (Kept.refl [] wb).alloc _
      have h1 := HVB.out.carry hk.size fun b hb _ => hk.block b hb (by simp)
      exact (h1.carry (w' := W) (by rw [h]; exact Nat.le_refl _) fun b hb _ => by rw [h]).mono fun _ _ _ => trivial)
    have c1 := blk_cell HB1.out 0
    have c2 := blk_cell HB2.out 0
    have HLEN := hid hl
    have HKG := hid (show ∀ W w2 : World, W.grownBy w2 (some wb.heap.size) → W.heap = (wb.alloc (.cells #[.int .u32 f] 22)).heap → W.os = wb.os → W.tape = wb.tape → W.output = wb.output → Kept [] wb w2 from fun W w2 hg h1 h2 h3 h4 => by
      have hk : Kept [] wb W := ⟨h2, h3, h4, by rw [h1]; simp, fun b hb _ => by rw [h1]; exact ((Kept.refl [] wb).alloc (.cells #[.int .u32 f] 22)).block b hb (by simp)⟩
      exact hk.grown hg fun k e => by cases e; exact .inr (Nat.le_refl _))
    have HR := hid (show ∀ (v : Value) (W : World), W.ownsRow wb.heap.size 22 1 v (1 + xs.length) (u32s [f] ++ u32s xs) → Calls Try.prog 25 #[.int .i64 bits, v] W fun e w' => e = .returned (.int .i64 (wrong bits (f :: xs))) ∧ W = w' from fun v W ho =>
      right_any (fun b => wb.heap.size ≤ b) bits (f :: xs) v W (by rw [List.length_cons, Nat.add_comm]; exact SliceIn.owned ho) (fun x hm => by
        rcases List.mem_cons.1 hm with rfl | hm
        · exact HF.out
        · exact HX.out x hm) (by rw [List.length_cons]; omega))
    rw [hsz] at HOW HKG HR
    clear hl
    go_region_law (first | (refine step_append_in rfl (.tmp 15) (.tmp 16) 30 rfl (w.heap.size + 1 + 1) 22 i22 _ 1 4 Try.underlying30 I22.out hz22 hs22 hy22 rfl (by decide) _ 1 (u32s [f]) (by simp [Act.eval]) (HOW.out _ rfl) Any _ xs.length (u32s xs) (by simp [Act.eval]) (HIN.out _ rfl) (u32s_one _) (by have := HLEN.out; unfold maxLen; omega) HLEN.out (by simp; omega) ?_; intro v2 w2 ho2 hg2; have HK2 := hid (HKG.out _ w2 hg2.out rfl rfl rfl rfl); have c13 := HK2.out.cell c1 (by simp)) | (go_simp; go_at_call 25; refine (HR.out v2 w2 ho2.out).mono ?_; rintro e w3 ⟨rfl, rfl⟩))
    all_goals
      go_wp2_with fail
      go_meet
      exact ⟨rfl, HK2.out⟩
  case rest =>
    obtain ⟨rfl, hkc⟩ := hcut
    have HKC := hid hkc
    have HC1 := hid (hkc.blk HB1.out (by simp))
    have HC2 := hid (hkc.blk HB2.out (by simp))
    have HW := hid (HKB.out.tr hkc)
    clear hkc
    by_cases h0 : wrong bits (f :: xs) = 0
    · have b0 : (wrong bits (f :: xs) != 0) = false := by simp [h0]
      have HQ := hid (show ∀ (v : Value) (o : List Int) (w' : World), Met (mOf bits) f xs o → w'.ownsRow (wc.heap.size + 1) 22 1 v o.length (u32s o) → Kept [] wc w' → Post (.returned (.tuple #[v, .int .i64 0])) w' from fun v o w' hm ho hk => by
        rw [← HP.out]
        exact ⟨v, o, by rw [h0], by rw [if_pos h0]; exact hm, ownsRow_low ho (by have := HW.out.size; omega), HW.out.tr hk⟩)
      have HIN := hid (show ∀ x ∈ xs, 0 ≤ x ∧ x < mOf bits from fun x hm => ⟨(HX.out x hm).1, wrong_in h0 (List.mem_cons_of_mem _ hm) (HX.out x hm).2⟩)
      have HVC := hid (HV.out.carry HW.out.size fun b hb _ => HW.out.block b hb (by simp))
      have hmm := @run_makeMap Try.prog
      clear h0
      go_wp2_with fail
      go_loopw [10, 25] (fun v iv wr => ∃ k : Nat, k ≤ xs.length ∧ iv = .int .i64 k ∧ wr.ownsRow (wc.heap.size + 1) 22 1 v (ded (xs.take k)).length (u32s (ded (xs.take k))) ∧ MapIs Try.prog 22 (Value.int .u32) wr wc.heap.size (cntV (xs.take k)) ∧ Kept [] wc wr) (fun _ iv _ => xs.length - (intOf iv).toNat)
      case atStart => exact ⟨0, Nat.zero_le _, rfl, ⟨rfl, .inl ⟨rfl, rfl⟩⟩, MapIs.made wc, (Kept.refl [] wc).alloc _⟩
      case round =>
        obtain ⟨k, hk, rfl, hown, hmap, hkr⟩ := hrel
        obtain ⟨vo, vc, rfl⟩ := (SliceIn.owned hown).form
        have HO := hid hown
        have HM := hid hmap
        have HK := hid hkr
        have hdl := ded_length (xs.take k)
        rw [List.length_take] at hdl
        clear hown hmap hkr
        by_cases hlt : k < xs.length
        · have HVr := hid (HVC.out.carry HK.out.size fun b hb _ => HK.out.block b hb (by simp))
          obtain ⟨b, off, hao, _, _, hb, hc⟩ := HVr.out.rows (by omega)
          subst hao
          have ck := hc k _ (u32s_get hlt)
          have hxk := HX.out _ (getD_mem hlt)
          have HG := hid (show xs.getD k 0 = xs[k] from by simp [List.getD, hlt])
          have HCN := hid (cnt_step hlt)
          have HD := hid (ded_step hlt)
          have hcs : (xs.take (k + 1)).count xs[k] = (xs.take k).count xs[k] + 1 := by
            rw [List.take_succ_eq_append_getElem hlt, List.count_append, List.count_singleton]
            simp
          have hwk : IntKind.i64.wrap ((k : Int) + 1) = (k : Int) + 1 := IntWalk.i64_in _ (by omega)
          clear hc
          rw [← HG.out] at HCN HD hcs
          generalize xs.getD k 0 = x at *
          have hcl : (xs.take k).count x ≤ k := by
            have := List.count_le_length (a := x) (l := xs.take k)
            rw [List.length_take] at this
            omega
          have hwc : IntKind.i64.wrap (((xs.take k).count x : Nat) + 1 : Int) = ((xs.take k).count x : Nat) + 1 := IntWalk.i64_in _ (by omega)
          have hq1 := HM.out.lookup law22 (fun a b e => by simpa using e) Try.underlying59 (zero3 wr) (key22 hxk)
          rw [cnt_get] at hq1
          obtain ⟨w5, hu, hm5, hk5⟩ := HM.out.update law22 (fun a b e => by simpa using e) Try.underlying59 (key22 hxk) (.int .i64 (((xs.take k).count x : Nat) + 1 : Int))
          rw [HCN.out] at hm5
          have hq2 : (Instr.lookup 59 (.map (some wc.heap.size)) (.int .u32 x) false).run Try.prog w5 = .ok (.int .i64 (((xs.take k).count x : Nat) + 1 : Int)) w5 := by
            have h := hm5.lookup law22 (fun a b e => by simpa using e) Try.underlying59 (zero3 w5) (key22 hxk)
            rw [cnt_get, hcs] at h
            exact h
          have hmem : x ∈ ded (xs.take k) ↔ 0 < (xs.take k).count x := mem_ded.trans List.count_pos_iff.symm
          generalize (xs.take k).count x = c at *
          have HM5 := hid hm5
          have HK5 := hid (HK.out.trans hk5 (fun z hz => .inr (by simp at hz; omega)))
          have HO5 := hid (ownsRow_kept HO.out hk5 (fun z hz hm => by
            have h1 := (own_lt HO.out z hz).1
            simp at hm
            omega))
          clear hm5 hk5 hcs
          by_cases hc0 : c = 0
          · have bc : (((c : Nat) + 1 : Int) == 1) = true := by rw [hc0]; rfl
            have HN := hid (show ded (xs.take (k + 1)) = ded (xs.take k) ++ [x] from by rw [HD.out, if_neg (by rw [hmem]; omega)])
            generalize ded (xs.take k) = o at *
            clear hc0 hmem
            go_wp2_with (at_builtin; refine wpList_append_in _ rfl (.tmp 37) (.tmp 39) 30 rfl (wc.heap.size + 1) 22 i22 _ 1 4 Try.underlying30 I22.out hz22 hs22 hy22 rfl (by decide) _ _ _ rfl (HO5.out.alloc _) Any _ 1 _ rfl (block_in (blk_new _ _) rfl) (by simp [Value.oneCell']) (by unfold maxLen; omega) (by omega) (by have := HK5.out.size; have := HM5.out.lt; simp; omega) ?_)
            intro v6 w6 ho6 hg6 _
            have HF6 := hid (show w6.ownsRow (wc.heap.size + 1) 22 1 v6 (ded (xs.take (k + 1))).length (u32s (ded (xs.take (k + 1)))) ∧ MapIs Try.prog 22 (Value.int .u32) w6 wc.heap.size (cntV (xs.take (k + 1))) ∧ Kept [] wc w6 from by
              refine ⟨?_, map_grown (HM5.out.kept (S := []) ((Kept.refl [] w5).alloc _) (by simp)) (HO5.out.alloc _) hg6, kept_in (HK5.out.alloc _) (ownsRow_low (HO5.out.alloc _) (Nat.le_succ _)) hg6⟩
              rw [HN.out, List.length_append]
              simpa [u32s] using ho6)
            clear ho6 hg6
            go_wp2
            go_roundw
            case rel => exact ⟨k + 1, by omega, by go_num, HF6.out.1, HF6.out.2.1, HF6.out.2.2⟩
            case measure => simp [intOf]; omega
          · have bc : (((c : Nat) + 1 : Int) == 1) = false := beq_eq_false_iff_ne.2 (by omega)
            have HN := hid (show ded (xs.take (k + 1)) = ded (xs.take k) from by rw [HD.out, if_pos (by rw [hmem]; omega)])
            clear hmem
            go_wp2_with fail
            go_roundw
            case rel => exact ⟨k + 1, by omega, by go_num, by rw [HN.out]; exact HO5.out, HM5.out, HK5.out⟩
            case measure => simp [intOf]; omega
        · obtain rfl : k = xs.length := by omega
          rw [List.take_length] at HO hdl
          have hpb := HK.out.cell (blk_cell HC1.out 0) (by simp)
          have hpf := HK.out.cell (blk_cell HC2.out 0) (by simp)
          have hwc := lt_of_block HC2.out
          by_cases hn : (ded xs).length = 0
          · have hnil : ded xs = [] := List.eq_nil_of_length_eq_zero hn
            have hm0 : Met (mOf bits) f xs [] := ⟨List.Pairwise.nil, fun y => by have h := mem_ded (l := xs) (y := y); rw [hnil] at h; exact h⟩
            rw [hnil] at HO
            have HZ := hid (HQ.out _ [] _ hm0 HO.out HK.out)
            have hsn := fun p c fv W => sort_none p c fv W
            have HSN := hid hsn
            clear hsn hm0
            rw [List.take_length, hnil]
            go_wp2_with (go_at_call 29; refine (HSN.out _ _ _ _).mono ?_; rintro e w7 ⟨rfl, rfl⟩)
            exact HZ.out
          · obtain ⟨g, vc', e⟩ := own_form HO.out (by omega)
            cases e
            have hg := (own_lt HO.out g rfl).1
            have HS := hid (sort_any HO.out rfl hpb hpf (by omega) (by omega) HIN.out (by omega))
            rw [List.take_length]
            generalize (ded xs).length = n at *
            go_wp2_with (go_at_call 29; refine HS.out.mono ?_; rintro e w7 ⟨rfl, o, hmt, hln, hro, hk7⟩)
            have HZ := hid (HQ.out _ o _ hmt (by rw [hln]; exact hro) (HK.out.trans hk7 (fun z hz => .inr (by simp at hz; omega))))
            exact HZ.out
    · have b0 : (wrong bits (f :: xs) != 0) = true := by simp [h0]
      have HQ := hid (show Post (.returned (.tuple #[.slice none 0 0, .int .i64 (wrong bits (f :: xs))])) wc from by
        rw [← HP.out]
        exact ⟨_, [], rfl, by rw [if_neg h0], ⟨rfl, .inl ⟨rfl, rfl⟩⟩, HW.out⟩)
      clear h0
      go_wp2
      exact HQ.out

end Go.Proofs.Ytomdbdliniiffaa
