/-
  The law JudgeGets: what it returns.
-/
import Derived.Test.YtepadejkeokbcaaGets
namespace Go.Proofs.Ytepadejkeokbcaa
open Go.RowKit Go.Maps

theorem countP_step {α : Type} {l : List α} {k : Nat} (p : α → Bool) (h : k < l.length) : (l.take (k + 1)).countP p = (l.take k).countP p + (if p l[k] = true then 1 else 0) := by
  rw [List.take_succ_eq_append_getElem h, List.countP_append, List.countP_singleton]

/-- The one that ought to be next was met. -/
def goodR (l : List Msg) (m : Msg) (told : Nat) : Nat → Bool
  | 0 => false
  | k + 1 => match l[k]? with
    | none => goodR l m told k
    | some s => if inRow m.stream s = true then (goodR l m told k || (((l.take k).countP (inRow m.stream) == told) && s.alike m)) else goodR l m told k
theorem goodR_step {l : List Msg} {m : Msg} {told k : Nat} (h : k < l.length) : goodR l m told (k + 1) = if inRow m.stream l[k] = true then (goodR l m told k || (((l.take k).countP (inRow m.stream) == told) && (l[k]).alike m)) else goodR l m told k := by
  rw [goodR, List.getElem?_eq_getElem h]
theorem goodR_hit {l : List Msg} {m : Msg} {told : Nat} {j : Nat} (hj : j < l.length) (h1 : inRow m.stream l[j] = true) (h2 : (l[j]).alike m = true) (h3 : (l.take j).countP (inRow m.stream) = told) : ∀ k, j < k → k ≤ l.length → goodR l m told k = true
  | k + 1, hk, hl => by
    rw [goodR_step (by omega)]
    by_cases e : j = k
    · subst e
      rw [if_pos h1, h3, h2]
      simp
    · have ih := goodR_hit hj h1 h2 h3 k (by omega) (by omega)
      rw [ih]
      split <;> simp

set_option maxRecDepth 100000 in
set_option maxHeartbeats 16000000 in
theorem gets_any {w0 : World} {lv : Value} {L0 : List Mark} (hl : MarksRaw w0 lv L0) : Calls Try.prog 6 #[lv] w0 fun e w' => e = .returned (.bool true) ∧ Kept [] w0 w' := by
  obtain ⟨ao0, cap0, rfl⟩ := hl.row.form
  have HL0 := hid hl
  clear hl
  go_enter Try.func6, Try.ntmps6
  go_wp2_with fail
  refine (short_any HL0.out).mono ?_
  rintro e w1 ⟨v1, rfl, hin, rfl⟩
  have hlen : (short L0).length ≤ 60 := short_few L0
  generalize short L0 = L at *
  obtain ⟨ao, cap, rfl⟩ := hin.row.form
  have HL := hid hin
  clear hin
  go_wp2_with fail
  refine (Judge_any HL.out).mono ?_
  rintro e w2 ⟨rfl, hk2⟩
  have HK2 := hid hk2
  clear hk2
  by_cases he : (judgeOf L).2 = 0
  · have HG := hid (show ∀ (i : Nat) (hi : i < L.length), L[i].is = 2 → _ from fun i hi h2 => gets_ok he hi h2)
    have HHO := hid (show ∀ (i : Nat) (hi : i < L.length), 0 ≤ L[i].host ∧ L[i].host ≤ 1 from fun i hi => (good_of he).host _ (List.getElem_mem hi))
    generalize judgeOf L = J at *
    obtain ⟨n, er⟩ := J
    dsimp only at he
    subst he
    go_wp2_with fail
    obtain ⟨w, hw⟩ : ∃ w : World, w = w0 := ⟨w0, rfl⟩
    subst hw
    go_loopw [5] (fun iv wr => ∃ i : Nat, i ≤ L.length ∧ iv = .int .i64 i ∧ Kept [] w wr) (fun iv _ => L.length - (intOf iv).toNat)
    case atStart => exact ⟨0, Nat.zero_le _, rfl, HK2.out⟩
    case round =>
      obtain ⟨i, hi, rfl, hkr⟩ := hrel
      obtain ⟨wo, rfl⟩ : ∃ wo : World, wo = wr := ⟨_, rfl⟩
      have HK := hid hkr
      have HLr := hid (HL.out.kept hkr)
      clear hkr
      have hwi : IntKind.i64.wrap ((i : Int) + 1) = (i : Int) + 1 := IntWalk.i64_in _ (by omega)
      by_cases hlt : i < L.length
      · have hsl := slice_to HLr.out.raw (k := i) (by omega)
        obtain ⟨b, off, hao, hb, hcell⟩ := HLr.out.cells hlt
        subst hao
        have HSL := hid (hsl.2.few (by rw [List.length_take]; omega))
        have hs0 := hsl.1
        have hic : (i : Int) ≤ (cap : Int) := by
          rcases HLr.out.row.2 with ⟨h0, _⟩ | ⟨b, off, cap', he, h2, _⟩
          · omega
          · cases he; omega
        have HM := hid (HL.out.here _ (List.getElem_mem hlt))
        have HGI := hid (HG.out i hlt)
        have HHI := hid (HHO.out i hlt)
        clear hsl
        generalize L[i] = x at *
        obtain ⟨xo, xc, hmv⟩ := HM.out.msg.data.form
        have HMV := hid hmv
        have c0 := hcell 0 (by omega)
        have c1 := hcell 1 (by omega)
        have c2 := hcell 2 (by omega)
        have c3 := hcell 3 (by omega)
        have c4 := hcell 4 (by omega)
        have c5 := hcell 5 (by omega)
        have c6 := hcell 6 (by omega)
        have c7 := hcell 7 (by omega)
        have c8 := hcell 8 (by omega)
        have c9 := hcell 9 (by omega)
        simp only [Mark.cells, hmv, List.getElem?_cons_zero, List.getElem?_cons_succ, Nat.add_zero, ← Nat.add_assoc] at c0 c1 c2 c3 c4 c5 c6 c7 c8 c9
        clear hcell hmv
        have HKA := hid (show Kept [] wo (wo.alloc (.cells #[.int .i64 x.is, .int .i64 x.host, .int .u32 x.own, .int .u32 x.peer, .int .u16 x.msg.stream, .int .u16 x.msg.ssn, .int .u32 x.msg.ppid, .bool x.msg.free, .slice xo x.msg.data.length xc, .int .i64 x.notice] 44)) from (Kept.refl [] wo).alloc _)
        have HBA := hid (blk_new wo (.cells #[.int .i64 x.is, .int .i64 x.host, .int .u32 x.own, .int .u32 x.peer, .int .u16 x.msg.stream, .int .u16 x.msg.ssn, .int .u32 x.msg.ppid, .bool x.msg.free, .slice xo x.msg.data.length xc, .int .i64 x.notice] 44))
        by_cases h2 : x.is = 2
        · have b2 : (x.is != 2) = false := by simpa using h2
          have HGX := hid (HGI.out h2)
          have HX2 := hid h2
          have hw1 : IntKind.i64.wrap (1 - x.host) = 1 - x.host := IntWalk.i64_in _ (by have := HHI.out; omega)
          have hw2 : wrap64 (1 - x.host) = 1 - x.host := IntWalk.wrap64_in _ (by have := HHI.out; omega)
          have HSN := hid (show ∀ W, Kept [] wo W → Calls Try.prog 15 #[.slice (some ⟨b, off, none⟩) i cap, .int .i64 (1 - x.host), .int .u32 x.peer, .int .u32 x.own] W (MsgsOut W (sentR (L.take i) x.key.other)) from fun W hk =>
            Sent_any (k := x.key.other) (HSL.out.kept hk))
          have HSK1 := hid (show ∀ v, Kept [] (wo.alloc (.cells #[.int .i64 x.is, .int .i64 x.host, .int .u32 x.own, .int .u32 x.peer, .int .u16 x.msg.stream, .int .u16 x.msg.ssn, .int .u32 x.msg.ppid, .bool x.msg.free, .slice xo x.msg.data.length xc, .int .i64 x.notice] 44)) v → v.cell? ⟨wo.heap.size, 1, none⟩ = some (.int .i64 x.host) ∧ v.cell? ⟨wo.heap.size, 2, none⟩ = some (.int .u32 x.own) ∧ v.cell? ⟨wo.heap.size, 3, none⟩ = some (.int .u32 x.peer) from fun v hk => by
            have hb := hk.blk HBA.out (by simp)
            exact ⟨blk_cell hb 1, blk_cell hb 2, blk_cell hb 3⟩)
          have HSENT := hid (show ∀ s ∈ sentR (L.take i) x.key.other, s.here w from fun s hs => by
            obtain ⟨z, hz, e⟩ := sentR_mem hs
            rw [← e]
            exact (HL.out.here z (List.mem_of_mem_take hz)).msg)
          have hsl : (sentR (L.take i) x.key.other).length ≤ 60 := by
            have := sentR_le (L.take i) x.key.other
            rw [List.length_take] at this
            omega
          have HSLN := hid hsl
          clear hsl
          clear h2
          generalize sentR (L.take i) x.key.other = l at *
          go_wp2_with fail
          clear c0 c1 c2 c3 c4 c5 c6 c7 c8 c9
          go_region_held3 (fun v => v.cell? ⟨wo.heap.size, 1, none⟩ = some (.int .i64 x.host) ∧ v.cell? ⟨wo.heap.size, 2, none⟩ = some (.int .u32 x.own) ∧ v.cell? ⟨wo.heap.size, 3, none⟩ = some (.int .u32 x.peer)) (first | (exact HSK1.out _ ((Kept.refl [] _).drew)) | (exact HSK1.out _ HK3.out) | assumption)
            (first | (go_at_call 15; refine (HSN.out _ (HKA.out.drew)).mono ?_; rintro e w3 ⟨v3, rfl, ho3, hk3⟩; have HO3 := hid ho3; have HK3 := hid (((Kept.refl [] _).drew).tr hk3); clear ho3 hk3))
          have HK4 := hid (HK.out.tr (HKA.out.tr HK3.out))
          have HB3 := hid (HK3.out.blk HBA.out (by simp))
          have hsl := HSLN.out
          obtain ⟨lo, lc, rfl⟩ := (SliceIn.owned HO3.out).form
          have HAL := hid (show ∀ (s : Msg), s.here w → ∀ so sc, s.dv = .slice so s.data.length sc → ∀ W, Kept [] w W → Calls Try.prog 17 #[.agg #[.int .u16 s.stream, .int .u16 s.ssn, .int .u32 s.ppid, .bool s.free, .slice so s.data.length sc], .agg #[.int .u16 x.msg.stream, .int .u16 x.msg.ssn, .int .u32 x.msg.ppid, .bool x.msg.free, .slice xo x.msg.data.length xc]] W (Alikes W s x.msg) from
            fun s hs so sc e1 W hk => by
              have h := refalike_any (w := W) (hs.kept hk) (HM.out.msg.kept hk)
              unfold Msg.val at h
              rw [e1, HMV.out] at h
              exact h)
          have HOF := hid (show ∀ (y : Mark) (yo : Option Addr) (yc : Nat), y.msg.dv = .slice yo y.msg.data.length yc → ∀ W, Calls Try.prog 16 #[.agg #[.int .i64 y.is, .int .i64 y.host, .int .u32 y.own, .int .u32 y.peer, .int .u16 y.msg.stream, .int .u16 y.msg.ssn, .int .u32 y.msg.ppid, .bool y.msg.free, .slice yo y.msg.data.length yc, .int .i64 y.notice], .int .i64 x.host, .int .u32 x.own, .int .u32 x.peer] W (Ofs W y x.key) from fun y yo yc h W => by
            have q := of_any W y x.key
            unfold Mark.val at q
            rw [h] at q
            exact q)
          go_wp2_with fail
          go_loopw [8, 9, 11] (fun a bq kv wr => ∃ k : Nat, k ≤ i ∧ kv = .int .i64 k ∧ a = .int .i64 ((L.take k).countP (isTold x.key x.msg.stream)) ∧ bq = .int .i64 ((L.take k).countP (isSame x.key x.msg)) ∧ Kept [] w3 wr) (fun _ _ kv _ => i - (intOf kv).toNat)
          case atStart => exact ⟨0, Nat.zero_le _, rfl, rfl, rfl, Kept.refl [] _⟩
          case round =>
            obtain ⟨k, hk, rfl, rfl, rfl, hkq⟩ := hrel
            have HKQ := hid hkq
            have HLq := hid (HL.out.kept (HK4.out.tr hkq))
            have HBq := hid (hkq.blk HB3.out (by simp))
            clear hkq
            have hwk : IntKind.i64.wrap ((k : Int) + 1) = (k : Int) + 1 := IntWalk.i64_in _ (by omega)
            by_cases hlt2 : k < i
            · as_aux_lemma =>
                have hkL : k < L.length := by omega
                have HMY := hid (HL.out.here _ (List.getElem_mem hkL))
                have HT1 := hid (countP_step (isTold x.key x.msg.stream) hkL)
                have HT2 := hid (countP_step (isSame x.key x.msg) hkL)
                have hbq : b < wr.heap.size := by
                  obtain ⟨b', off', e, h, _⟩ := HLq.out.cells hkL
                  cases e; exact h
                have hn1 : (L.take k).countP (isTold x.key x.msg.stream) ≤ k := by
                  have := List.countP_le_length (p := isTold x.key x.msg.stream) (l := L.take k)
                  rw [List.length_take] at this; omega
                have hn2 : (L.take k).countP (isSame x.key x.msg) ≤ k := by
                  have := List.countP_le_length (p := isSame x.key x.msg) (l := L.take k)
                  rw [List.length_take] at this; omega
                have hwa : IntKind.i64.wrap (((L.take k).countP (isTold x.key x.msg.stream) : Int) + 1) = ((L.take k).countP (isTold x.key x.msg.stream) : Int) + 1 := IntWalk.i64_in _ (by omega)
                have hwb : IntKind.i64.wrap (((L.take k).countP (isSame x.key x.msg) : Int) + 1) = ((L.take k).countP (isSame x.key x.msg) : Int) + 1 := IntWalk.i64_in _ (by omega)
                have y0 := HLq.out.at hkL (j := 0) (by omega)
                have y1 := HLq.out.at hkL (j := 1) (by omega)
                have y2 := HLq.out.at hkL (j := 2) (by omega)
                have y3 := HLq.out.at hkL (j := 3) (by omega)
                have y4 := HLq.out.at hkL (j := 4) (by omega)
                have y5 := HLq.out.at hkL (j := 5) (by omega)
                have y6 := HLq.out.at hkL (j := 6) (by omega)
                have y7 := HLq.out.at hkL (j := 7) (by omega)
                have y8 := HLq.out.at hkL (j := 8) (by omega)
                have y9 := HLq.out.at hkL (j := 9) (by omega)
                generalize L[k] = y at *
                generalize (L.take k).countP (isTold x.key x.msg.stream) = ta at *
                generalize (L.take k).countP (isSame x.key x.msg) = sb at *
                obtain ⟨yo, yc, hyv⟩ := HMY.out.msg.data.form
                have HYV := hid hyv
                simp only [Mark.cells, hyv, List.getElem?_cons_zero, List.getElem?_cons_succ, Nat.add_zero, ← Nat.add_assoc] at y0 y1 y2 y3 y4 y5 y6 y7 y8 y9
                clear hyv
                have HSK2 := hid (show ∀ v, Kept [] wr v → v.cell? ⟨b, off + k * 10, none⟩ = some (.int .i64 y.is) ∧ v.cell? ⟨b, off + k * 10 + 1, none⟩ = some (.int .i64 y.host) ∧ v.cell? ⟨b, off + k * 10 + 2, none⟩ = some (.int .u32 y.own) ∧ v.cell? ⟨b, off + k * 10 + 3, none⟩ = some (.int .u32 y.peer) ∧ v.cell? ⟨b, off + k * 10 + 4, none⟩ = some (.int .u16 y.msg.stream) ∧ v.cell? ⟨b, off + k * 10 + 5, none⟩ = some (.int .u16 y.msg.ssn) ∧ v.cell? ⟨b, off + k * 10 + 6, none⟩ = some (.int .u32 y.msg.ppid) ∧ v.cell? ⟨b, off + k * 10 + 7, none⟩ = some (.bool y.msg.free) ∧ v.cell? ⟨b, off + k * 10 + 8, none⟩ = some (.slice yo y.msg.data.length yc) ∧ v.cell? ⟨b, off + k * 10 + 9, none⟩ = some (.int .i64 y.notice) ∧ v.cell? ⟨wo.heap.size, 1, none⟩ = some (.int .i64 x.host) ∧ v.cell? ⟨wo.heap.size, 2, none⟩ = some (.int .u32 x.own) ∧ v.cell? ⟨wo.heap.size, 3, none⟩ = some (.int .u32 x.peer) ∧ v.cell? ⟨wo.heap.size, 4, none⟩ = some (.int .u16 x.msg.stream) ∧ v.cell? ⟨wo.heap.size, 5, none⟩ = some (.int .u16 x.msg.ssn) ∧ v.cell? ⟨wo.heap.size, 6, none⟩ = some (.int .u32 x.msg.ppid) ∧ v.cell? ⟨wo.heap.size, 7, none⟩ = some (.bool x.msg.free) ∧ v.cell? ⟨wo.heap.size, 8, none⟩ = some (.slice xo x.msg.data.length xc) from fun v hk => by
                  have hb := hk.blk HBq.out (by simp)
                  exact ⟨hk.cell y0 (by simp), hk.cell y1 (by simp), hk.cell y2 (by simp), hk.cell y3 (by simp), hk.cell y4 (by simp), hk.cell y5 (by simp), hk.cell y6 (by simp), hk.cell y7 (by simp), hk.cell y8 (by simp), hk.cell y9 (by simp), blk_cell hb 1, blk_cell hb 2, blk_cell hb 3, blk_cell hb 4, blk_cell hb 5, blk_cell hb 6, blk_cell hb 7, blk_cell hb 8⟩)
                have HSK2' := hid (show ∀ v, Kept [] wr v → v.cell? ⟨b, off + k * 10, none⟩ = some (.int .i64 y.is) ∧ v.cell? ⟨b, off + k * 10 + 1, none⟩ = some (.int .i64 y.host) ∧ v.cell? ⟨b, off + k * 10 + 2, none⟩ = some (.int .u32 y.own) ∧ v.cell? ⟨b, off + k * 10 + 3, none⟩ = some (.int .u32 y.peer) ∧ v.cell? ⟨b, off + k * 10 + 4, none⟩ = some (.int .u16 y.msg.stream) ∧ v.cell? ⟨b, off + k * 10 + 5, none⟩ = some (.int .u16 y.msg.ssn) ∧ v.cell? ⟨b, off + k * 10 + 6, none⟩ = some (.int .u32 y.msg.ppid) ∧ v.cell? ⟨b, off + k * 10 + 7, none⟩ = some (.bool y.msg.free) ∧ v.cell? ⟨b, off + k * 10 + 8, none⟩ = some (.slice yo y.msg.data.length yc) ∧ v.cell? ⟨b, off + k * 10 + 9, none⟩ = some (.int .i64 y.notice) ∧ v.cell? ⟨wo.heap.size, 1, none⟩ = some (.int .i64 x.host) ∧ v.cell? ⟨wo.heap.size, 2, none⟩ = some (.int .u32 x.own) ∧ v.cell? ⟨wo.heap.size, 3, none⟩ = some (.int .u32 x.peer) from fun v hk => by
                  obtain ⟨a0, a1, a2, a3, a4, a5, a6, a7, a8, a9, r1, r2, r3, _⟩ := HSK2.out v hk
                  exact ⟨a0, a1, a2, a3, a4, a5, a6, a7, a8, a9, r1, r2, r3⟩)
                have HSK3 := hid (show ∀ v, Kept [] wr v → v.cell? ⟨b, off + k * 10 + 4, none⟩ = some (.int .u16 y.msg.stream) ∧ v.cell? ⟨b, off + k * 10 + 5, none⟩ = some (.int .u16 y.msg.ssn) ∧ v.cell? ⟨b, off + k * 10 + 6, none⟩ = some (.int .u32 y.msg.ppid) ∧ v.cell? ⟨b, off + k * 10 + 7, none⟩ = some (.bool y.msg.free) ∧ v.cell? ⟨b, off + k * 10 + 8, none⟩ = some (.slice yo y.msg.data.length yc) ∧ v.cell? ⟨wo.heap.size, 4, none⟩ = some (.int .u16 x.msg.stream) ∧ v.cell? ⟨wo.heap.size, 5, none⟩ = some (.int .u16 x.msg.ssn) ∧ v.cell? ⟨wo.heap.size, 6, none⟩ = some (.int .u32 x.msg.ppid) ∧ v.cell? ⟨wo.heap.size, 7, none⟩ = some (.bool x.msg.free) ∧ v.cell? ⟨wo.heap.size, 8, none⟩ = some (.slice xo x.msg.data.length xc) from fun v hk => by
                  obtain ⟨a0, a1, a2, a3, a4, a5, a6, a7, a8, a9, _, _, _, r4, r5, r6, r7, r8⟩ := HSK2.out v hk
                  exact ⟨a4, a5, a6, a7, a8, r4, r5, r6, r7, r8⟩)
                have hmbl := lt_of_block HBq.out
                by_cases g2 : y.is = 2
                · have d2 : (y.is != 2) = false := by simpa using g2
                  have d2' : (y.is == 2) = true := by simpa using g2
                  clear g2 y0 y1 y2 y3 y4 y5 y6 y7 y8 y9
                  go_wp2_with fail
                  go_region_held3 (fun v => v.cell? ⟨b, off + k * 10, none⟩ = some (.int .i64 y.is) ∧ v.cell? ⟨b, off + k * 10 + 1, none⟩ = some (.int .i64 y.host) ∧ v.cell? ⟨b, off + k * 10 + 2, none⟩ = some (.int .u32 y.own) ∧ v.cell? ⟨b, off + k * 10 + 3, none⟩ = some (.int .u32 y.peer) ∧ v.cell? ⟨b, off + k * 10 + 4, none⟩ = some (.int .u16 y.msg.stream) ∧ v.cell? ⟨b, off + k * 10 + 5, none⟩ = some (.int .u16 y.msg.ssn) ∧ v.cell? ⟨b, off + k * 10 + 6, none⟩ = some (.int .u32 y.msg.ppid) ∧ v.cell? ⟨b, off + k * 10 + 7, none⟩ = some (.bool y.msg.free) ∧ v.cell? ⟨b, off + k * 10 + 8, none⟩ = some (.slice yo y.msg.data.length yc) ∧ v.cell? ⟨b, off + k * 10 + 9, none⟩ = some (.int .i64 y.notice) ∧ v.cell? ⟨wo.heap.size, 1, none⟩ = some (.int .i64 x.host) ∧ v.cell? ⟨wo.heap.size, 2, none⟩ = some (.int .u32 x.own) ∧ v.cell? ⟨wo.heap.size, 3, none⟩ = some (.int .u32 x.peer)) (first | (exact HSK2'.out _ ((Kept.refl [] _).drew)) | (exact HSK2'.out _ HK5.out) | assumption)
                    (first | (go_at_call 16; refine (HOF.out y yo yc HYV.out _).mono ?_; rintro e w5 ⟨rfl, hk5⟩; have HK5 := hid (((Kept.refl [] wr).drew).tr hk5); clear hk5))
                  cases ho : y.of x.key with
                  | false =>
                    have h1 := HT1.out
                    have h2 := HT2.out
                    rw [if_neg (by simp [isTold, ho])] at h1
                    rw [if_neg (by simp [isSame, ho])] at h2
                    have R1 := hid (show (L.take (k + 1)).countP (isTold x.key x.msg.stream) = ta from h1)
                    have R2 := hid (show (L.take (k + 1)).countP (isSame x.key x.msg) = sb from h2)
                    clear h1 h2
                    go_wp2_with fail
                    go_roundw
                    case rel => exact ⟨k + 1, by omega, by go_num, by rw [R1.out], by rw [R2.out], HKQ.out.tr HK5.out⟩
                    case measure => simp [intOf]; omega
                  | true =>
                    have hbl5 := HK5.out.size
                    obtain ⟨z0, z1, z2, z3, z4, z5, z6, z7, z8, z9, q1, q2, q3, q4, q5, q6, q7, q8⟩ := HSK2.out w5 HK5.out
                    cases hyf : y.msg.free with
                    | true =>
                      rw [hyf] at z7
                      have HALY := hid (HAL.out y.msg (HMY.out.msg) yo yc HYV.out)
                      have HSK3' := hid HSK3.out
                      have HALY' := hid HALY.out
                      rw [hyf] at HALY' HSK3'
                      go_wp2_with fail
                      go_quiet (fail)
                      go_wp2_with fail
                      clear z0 z1 z2 z3 z4 z5 z6 z7 z8 z9 q1 q2 q3 q4 q5 q6 q7 q8
                      go_region_held3 (fun v => v.cell? ⟨b, off + k * 10 + 4, none⟩ = some (.int .u16 y.msg.stream) ∧ v.cell? ⟨b, off + k * 10 + 5, none⟩ = some (.int .u16 y.msg.ssn) ∧ v.cell? ⟨b, off + k * 10 + 6, none⟩ = some (.int .u32 y.msg.ppid) ∧ v.cell? ⟨b, off + k * 10 + 7, none⟩ = some (.bool true) ∧ v.cell? ⟨b, off + k * 10 + 8, none⟩ = some (.slice yo y.msg.data.length yc) ∧ v.cell? ⟨wo.heap.size, 4, none⟩ = some (.int .u16 x.msg.stream) ∧ v.cell? ⟨wo.heap.size, 5, none⟩ = some (.int .u16 x.msg.ssn) ∧ v.cell? ⟨wo.heap.size, 6, none⟩ = some (.int .u32 x.msg.ppid) ∧ v.cell? ⟨wo.heap.size, 7, none⟩ = some (.bool x.msg.free) ∧ v.cell? ⟨wo.heap.size, 8, none⟩ = some (.slice xo x.msg.data.length xc)) (first | (exact HSK3'.out _ (HK5.out.tr (((Kept.refl [] _).drewN _).drew))) | (exact HSK3'.out _ HK6.out) | assumption)
                        (first | (go_at_call 17; refine (HALY'.out _ (HK4.out.tr (HKQ.out.tr (HK5.out.tr (((Kept.refl [] w5).drewN _).drew))))).mono ?_; rintro e w6 ⟨rfl, hk6⟩; have HK6 := hid (HK5.out.tr ((((Kept.refl [] w5).drewN _).drew).tr hk6)); clear hk6))
                      cases hal : y.msg.alike x.msg with
                      | true =>
                        have h1 := HT1.out
                        have h2 := HT2.out
                        rw [if_neg (by simp [isTold, inRow, hyf])] at h1
                        rw [if_pos (by simp [isSame, d2', ho, hal])] at h2
                        have R1 := hid (show (L.take (k + 1)).countP (isTold x.key x.msg.stream) = ta from h1)
                        have R2 := hid (show (L.take (k + 1)).countP (isSame x.key x.msg) = sb + 1 from h2)
                        clear h1 h2
                        go_wp2_with fail
                        go_roundw
                        case rel => exact ⟨k + 1, by omega, by go_num, by rw [R1.out], by rw [R2.out]; go_num, HKQ.out.tr HK6.out⟩
                        case measure => simp [intOf]; omega
                      | false =>
                        have h1 := HT1.out
                        have h2 := HT2.out
                        rw [if_neg (by simp [isTold, inRow, hyf])] at h1
                        rw [if_neg (by simp [isSame, hal])] at h2
                        have R1 := hid (show (L.take (k + 1)).countP (isTold x.key x.msg.stream) = ta from h1)
                        have R2 := hid (show (L.take (k + 1)).countP (isSame x.key x.msg) = sb from h2)
                        clear h1 h2
                        go_wp2_with fail
                        go_roundw
                        case rel => exact ⟨k + 1, by omega, by go_num, by rw [R1.out], by rw [R2.out], HKQ.out.tr HK6.out⟩
                        case measure => simp [intOf]; omega
                    | false =>
                      rw [hyf] at z7
                      by_cases hst : y.msg.stream = x.msg.stream
                      · have bst : (y.msg.stream == x.msg.stream) = true := by simpa using hst
                        have HST := hid hst
                        clear hst
                        have HALY := hid (HAL.out y.msg (HMY.out.msg) yo yc HYV.out)
                        have HSK3' := hid HSK3.out
                        have HALY' := hid HALY.out
                        rw [hyf] at HALY' HSK3'
                        go_wp2_with fail
                        go_quiet (fail)
                        go_wp2_with fail
                        clear z0 z1 z2 z3 z4 z5 z6 z7 z8 z9 q1 q2 q3 q4 q5 q6 q7 q8
                        go_region_held3 (fun v => v.cell? ⟨b, off + k * 10 + 4, none⟩ = some (.int .u16 y.msg.stream) ∧ v.cell? ⟨b, off + k * 10 + 5, none⟩ = some (.int .u16 y.msg.ssn) ∧ v.cell? ⟨b, off + k * 10 + 6, none⟩ = some (.int .u32 y.msg.ppid) ∧ v.cell? ⟨b, off + k * 10 + 7, none⟩ = some (.bool false) ∧ v.cell? ⟨b, off + k * 10 + 8, none⟩ = some (.slice yo y.msg.data.length yc) ∧ v.cell? ⟨wo.heap.size, 4, none⟩ = some (.int .u16 x.msg.stream) ∧ v.cell? ⟨wo.heap.size, 5, none⟩ = some (.int .u16 x.msg.ssn) ∧ v.cell? ⟨wo.heap.size, 6, none⟩ = some (.int .u32 x.msg.ppid) ∧ v.cell? ⟨wo.heap.size, 7, none⟩ = some (.bool x.msg.free) ∧ v.cell? ⟨wo.heap.size, 8, none⟩ = some (.slice xo x.msg.data.length xc)) (first | (exact HSK3'.out _ (HK5.out.tr (((Kept.refl [] _).drewN _).drew))) | (exact HSK3'.out _ HK6.out) | assumption)
                          (first | (go_at_call 17; refine (HALY'.out _ (HK4.out.tr (HKQ.out.tr (HK5.out.tr (((Kept.refl [] w5).drewN _).drew))))).mono ?_; rintro e w6 ⟨rfl, hk6⟩; have HK6 := hid (HK5.out.tr ((((Kept.refl [] w5).drewN _).drew).tr hk6)); clear hk6))
                        cases hal : y.msg.alike x.msg with
                        | true =>
                          have h1 := HT1.out
                          have h2 := HT2.out
                          rw [if_pos (by simp [isTold, d2', ho, inRow, hyf, HST.out])] at h1
                          rw [if_pos (by simp [isSame, d2', ho, hal])] at h2
                          have R1 := hid (show (L.take (k + 1)).countP (isTold x.key x.msg.stream) = ta + 1 from h1)
                          have R2 := hid (show (L.take (k + 1)).countP (isSame x.key x.msg) = sb + 1 from h2)
                          clear h1 h2
                          go_wp2_with fail
                          go_roundw
                          case rel => exact ⟨k + 1, by omega, by go_num, by rw [R1.out]; go_num, by rw [R2.out]; go_num, HKQ.out.tr HK6.out⟩
                          case measure => simp [intOf]; omega
                        | false =>
                          have h1 := HT1.out
                          have h2 := HT2.out
                          rw [if_pos (by simp [isTold, d2', ho, inRow, hyf, HST.out])] at h1
                          rw [if_neg (by simp [isSame, hal])] at h2
                          have R1 := hid (show (L.take (k + 1)).countP (isTold x.key x.msg.stream) = ta + 1 from h1)
                          have R2 := hid (show (L.take (k + 1)).countP (isSame x.key x.msg) = sb from h2)
                          clear h1 h2
                          go_wp2_with fail
                          go_roundw
                          case rel => exact ⟨k + 1, by omega, by go_num, by rw [R1.out]; go_num, by rw [R2.out], HKQ.out.tr HK6.out⟩
                          case measure => simp [intOf]; omega
                      · have bst : (y.msg.stream == x.msg.stream) = false := by simpa using hst
                        have HST := hid hst
                        clear hst
                        have HALY := hid (HAL.out y.msg (HMY.out.msg) yo yc HYV.out)
                        have HSK3' := hid HSK3.out
                        have HALY' := hid HALY.out
                        rw [hyf] at HALY' HSK3'
                        go_wp2_with fail
                        go_quiet (fail)
                        go_wp2_with fail
                        clear z0 z1 z2 z3 z4 z5 z6 z7 z8 z9 q1 q2 q3 q4 q5 q6 q7 q8
                        go_region_held3 (fun v => v.cell? ⟨b, off + k * 10 + 4, none⟩ = some (.int .u16 y.msg.stream) ∧ v.cell? ⟨b, off + k * 10 + 5, none⟩ = some (.int .u16 y.msg.ssn) ∧ v.cell? ⟨b, off + k * 10 + 6, none⟩ = some (.int .u32 y.msg.ppid) ∧ v.cell? ⟨b, off + k * 10 + 7, none⟩ = some (.bool false) ∧ v.cell? ⟨b, off + k * 10 + 8, none⟩ = some (.slice yo y.msg.data.length yc) ∧ v.cell? ⟨wo.heap.size, 4, none⟩ = some (.int .u16 x.msg.stream) ∧ v.cell? ⟨wo.heap.size, 5, none⟩ = some (.int .u16 x.msg.ssn) ∧ v.cell? ⟨wo.heap.size, 6, none⟩ = some (.int .u32 x.msg.ppid) ∧ v.cell? ⟨wo.heap.size, 7, none⟩ = some (.bool x.msg.free) ∧ v.cell? ⟨wo.heap.size, 8, none⟩ = some (.slice xo x.msg.data.length xc)) (first | (exact HSK3'.out _ (HK5.out.tr (((Kept.refl [] _).drewN _).drew))) | (exact HSK3'.out _ HK6.out) | assumption)
                          (first | (go_at_call 17; refine (HALY'.out _ (HK4.out.tr (HKQ.out.tr (HK5.out.tr (((Kept.refl [] w5).drewN _).drew))))).mono ?_; rintro e w6 ⟨rfl, hk6⟩; have HK6 := hid (HK5.out.tr ((((Kept.refl [] w5).drewN _).drew).tr hk6)); clear hk6))
                        cases hal : y.msg.alike x.msg with
                        | true =>
                          have h1 := HT1.out
                          have h2 := HT2.out
                          rw [if_neg (by simp [isTold, inRow, hyf, HST.out])] at h1
                          rw [if_pos (by simp [isSame, d2', ho, hal])] at h2
                          have R1 := hid (show (L.take (k + 1)).countP (isTold x.key x.msg.stream) = ta from h1)
                          have R2 := hid (show (L.take (k + 1)).countP (isSame x.key x.msg) = sb + 1 from h2)
                          clear h1 h2
                          go_wp2_with fail
                          go_roundw
                          case rel => exact ⟨k + 1, by omega, by go_num, by rw [R1.out], by rw [R2.out]; go_num, HKQ.out.tr HK6.out⟩
                          case measure => simp [intOf]; omega
                        | false =>
                          have h1 := HT1.out
                          have h2 := HT2.out
                          rw [if_neg (by simp [isTold, inRow, hyf, HST.out])] at h1
                          rw [if_neg (by simp [isSame, hal])] at h2
                          have R1 := hid (show (L.take (k + 1)).countP (isTold x.key x.msg.stream) = ta from h1)
                          have R2 := hid (show (L.take (k + 1)).countP (isSame x.key x.msg) = sb from h2)
                          clear h1 h2
                          go_wp2_with fail
                          go_roundw
                          case rel => exact ⟨k + 1, by omega, by go_num, by rw [R1.out], by rw [R2.out], HKQ.out.tr HK6.out⟩
                          case measure => simp [intOf]; omega
                · have d2 : (y.is != 2) = true := by simpa using g2
                  have d2' : (y.is == 2) = false := by simpa using g2
                  have h1 := HT1.out
                  have h2 := HT2.out
                  rw [if_neg (by simp [isTold, d2'])] at h1
                  rw [if_neg (by simp [isSame, d2'])] at h2
                  have R1 := hid (show (L.take (k + 1)).countP (isTold x.key x.msg.stream) = ta from h1)
                  have R2 := hid (show (L.take (k + 1)).countP (isSame x.key x.msg) = sb from h2)
                  clear h1 h2 g2
                  go_wp2_with fail
                  go_quiet (fail)
                  go_wp2
                  go_roundw
                  case rel => exact ⟨k + 1, by omega, by go_num, by rw [R1.out], by rw [R2.out], HKQ.out.drewN _⟩
                  case measure => simp [intOf]; omega
            · obtain rfl : k = i := by omega
              obtain ⟨w5, rfl⟩ : ∃ w5 : World, w5 = wr := ⟨_, rfl⟩
              have HK5 := hid (HK4.out.tr HKQ.out)
              have HO5 := hid (ownsRow_kept HO3.out HKQ.out (by simp))
              have HB5 := hid HBq.out
              have hle1 : (L.take k).countP (isTold x.key x.msg.stream) ≤ k := by
                have := List.countP_le_length (p := isTold x.key x.msg.stream) (l := L.take k)
                rw [List.length_take] at this; omega
              generalize (L.take k).countP (isTold x.key x.msg.stream) = T at *
              generalize (L.take k).countP (isSame x.key x.msg) = B at *
              go_wp2_with fail
              go_loopw [10, 12, 13, 14] (fun pv nv gv kv wr => ∃ j : Nat, j ≤ l.length ∧ kv = .int .i64 j ∧ pv = .int .i64 ((l.take j).countP (fun s : Msg => s.alike x.msg)) ∧ nv = .int .i64 ((l.take j).countP (inRow x.msg.stream)) ∧ gv = .bool (goodR l x.msg T j) ∧ Kept [] w5 wr) (fun _ _ _ kv _ => l.length - (intOf kv).toNat)
              case atStart => exact ⟨0, Nat.zero_le _, rfl, rfl, rfl, rfl, Kept.refl [] _⟩
              case round =>
                obtain ⟨j, hj, rfl, rfl, rfl, rfl, hkq⟩ := hrel
                have HKJ := hid hkq
                have HOj := hid (ownsRow_kept HO5.out hkq (by simp))
                have HBj := hid (hkq.blk HB5.out (by simp))
                clear hkq
                by_cases hlt3 : j < l.length
                · as_aux_lemma =>
                    obtain ⟨g, rfl, hg, hlc⟩ := row_cells HOj.out hlt3
                    have HSH := hid (HSENT.out _ (List.getElem_mem hlt3))
                    have HT1 := hid (countP_step (fun s : Msg => s.alike x.msg) hlt3)
                    have HT2 := hid (countP_step (inRow x.msg.stream) hlt3)
                    have HT3 := hid (goodR_step (m := x.msg) (told := T) hlt3)
                    have hn1 : (l.take j).countP (fun s : Msg => s.alike x.msg) ≤ j := by
                      have := List.countP_le_length (p := (fun s : Msg => s.alike x.msg)) (l := l.take j)
                      rw [List.length_take] at this; omega
                    have hn2 : (l.take j).countP (inRow x.msg.stream) ≤ j := by
                      have := List.countP_le_length (p := inRow x.msg.stream) (l := l.take j)
                      rw [List.length_take] at this; omega
                    have hwj : IntKind.i64.wrap ((j : Int) + 1) = (j : Int) + 1 := IntWalk.i64_in _ (by omega)
                    have hwa : IntKind.i64.wrap (((l.take j).countP (fun s : Msg => s.alike x.msg) : Int) + 1) = ((l.take j).countP (fun s : Msg => s.alike x.msg) : Int) + 1 := IntWalk.i64_in _ (by omega)
                    have hwb : IntKind.i64.wrap (((l.take j).countP (inRow x.msg.stream) : Int) + 1) = ((l.take j).countP (inRow x.msg.stream) : Int) + 1 := IntWalk.i64_in _ (by omega)
                    generalize l[j] = s at *
                    generalize (l.take j).countP (fun s : Msg => s.alike x.msg) = pb at *
                    generalize (l.take j).countP (inRow x.msg.stream) = na at *
                    generalize goodR l x.msg T j = gd at *
                    obtain ⟨so, sc, hsv⟩ := HSH.out.data.form
                    have HSV := hid hsv
                    have e0 := hlc 0 (by omega)
                    have e1 := hlc 1 (by omega)
                    have e2 := hlc 2 (by omega)
                    have e3 := hlc 3 (by omega)
                    have e4 := hlc 4 (by omega)
                    simp only [Msg.cells, hsv, List.getElem?_cons_zero, List.getElem?_cons_succ, Nat.add_zero] at e0 e1 e2 e3 e4
                    clear hlc hsv
                    have HSK4 := hid (show ∀ v, Kept [] wr v → v.cell? ⟨g, j * 5, none⟩ = some (.int .u16 s.stream) ∧ v.cell? ⟨g, j * 5 + 1, none⟩ = some (.int .u16 s.ssn) ∧ v.cell? ⟨g, j * 5 + 2, none⟩ = some (.int .u32 s.ppid) ∧ v.cell? ⟨g, j * 5 + 3, none⟩ = some (.bool s.free) ∧ v.cell? ⟨g, j * 5 + 4, none⟩ = some (.slice so s.data.length sc) ∧ v.cell? ⟨wo.heap.size, 4, none⟩ = some (.int .u16 x.msg.stream) ∧ v.cell? ⟨wo.heap.size, 5, none⟩ = some (.int .u16 x.msg.ssn) ∧ v.cell? ⟨wo.heap.size, 6, none⟩ = some (.int .u32 x.msg.ppid) ∧ v.cell? ⟨wo.heap.size, 7, none⟩ = some (.bool x.msg.free) ∧ v.cell? ⟨wo.heap.size, 8, none⟩ = some (.slice xo x.msg.data.length xc) from fun v hk => by
                      have hb := hk.blk HBj.out (by simp)
                      exact ⟨hk.cell e0 (by simp), hk.cell e1 (by simp), hk.cell e2 (by simp), hk.cell e3 (by simp), hk.cell e4 (by simp), blk_cell hb 4, blk_cell hb 5, blk_cell hb 6, blk_cell hb 7, blk_cell hb 8⟩)
                    have hmbl := lt_of_block HBj.out
                    have HALS := hid (HAL.out s HSH.out so sc HSV.out)
                    clear e0 e1 e2 e3 e4
                    go_wp2_with fail
                    go_region_held3 (fun v => v.cell? ⟨g, j * 5, none⟩ = some (.int .u16 s.stream) ∧ v.cell? ⟨g, j * 5 + 1, none⟩ = some (.int .u16 s.ssn) ∧ v.cell? ⟨g, j * 5 + 2, none⟩ = some (.int .u32 s.ppid) ∧ v.cell? ⟨g, j * 5 + 3, none⟩ = some (.bool s.free) ∧ v.cell? ⟨g, j * 5 + 4, none⟩ = some (.slice so s.data.length sc) ∧ v.cell? ⟨wo.heap.size, 4, none⟩ = some (.int .u16 x.msg.stream) ∧ v.cell? ⟨wo.heap.size, 5, none⟩ = some (.int .u16 x.msg.ssn) ∧ v.cell? ⟨wo.heap.size, 6, none⟩ = some (.int .u32 x.msg.ppid) ∧ v.cell? ⟨wo.heap.size, 7, none⟩ = some (.bool x.msg.free) ∧ v.cell? ⟨wo.heap.size, 8, none⟩ = some (.slice xo x.msg.data.length xc)) (first | (exact HSK4.out _ ((Kept.refl [] _).drew)) | (exact HSK4.out _ HK7.out) | assumption)
                      (first | (go_at_call 17; refine (HALS.out _ (HK5.out.tr (HKJ.out.tr ((Kept.refl [] wr).drew)))).mono ?_; rintro e w7 ⟨rfl, hk7⟩; have HK7 := hid (((Kept.refl [] wr).drew).tr hk7); clear hk7))
                    cases hal : s.alike x.msg with
                    | true =>
                      have h1 := HT1.out
                      have h2 := HT2.out
                      have h3 := HT3.out
                      rw [if_pos hal] at h1
                      clear hal
                      obtain ⟨p0, p1, p2, p3, p4, q4, q5, q6, q7, q8⟩ := HSK4.out w7 HK7.out
                      have hgl7 := block_lt_of_cell p0
                      have hml7 := block_lt_of_cell q4
                      cases hsf : s.free with
                      | true =>
                        rw [hsf] at p3
                        rw [if_neg (by simp [inRow, hsf])] at h2 h3
                        go_wp2_with fail
                        go_quiet (fail)
                        have R1 := hid (show (l.take (j + 1)).countP (fun s : Msg => s.alike x.msg) = pb + 1 from h1)
                        have R2 := hid (show (l.take (j + 1)).countP (inRow x.msg.stream) = na from h2)
                        have R3 := hid (show goodR l x.msg T (j + 1) = gd from h3)
                        clear h1 h2 h3
                        go_wp2_with fail
                        go_roundw
                        case rel => exact ⟨j + 1, by omega, by go_num, by rw [R1.out]; go_num, by rw [R2.out], by rw [R3.out], HKJ.out.tr (HK7.out.drewN _)⟩
                        case measure => simp [intOf]; omega
                      | false =>
                        rw [hsf] at p3
                        have HSK4' := hid HSK4.out
                        have HALS' := hid HALS.out
                        rw [hsf] at HSK4' HALS'
                        by_cases hst : s.stream = x.msg.stream
                        · have bst : (s.stream == x.msg.stream) = true := by simpa using hst
                          have HST := hid hst
                          rw [if_pos (by simp [inRow, hsf, hst])] at h2 h3
                          clear hst
                          go_wp2_with fail
                          go_quiet (fail)
                          clear p0 p1 p2 p3 p4 q4 q5 q6 q7 q8
                          cases gd with
                          | true =>
                            rw [Bool.true_or] at h3
                            go_wp2_with fail
                            go_quiet (fail)
                            have R1 := hid (show (l.take (j + 1)).countP (fun s : Msg => s.alike x.msg) = pb + 1 from h1)
                            have R2 := hid (show (l.take (j + 1)).countP (inRow x.msg.stream) = na + 1 from h2)
                            have R3 := hid (show goodR l x.msg T (j + 1) = true from h3)
                            clear h1 h2 h3
                            go_wp2_with fail
                            go_roundw
                            case rel => exact ⟨j + 1, by omega, by go_num, by rw [R1.out]; go_num, by rw [R2.out]; go_num, by rw [R3.out], HKJ.out.tr (HK7.out.drewN _)⟩
                            case measure => simp [intOf]; omega
                          | false =>
                            rw [Bool.false_or] at h3
                            by_cases hnt : na = T
                            · have bnt : ((na : Int) == (T : Int)) = true := by rw [hnt]; exact beq_self_eq_true _
                              rw [show (na == T) = true by rw [hnt]; exact beq_self_eq_true _, Bool.true_and] at h3
                              clear hnt
                              go_wp2_with fail
                              go_region_held3 (fun v => v.cell? ⟨g, j * 5, none⟩ = some (.int .u16 s.stream) ∧ v.cell? ⟨g, j * 5 + 1, none⟩ = some (.int .u16 s.ssn) ∧ v.cell? ⟨g, j * 5 + 2, none⟩ = some (.int .u32 s.ppid) ∧ v.cell? ⟨g, j * 5 + 3, none⟩ = some (.bool false) ∧ v.cell? ⟨g, j * 5 + 4, none⟩ = some (.slice so s.data.length sc) ∧ v.cell? ⟨wo.heap.size, 4, none⟩ = some (.int .u16 x.msg.stream) ∧ v.cell? ⟨wo.heap.size, 5, none⟩ = some (.int .u16 x.msg.ssn) ∧ v.cell? ⟨wo.heap.size, 6, none⟩ = some (.int .u32 x.msg.ppid) ∧ v.cell? ⟨wo.heap.size, 7, none⟩ = some (.bool x.msg.free) ∧ v.cell? ⟨wo.heap.size, 8, none⟩ = some (.slice xo x.msg.data.length xc)) (first | (exact HSK4'.out _ (HK7.out.tr (((Kept.refl [] _).drewN _).drew))) | (exact HSK4'.out _ HK8.out) | assumption)
                                (first | (go_at_call 17; refine (HALS'.out _ (HK5.out.tr (HKJ.out.tr (HK7.out.tr (((Kept.refl [] w7).drewN _).drew))))).mono ?_; rintro e w8 ⟨rfl, hk8⟩; have HK8 := hid (HK7.out.tr ((((Kept.refl [] w7).drewN _).drew).tr hk8)); clear hk8))
                              have R1 := hid (show (l.take (j + 1)).countP (fun s : Msg => s.alike x.msg) = pb + 1 from h1)
                              have R2 := hid (show (l.take (j + 1)).countP (inRow x.msg.stream) = na + 1 from h2)
                              have R3 := hid (show goodR l x.msg T (j + 1) = s.alike x.msg from h3)
                              clear h1 h2 h3
                              go_wp2_with fail
                              go_roundw
                              case rel => exact ⟨j + 1, by omega, by go_num, by rw [R1.out]; go_num, by rw [R2.out]; go_num, by rw [R3.out], HKJ.out.tr HK8.out⟩
                              case measure => simp [intOf]; omega
                            · have bnt : ((na : Int) == (T : Int)) = false := beq_eq_false_iff_ne.2 (by omega)
                              rw [show (na == T) = false by simpa using hnt, Bool.false_and] at h3
                              clear hnt
                              go_wp2_with fail
                              go_quiet (fail)
                              have R1 := hid (show (l.take (j + 1)).countP (fun s : Msg => s.alike x.msg) = pb + 1 from h1)
                              have R2 := hid (show (l.take (j + 1)).countP (inRow x.msg.stream) = na + 1 from h2)
                              have R3 := hid (show goodR l x.msg T (j + 1) = false from h3)
                              clear h1 h2 h3
                              go_wp2_with fail
                              go_roundw
                              case rel => exact ⟨j + 1, by omega, by go_num, by rw [R1.out]; go_num, by rw [R2.out]; go_num, by rw [R3.out], HKJ.out.tr (HK7.out.drewN _)⟩
                              case measure => simp [intOf]; omega
                        · have bst : (s.stream == x.msg.stream) = false := by simpa using hst
                          rw [if_neg (by simp [inRow, hst])] at h2 h3
                          clear hst
                          go_wp2_with fail
                          go_quiet (fail)
                          have R1 := hid (show (l.take (j + 1)).countP (fun s : Msg => s.alike x.msg) = pb + 1 from h1)
                          have R2 := hid (show (l.take (j + 1)).countP (inRow x.msg.stream) = na from h2)
                          have R3 := hid (show goodR l x.msg T (j + 1) = gd from h3)
                          clear h1 h2 h3
                          go_wp2_with fail
                          go_roundw
                          case rel => exact ⟨j + 1, by omega, by go_num, by rw [R1.out]; go_num, by rw [R2.out], by rw [R3.out], HKJ.out.tr (HK7.out.drewN _)⟩
                          case measure => simp [intOf]; omega
                    | false =>
                      have h1 := HT1.out
                      have h2 := HT2.out
                      have h3 := HT3.out
                      rw [if_neg (by rw [hal]; exact Bool.false_ne_true)] at h1
                      clear hal
                      obtain ⟨p0, p1, p2, p3, p4, q4, q5, q6, q7, q8⟩ := HSK4.out w7 HK7.out
                      have hgl7 := block_lt_of_cell p0
                      have hml7 := block_lt_of_cell q4
                      cases hsf : s.free with
                      | true =>
                        rw [hsf] at p3
                        rw [if_neg (by simp [inRow, hsf])] at h2 h3
                        go_wp2_with fail
                        go_quiet (fail)
                        have R1 := hid (show (l.take (j + 1)).countP (fun s : Msg => s.alike x.msg) = pb from h1)
                        have R2 := hid (show (l.take (j + 1)).countP (inRow x.msg.stream) = na from h2)
                        have R3 := hid (show goodR l x.msg T (j + 1) = gd from h3)
                        clear h1 h2 h3
                        go_wp2_with fail
                        go_roundw
                        case rel => exact ⟨j + 1, by omega, by go_num, by rw [R1.out], by rw [R2.out], by rw [R3.out], HKJ.out.tr (HK7.out.drewN _)⟩
                        case measure => simp [intOf]; omega
                      | false =>
                        rw [hsf] at p3
                        have HSK4' := hid HSK4.out
                        have HALS' := hid HALS.out
                        rw [hsf] at HSK4' HALS'
                        by_cases hst : s.stream = x.msg.stream
                        · have bst : (s.stream == x.msg.stream) = true := by simpa using hst
                          have HST := hid hst
                          rw [if_pos (by simp [inRow, hsf, hst])] at h2 h3
                          clear hst
                          go_wp2_with fail
                          go_quiet (fail)
                          clear p0 p1 p2 p3 p4 q4 q5 q6 q7 q8
                          cases gd with
                          | true =>
                            rw [Bool.true_or] at h3
                            go_wp2_with fail
                            go_quiet (fail)
                            have R1 := hid (show (l.take (j + 1)).countP (fun s : Msg => s.alike x.msg) = pb from h1)
                            have R2 := hid (show (l.take (j + 1)).countP (inRow x.msg.stream) = na + 1 from h2)
                            have R3 := hid (show goodR l x.msg T (j + 1) = true from h3)
                            clear h1 h2 h3
                            go_wp2_with fail
                            go_roundw
                            case rel => exact ⟨j + 1, by omega, by go_num, by rw [R1.out], by rw [R2.out]; go_num, by rw [R3.out], HKJ.out.tr (HK7.out.drewN _)⟩
                            case measure => simp [intOf]; omega
                          | false =>
                            rw [Bool.false_or] at h3
                            by_cases hnt : na = T
                            · have bnt : ((na : Int) == (T : Int)) = true := by rw [hnt]; exact beq_self_eq_true _
                              rw [show (na == T) = true by rw [hnt]; exact beq_self_eq_true _, Bool.true_and] at h3
                              clear hnt
                              go_wp2_with fail
                              go_region_held3 (fun v => v.cell? ⟨g, j * 5, none⟩ = some (.int .u16 s.stream) ∧ v.cell? ⟨g, j * 5 + 1, none⟩ = some (.int .u16 s.ssn) ∧ v.cell? ⟨g, j * 5 + 2, none⟩ = some (.int .u32 s.ppid) ∧ v.cell? ⟨g, j * 5 + 3, none⟩ = some (.bool false) ∧ v.cell? ⟨g, j * 5 + 4, none⟩ = some (.slice so s.data.length sc) ∧ v.cell? ⟨wo.heap.size, 4, none⟩ = some (.int .u16 x.msg.stream) ∧ v.cell? ⟨wo.heap.size, 5, none⟩ = some (.int .u16 x.msg.ssn) ∧ v.cell? ⟨wo.heap.size, 6, none⟩ = some (.int .u32 x.msg.ppid) ∧ v.cell? ⟨wo.heap.size, 7, none⟩ = some (.bool x.msg.free) ∧ v.cell? ⟨wo.heap.size, 8, none⟩ = some (.slice xo x.msg.data.length xc)) (first | (exact HSK4'.out _ (HK7.out.tr (((Kept.refl [] _).drewN _).drew))) | (exact HSK4'.out _ HK8.out) | assumption)
                                (first | (go_at_call 17; refine (HALS'.out _ (HK5.out.tr (HKJ.out.tr (HK7.out.tr (((Kept.refl [] w7).drewN _).drew))))).mono ?_; rintro e w8 ⟨rfl, hk8⟩; have HK8 := hid (HK7.out.tr ((((Kept.refl [] w7).drewN _).drew).tr hk8)); clear hk8))
                              have R1 := hid (show (l.take (j + 1)).countP (fun s : Msg => s.alike x.msg) = pb from h1)
                              have R2 := hid (show (l.take (j + 1)).countP (inRow x.msg.stream) = na + 1 from h2)
                              have R3 := hid (show goodR l x.msg T (j + 1) = s.alike x.msg from h3)
                              clear h1 h2 h3
                              go_wp2_with fail
                              go_roundw
                              case rel => exact ⟨j + 1, by omega, by go_num, by rw [R1.out], by rw [R2.out]; go_num, by rw [R3.out], HKJ.out.tr HK8.out⟩
                              case measure => simp [intOf]; omega
                            · have bnt : ((na : Int) == (T : Int)) = false := beq_eq_false_iff_ne.2 (by omega)
                              rw [show (na == T) = false by simpa using hnt, Bool.false_and] at h3
                              clear hnt
                              go_wp2_with fail
                              go_quiet (fail)
                              have R1 := hid (show (l.take (j + 1)).countP (fun s : Msg => s.alike x.msg) = pb from h1)
                              have R2 := hid (show (l.take (j + 1)).countP (inRow x.msg.stream) = na + 1 from h2)
                              have R3 := hid (show goodR l x.msg T (j + 1) = false from h3)
                              clear h1 h2 h3
                              go_wp2_with fail
                              go_roundw
                              case rel => exact ⟨j + 1, by omega, by go_num, by rw [R1.out], by rw [R2.out]; go_num, by rw [R3.out], HKJ.out.tr (HK7.out.drewN _)⟩
                              case measure => simp [intOf]; omega
                        · have bst : (s.stream == x.msg.stream) = false := by simpa using hst
                          rw [if_neg (by simp [inRow, hst])] at h2 h3
                          clear hst
                          go_wp2_with fail
                          go_quiet (fail)
                          have R1 := hid (show (l.take (j + 1)).countP (fun s : Msg => s.alike x.msg) = pb from h1)
                          have R2 := hid (show (l.take (j + 1)).countP (inRow x.msg.stream) = na from h2)
                          have R3 := hid (show goodR l x.msg T (j + 1) = gd from h3)
                          clear h1 h2 h3
                          go_wp2_with fail
                          go_roundw
                          case rel => exact ⟨j + 1, by omega, by go_num, by rw [R1.out], by rw [R2.out], by rw [R3.out], HKJ.out.tr (HK7.out.drewN _)⟩
                          case measure => simp [intOf]; omega
                · obtain rfl : j = l.length := by omega
                  have q7 := blk_cell HBj.out 7
                  simp only [List.getElem?_toArray, List.getElem?_cons_zero, List.getElem?_cons_succ] at q7
                  have hmbl := lt_of_block HBj.out
                  cases hxf : x.msg.free with
                  | true =>
                    rw [hxf] at q7
                    have hgx := HGX.out.1 hxf
                    rw [List.take_length]
                    generalize l.countP (fun s : Msg => s.alike x.msg) = pb at *
                    have hle : decide ((pb : Int) ≤ (B : Int)) = false := by simp; omega
                    go_wp2_with fail
                    go_roundw
                    case rel => exact ⟨k + 1, by omega, by go_num, HK5.out.tr HKJ.out⟩
                    case measure => simp [intOf]; omega
                  | false =>
                    rw [hxf] at q7
                    obtain ⟨jj, hjj, i1, i2, i3⟩ := HGX.out.2 hxf
                    have hgd := goodR_hit hjj i1 i2 i3 l.length hjj (Nat.le_refl _)
                    rw [hgd]
                    clear hgd i1 i2 i3
                    go_wp2_with fail
                    go_roundw
                    case rel => exact ⟨k + 1, by omega, by go_num, HK5.out.tr HKJ.out⟩
                    case measure => simp [intOf]; omega
        · have b2 : (x.is != 2) = true := by simpa using h2
          clear h2
          go_wp2_with fail
          go_roundw
          case rel => exact ⟨i + 1, by omega, by go_num, HK.out.tr HKA.out⟩
          case measure => simp [intOf]; omega
      · go_wp2_with fail
        refine (live_any _).mono ?_
        rintro e w4 ⟨rfl, hk4⟩
        have HK4 := hid (HK.out.tr hk4)
        clear hk4
        go_wp2
        go_ret
        exact ⟨rfl, HK4.out⟩
  · have be : ((judgeOf L).2 != 0) = true := by simpa using he
    generalize judgeOf L = J at *
    obtain ⟨n, er⟩ := J
    dsimp only at be
    clear he
    go_wp2_with fail
    refine (live_any _).mono ?_
    rintro e w4 ⟨rfl, hk4⟩
    have HK4 := hid (HK2.out.tr hk4)
    clear hk4
    go_wp2
    go_ret
    exact ⟨rfl, HK4.out⟩

end Go.Proofs.Ytepadejkeokbcaa
