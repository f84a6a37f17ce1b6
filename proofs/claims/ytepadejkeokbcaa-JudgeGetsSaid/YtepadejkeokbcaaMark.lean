/-
  (court).mark: a mark.
-/
import Derived.Test.YtepadejkeokbcaaSend
namespace Go.Proofs.Ytepadejkeokbcaa
open Go.RowKit Go.Maps

def Sd.close (a : Sd) : Sd := { a with shut := true }

theorem Try.info41 : (Try.prog.info? 41).map (fun i => (i.zero, i.size, i.bytes)) = some (some (.agg #[.int .u16 0, .int .u16 0, .int .u32 0, .bool false, .slice none 0 0]), 5, 40) := by kernel_rfl
theorem Try.info4 : (Try.prog.info? 4).map (fun i => (i.zero, i.size, i.bytes)) = some (some (.bool false), 1, 1) := by kernel_rfl
theorem Try.underlying33 : Try.prog.underlying 33 = some (.slice 41) := by kernel_rfl
theorem Try.underlying52 : Try.prog.underlying 52 = some (.slice 4) := by kernel_rfl

def markI (c : Key → Sd) (m : Mark) (is : Int) : Int × (Key → Sd) :=
  if is = 1 then (if (c m.key).shut = true ∨ (c m.key).ended = true then (9, c) else (0, upd c m.key ((c m.key).send m.msg)))
  else if is = 2 then ((gotR c m.key m.msg).1, got c m.key m.msg)
  else if is = 3 then (((c m.key).told m.notice).1, upd c m.key ((c m.key).told m.notice).2)
  else if is = 4 then (if (c m.key).shut = true then (17, c) else if (c m.key).ended = true then (9, c) else (0, upd c m.key (c m.key).close))
  else (11, c)
def markR (c : Key → Sd) (m : Mark) : Int × (Key → Sd) := if m.host < 0 ∨ 1 < m.host then (2, c) else markI c m m.is
theorem markR_in {c : Key → Sd} {m : Mark} (h : ¬ (m.host < 0 ∨ 1 < m.host)) : markR c m = markI c m m.is := if_neg h

theorem told_sent (a : Sd) (n : Int) : (a.told n).2.sent = a.sent := by unfold Sd.told; split <;> (try split) <;> (try split) <;> (try split) <;> rfl
theorem told_used (a : Sd) (n : Int) : (a.told n).2.used = a.used := by unfold Sd.told; split <;> (try split) <;> (try split) <;> (try split) <;> rfl
theorem told_next (a : Sd) (n : Int) : (a.told n).2.next = a.next := by unfold Sd.told; split <;> (try split) <;> (try split) <;> (try split) <;> rfl

def Marked (w0 : World) (mb : Nat) (c : Key → Sd) (m : Mark) (e : Ending) (w' : World) : Prop :=
  e = .returned (.int .i64 (markR c m).1) ∧ ∃ O' F', Court w0 w' mb (markR c m).2 O' F'

set_option maxRecDepth 100000 in
set_option maxHeartbeats 4000000 in
theorem mark_any {w0 w : World} {mb : Nat} {c : Key → Sd} {O : Owner} {F : Key → Option Nat} {m : Mark} (hc : Court w0 w mb c O F) (hm : m.here w0) (hfew : ∀ k, (c k).sent.length ≤ 1000) (hfn : ∀ k x, (c k).next x ≤ 1000) :
    Calls Try.prog 21 #[.map (some mb), m.val] w (Marked w0 mb c m) := by
  obtain ⟨i41, hi41, hz41, hs41, hy41⟩ := info_parts Try.info41
  obtain ⟨i4, hi4, hz4, hs4, hy4⟩ := info_parts Try.info4
  have I41 := hid hi41
  have I4 := hid hi4
  clear hi41 hi4
  have HC := hid hc
  have HM := hid hm
  have HFW := hid hfew
  have HFN := hid hfn
  obtain ⟨mo, mc, hmv⟩ := hm.msg.data.form
  have HMV := hid hmv
  have HP := hid (show ∀ r c' w', markR c m = (r, c') → (∃ O' F', Court w0 w' mb c' O' F') → Marked w0 mb c m (.returned (.int .i64 r)) w' from fun r c' w' e h => by
    refine ⟨by rw [e], ?_⟩; rw [e]; exact h)
  have hval : m.val = .agg #[.int .i64 m.is, .int .i64 m.host, .int .u32 m.own, .int .u32 m.peer, .int .u16 m.msg.stream, .int .u16 m.msg.ssn, .int .u32 m.msg.ppid, .bool m.msg.free, .slice mo m.msg.data.length mc, .int .i64 m.notice] := by
    unfold Mark.val; rw [hmv]
  rw [hval]
  generalize Marked w0 mb c m = Post at *
  generalize hA : Obj.cells #[.int .i64 m.is, .int .i64 m.host, .int .u32 m.own, .int .u32 m.peer, .int .u16 m.msg.stream, .int .u16 m.msg.ssn, .int .u32 m.msg.ppid, .bool m.msg.free, .slice mo m.msg.data.length mc, .int .i64 m.notice] 44 = A at *
  have HKA := hid (show Kept [] w (w.alloc A) from (Kept.refl [] w).alloc A)
  have HBA := hid (blk_new w A)
  subst hA
  clear hc hm hfew hfn hval
  by_cases h1 : m.host < 0 ∨ 1 < m.host
  · have HN := hid (show markR c m = (2, c) from if_pos h1)
    rcases h1 with h1 | h1
    · go_enter Try.func21, Try.ntmps21
      go_wp2_with fail
      exact HP.out _ _ _ HN.out ⟨_, _, HC.out.stay HKA.out⟩
    · have h2 : ¬ m.host < 0 := by omega
      go_enter Try.func21, Try.ntmps21
      go_wp2_with fail
      exact HP.out _ _ _ HN.out ⟨_, _, HC.out.stay HKA.out⟩
  · have h01 : 0 ≤ m.host ∧ m.host ≤ 1 := by omega
    have h2 : ¬ m.host < 0 := by omega
    have h3 : ¬ 1 < m.host := by omega
    have HN := hid (markR_in (c := c) h1)
    have H01 := hid h01
    clear h1
    clear h01
    go_enter Try.func21, Try.ntmps21
    go_wp2_with fail
    refine (side_any (k := m.key) (HC.out.stay (HKA.out.alloc _)) HM.out.key).mono ?_
    rintro e w3 ⟨s, O1, F1, rfl, hc3, hf3, _, hk3⟩
    unfold ptr
    have hmlt := HC.out.map.lt
    have hsa : (w.alloc (.cells #[.int .i64 m.is, .int .i64 m.host, .int .u32 m.own, .int .u32 m.peer, .int .u16 m.msg.stream, .int .u16 m.msg.ssn, .int .u32 m.msg.ppid, .bool m.msg.free, .slice mo m.msg.data.length mc, .int .i64 m.notice] 44)).heap.size = w.heap.size + 1 := by show (w.heap.push _).size = _; simp
    have hb1 := hk3.blk (blk_alloc _ HBA.out) (by simp; omega)
    have hb2 := blk_new (w.alloc (.cells #[.int .i64 m.is, .int .i64 m.host, .int .u32 m.own, .int .u32 m.peer, .int .u16 m.msg.stream, .int .u16 m.msg.ssn, .int .u32 m.msg.ppid, .bool m.msg.free, .slice mo m.msg.data.length mc, .int .i64 m.notice] 44)) (.cells #[.int .i64 m.host, .int .u32 m.own, .int .u32 m.peer] 59)
    rw [hsa] at hb2
    have hb2 := hk3.blk hb2 (by simp; omega)
    have HB1 := hid hb1
    have HB2 := hid hb2
    have HC3 := hid hc3
    have HF3 := hid hf3
    have HS3 := hid (hc3.side _ _ hf3)
    obtain ⟨so, sc, uo, uc, nb, hop⟩ := HS3.out.opened
    have HOP := hid hop
    have m0 := blk_cell hb1 0
    have m4 := blk_cell hb1 4
    have m5 := blk_cell hb1 5
    have m6 := blk_cell hb1 6
    have m7 := blk_cell hb1 7
    have m8 := blk_cell hb1 8
    have m9 := blk_cell hb1 9
    have k0 := blk_cell hb2 0
    have k1 := blk_cell hb2 1
    have k2 := blk_cell hb2 2
    have s0 := blk_cell hop.blk 0
    have s1 := blk_cell hop.blk 1
    have s4 := blk_cell hop.blk 4
    have s5 := blk_cell hop.blk 5
    have f0 := blk_free hop.blk 0
    have f1 := blk_free hop.blk 1
    have f5 := blk_free hop.blk 5
    have hbm := lt_of_block hb1
    have hbk := lt_of_block hb2
    have hbs := lt_of_block hop.blk
    simp only [sideCells, List.getElem?_toArray, List.getElem?_cons_zero, List.getElem?_cons_succ] at m0 m4 m5 m6 m7 m8 m9 k0 k1 k2 s0 s1 s4 s5
    clear hsa hb1 hb2 hc3 hf3 hk3 hop
    have HN' := HN.out
    unfold markI at HN'
    generalize m.is = is at *
    by_cases e1 : is = 1
    · subst e1
      rw [if_pos rfl] at HN'
      by_cases d1 : (c m.key).shut = true
      · rw [if_pos (.inl d1)] at HN'
        have HN := hid HN'
        clear HN'
        go_wp2_with fail
        exact HP.out _ _ _ HN.out ⟨_, _, HC3.out⟩
      · have d1' : (c m.key).shut = false := by simpa using d1
        by_cases d2 : (c m.key).ended = true
        · rw [if_pos (.inr d2)] at HN'
          have HN := hid HN'
          clear HN' d1
          go_wp2_with fail
          exact HP.out _ _ _ HN.out ⟨_, _, HC3.out⟩
        · have d2' : (c m.key).ended = false := by simpa using d2
          rw [if_neg (by simp [d1', d2'])] at HN'
          have HN := hid HN'
          clear HN' d1 d2
          go_wp2_with fail
          obtain ⟨so', sc', uo', uc', nb', L, hop', hL, hctx, hLc, hLn⟩ := HS3.out.ctx
          have e := hop'.blk
          rw [HOP.out.blk] at e
          simp [sideCells] at e
          obtain ⟨⟨rfl, rfl⟩, ⟨rfl, rfl⟩, rfl⟩ := e
          have hsL : s ∉ L := fun h => by obtain ⟨p, e, hp⟩ := hL s h; rw [HS3.out.own] at e; cases e; exact hp rfl
          have hmL : w.heap.size ∉ L := by
            intro h
            obtain ⟨cs, e, h1, h2⟩ := hLc _ h
            rw [HB1.out] at h1
            cases h1
            simp at h2
          have HCX := hid hctx
          have HSL := hid hsL
          have HL := hid hL
          have HLN := hid hLn
          have HSK := hid (show ∀ v, Kept L w3 v → v.cell? ⟨s, 0, none⟩ = some (.slice so (c m.key).sent.length sc) ∧ v.cell? ⟨s, 1, none⟩ = some (.slice uo (c m.key).used.length uc) ∧ v.cell? ⟨w.heap.size, 4, none⟩ = some (.int .u16 m.msg.stream) ∧ v.cell? ⟨w.heap.size, 5, none⟩ = some (.int .u16 m.msg.ssn) ∧
              v.cell? ⟨w.heap.size, 6, none⟩ = some (.int .u32 m.msg.ppid) ∧ v.cell? ⟨w.heap.size, 7, none⟩ = some (.bool m.msg.free) ∧ v.cell? ⟨w.heap.size, 8, none⟩ = some (.slice mo m.msg.data.length mc) from fun v hk =>
            ⟨hk.cell s0 hsL, hk.cell s1 hsL, hk.cell m4 hmL, hk.cell m5 hmL, hk.cell m6 hmL, hk.cell m7 hmL, hk.cell m8 hmL⟩)
          clear hop' hL hctx hLn hLc hsL hmL s0 s1 m4 m5 m6 m7 m8
          refine wp_region_late [18, 21] (fun v => v.cell? ⟨s, 0, none⟩ = some (.slice so (c m.key).sent.length sc) ∧ v.cell? ⟨s, 1, none⟩ = some (.slice uo (c m.key).used.length uc) ∧ v.cell? ⟨w.heap.size, 4, none⟩ = some (.int .u16 m.msg.stream) ∧ v.cell? ⟨w.heap.size, 5, none⟩ = some (.int .u16 m.msg.ssn) ∧
              v.cell? ⟨w.heap.size, 6, none⟩ = some (.int .u32 m.msg.ppid) ∧ v.cell? ⟨w.heap.size, 7, none⟩ = some (.bool m.msg.free) ∧ v.cell? ⟨w.heap.size, 8, none⟩ = some (.slice mo m.msg.data.length mc)) (by kernel_rfl) ?_
          refine wpLate_take0 (i := 0) (v := Value.pointer (some ⟨s, 0, none⟩)) rfl (by kernel_rfl) (by kernel_rfl) (by kernel_rfl) (by decide) (fun _ _ _ h => h) (fun _ => HSK.out _ ((Kept.refl L w3).drew)) (Or.inl ⟨by rfl, fun w' _ => by go_simp⟩) ?_
          simp only [Act.put, List.setIfInBounds_toArray]
          refine wpLate_take0 (i := 1) (v := Value.pointer (some ⟨s, 0, none⟩)) rfl (by kernel_rfl) (by kernel_rfl) (by kernel_rfl) (by decide) (fun _ _ _ h => h) (fun _ => HSK.out _ ((Kept.refl L w3).drew)) (Or.inl ⟨by rfl, fun w' _ => by go_simp⟩) ?_
          simp only [Act.put]
          refine wpLate_take0 (i := 2) (v := Value.pointer (some ⟨s, 0, none⟩)) rfl (by kernel_rfl) (by kernel_rfl) (by kernel_rfl) (by decide) (fun _ _ _ h => h) (fun _ => HSK.out _ ((Kept.refl L w3).drew)) (Or.inl ⟨by rfl, fun w' _ => by go_simp⟩) ?_
          simp only [Act.put]
          refine wpLate_take0 (i := 3) (v := Value.pointer (some ⟨s, 0, none⟩)) rfl (by kernel_rfl) (by kernel_rfl) (by kernel_rfl) (by decide) (fun _ _ _ h => h) (fun _ => HSK.out _ ((Kept.refl L w3).drew)) (Or.inl ⟨by rfl, fun w' _ => by go_simp⟩) ?_
          simp only [Act.put]
          refine wpLate_take0 (i := 4) (v := Value.pointer (some ⟨s, 0, none⟩)) rfl (by kernel_rfl) (by kernel_rfl) (by kernel_rfl) (by decide) (fun _ _ _ h => h) (fun _ => HSK.out _ ((Kept.refl L w3).drew)) (Or.inl ⟨by rfl, fun w' _ => by go_simp⟩) ?_
          simp only [Act.put]
          refine wpLate_take (i := 5) (v := .slice so (c m.key).sent.length sc) rfl (by kernel_rfl) (by kernel_rfl) (by kernel_rfl) (by kernel_rfl) (by kernel_rfl) (fun _ _ _ h => h) (HSK.out _ ((Kept.refl L w3).drew)) (Or.inl ⟨by rfl, fun w' hSw => by (try dsimp only at hSw); obtain ⟨q0, q1, q4, q5, q6, q7, q8⟩ := hSw; go_simp⟩) ?_
          simp only [Act.put]
          refine wpLate_take0 (i := 6) (v := Value.pointer (some ⟨w.heap.size, 4, none⟩)) rfl (by kernel_rfl) (by kernel_rfl) (by kernel_rfl) (by decide) (fun _ _ _ h => h) (fun _ => HSK.out _ ((Kept.refl L w3).drew)) (Or.inl ⟨by rfl, fun w' _ => by go_simp⟩) ?_
          simp only [Act.put]
          refine wpLate_take (i := 7) (v := .agg #[.int .u16 m.msg.stream, .int .u16 m.msg.ssn, .int .u32 m.msg.ppid, .bool m.msg.free, .slice mo m.msg.data.length mc]) rfl (by kernel_rfl) (by kernel_rfl) (by kernel_rfl) (by kernel_rfl) (by kernel_rfl) (fun _ _ _ h => h) (HSK.out _ ((Kept.refl L w3).drew)) (Or.inl ⟨by rfl, fun w' hSw => by (try dsimp only at hSw); obtain ⟨q0, q1, q4, q5, q6, q7, q8⟩ := hSw; go_simp⟩) ?_
          simp only [Act.put]
          refine wpLate_take0 (i := 10) (v := Value.pointer (some ⟨s, 0, none⟩)) rfl (by kernel_rfl) (by kernel_rfl) (by kernel_rfl) (by decide) (fun _ _ _ h => h) (fun _ => HSK.out _ ((Kept.refl L w3).drew)) (Or.inl ⟨by rfl, fun w' _ => by go_simp⟩) ?_
          simp only [Act.put]
          refine wpLate_take0 (i := 11) (v := Value.pointer (some ⟨s, 0, none⟩)) rfl (by kernel_rfl) (by kernel_rfl) (by kernel_rfl) (by decide) (fun _ _ _ h => h) (fun _ => HSK.out _ ((Kept.refl L w3).drew)) (Or.inl ⟨by rfl, fun w' _ => by go_simp⟩) ?_
          simp only [Act.put]
          refine wpLate_take0 (i := 12) (v := Value.pointer (some ⟨s, 1, none⟩)) rfl (by kernel_rfl) (by kernel_rfl) (by kernel_rfl) (by decide) (fun _ _ _ h => h) (fun _ => HSK.out _ ((Kept.refl L w3).drew)) (Or.inl ⟨by rfl, fun w' _ => by go_simp⟩) ?_
          simp only [Act.put]
          refine wpLate_take (i := 13) (v := .slice uo (c m.key).used.length uc) rfl (by kernel_rfl) (by kernel_rfl) (by kernel_rfl) (by kernel_rfl) (by kernel_rfl) (fun _ _ _ h => h) (HSK.out _ ((Kept.refl L w3).drew)) (Or.inl ⟨by rfl, fun w' hSw => by (try dsimp only at hSw); obtain ⟨q0, q1, q4, q5, q6, q7, q8⟩ := hSw; go_simp⟩) ?_
          simp only [Act.put]
          have HOWN := hid (fun b e => own_lt HCX.out.r1 b e)
          refine wpLate_all (rs := [8, 14]) (by kernel_rfl) (by simp) ?_
          refine (AllLate.cons rfl (fun K hK => ?_) (AllLate.cons rfl (fun K hK => ?_) AllLate.nil))
          · have C1 := hid (HCX.out.go (((Kept.refl [] w3).alloc (.cells #[.int .u16 m.msg.stream, .int .u16 m.msg.ssn, .int .u32 m.msg.ppid, .bool m.msg.free, .slice mo m.msg.data.length mc] 41)).drew))
            go_simp
            refine hK.out _ _ (fun _ => HSK.out _ C1.out.kp) ?_
            clear hK K
            try simp only [Act.put, List.setIfInBounds_toArray, List.set_cons_zero, List.set_cons_succ]
            refine wpLate_all (rs := [9, 14]) (by kernel_rfl) (by simp) ?_
            refine (AllLate.cons rfl (fun K hK => ?_) (AllLate.cons rfl (fun K hK => ?_) AllLate.nil))
            · refine step_append_lies ((w3.alloc (.cells #[.int .u16 m.msg.stream, .int .u16 m.msg.ssn, .int .u32 m.msg.ppid, .bool m.msg.free, .slice mo m.msg.data.length mc] 41)).drew) rfl (.tmp 44) (.tmp 47) 33 rfl 0 41 i41 _ 5 40 Try.underlying33 I41.out hz41 hs41 hy41 rfl (by decide) _ _ _ (by simp [Act.eval]) C1.out.r1 ⟨w3.heap.size, 0, none⟩ 1 1 _ (by simp [Act.eval]) rfl (World.news_of_block (blk_drew (blk_new w3 (.cells #[.int .u16 m.msg.stream, .int .u16 m.msg.ssn, .int .u32 m.msg.ppid, .bool m.msg.free, .slice mo m.msg.data.length mc] 41)))) (by simp [Value.oneCell']) (by decide) (by have := HFW.out m.key; unfold maxLen; omega) (by have := HFW.out m.key; omega) (Nat.zero_le _) _ rfl ?_
              intro g2 cap2 w102 hr2 hg2 hat2 _
              have C2 := hid (C1.out.app1 hr2 hg2 hat2)
              clear hr2 hg2 hat2
              refine hK.out _ _ (fun _ => HSK.out _ C2.out.kp) ?_
              clear hK K
              try simp only [Act.put, List.setIfInBounds_toArray]
              refine wpLate_all (rs := [14]) (by kernel_rfl) (by simp) ?_
              refine (AllLate.cons rfl (fun K hK => ?_) AllLate.nil)
              · have C3 := hid (C2.out.go (((Kept.refl [] w102).alloc (.cells #[.bool false] 4))))
                go_simp
                refine hK.out _ _ (fun _ => HSK.out _ C3.out.kp) ?_
                clear hK K
                try simp only [Act.put, List.setIfInBounds_toArray, List.set_cons_zero, List.set_cons_succ]
                refine wpLate_all (rs := [15]) (by kernel_rfl) (by simp) ?_
                refine (AllLate.cons rfl (fun K hK => ?_) AllLate.nil)
                · refine step_append_lies (w102.alloc (.cells #[.bool false] 4)) rfl (.tmp 52) (.tmp 53) 52 rfl 0 4 i4 _ 1 1 Try.underlying52 I4.out hz4 hs4 hy4 rfl (by decide) _ _ _ (by simp [Act.eval]) C3.out.r2 ⟨w102.heap.size, 0, none⟩ 1 1 _ (by simp [Act.eval]) rfl (World.news_of_block (blk_new w102 (.cells #[.bool false] 4))) (by simp [Value.oneCell']) (by decide) (by have := HFW.out m.key; have := HOP.out.same; unfold maxLen; omega) (by have := HFW.out m.key; have := HOP.out.same; omega) (Nat.zero_le _) _ rfl ?_
                  intro g4 cap4 w104 hr4 hg4 hat4 _
                  have C4 := hid (C3.out.app2 hr4 hg4 hat4)
                  clear hr4 hg4 hat4
                  refine hK.out _ _ (fun _ => HSK.out _ C4.out.kp) ?_
                  clear hK K
                  try simp only [Act.put, List.setIfInBounds_toArray]
                  have hbz := C4.out.kp.blk HOP.out.blk HSL.out
                  have z0 := blk_cell hbz 0
                  have z1 := blk_cell hbz 1
                  have zf := blk_free hbz
                  have HFIN := hid (send_final (wf := (w104.setCell ⟨s, 0, none⟩ (.slice (some ⟨g2, 0, none⟩) ((c m.key).sent.length + 1) cap2)).setCell ⟨s, 1, none⟩ (.slice (some ⟨g4, 0, none⟩) ((c m.key).used.length + 1) cap4)) (HC3.out.stay (Kept.refl [] w3)) HF3.out HOP.out HL.out HLN.out (by simp [Msg.cells, HMV.out]) C4.out (((Kept.refl [s] _).setCell (.inl (by simp)) _).setCell (.inl (by simp)) _) (blk_set (blk_set hbz 0 _) 1 _) HM.out.msg)
                  have HZ := hid (HP.out _ _ _ HN.out HFIN.out)
                  simp only [sideCells, List.getElem?_toArray, List.getElem?_cons_zero, List.getElem?_cons_succ] at z0 z1
                  clear hbz HFIN
                  refine wpLate_take0 (i := 16) (v := Value.pointer (some ⟨s, 0, none⟩)) rfl (by kernel_rfl) (by kernel_rfl) (by kernel_rfl) (by decide) (fun _ _ _ h => h) (fun _ => HSK.out _ C4.out.kp) (Or.inl ⟨by rfl, fun w' _ => by go_simp⟩) ?_
                  try simp only [Act.put]
                  refine wpLate_take0 (i := 17) (v := Value.pointer (some ⟨s, 0, none⟩)) rfl (by kernel_rfl) (by kernel_rfl) (by kernel_rfl) (by decide) (fun _ _ _ h => h) (fun _ => HSK.out _ C4.out.kp) (Or.inl ⟨by rfl, fun w' _ => by go_simp⟩) ?_
                  try simp only [Act.put]
                  refine wpLate_all (rs := [18]) (by kernel_rfl) (by simp) ?_
                  refine AllLate.cons rfl (fun K hK => ?_) AllLate.nil
                  go_simp
                  refine hK.out _ _ (fun he => absurd ((he 18 List.mem_cons_self).symm.trans (by kernel_rfl)) Bool.false_ne_true) ?_
                  clear hK K
                  try simp only [Act.put, List.setIfInBounds_toArray, List.set_cons_zero, List.set_cons_succ]
                  refine wpLate_take0 (i := 19) (v := Value.pointer (some ⟨s, 0, none⟩)) rfl (by kernel_rfl) (by kernel_rfl) (by kernel_rfl) (by decide) (fun _ _ _ h => h) (fun he => absurd ((he 18 List.mem_cons_self).symm.trans (by kernel_rfl)) Bool.false_ne_true) (Or.inl ⟨by rfl, fun w' _ => by go_simp⟩) ?_
                  try simp only [Act.put, List.setIfInBounds_toArray]
                  refine wpLate_take0 (i := 20) (v := Value.pointer (some ⟨s, 1, none⟩)) rfl (by kernel_rfl) (by kernel_rfl) (by kernel_rfl) (by decide) (fun _ _ _ h => h) (fun he => absurd ((he 18 List.mem_cons_self).symm.trans (by kernel_rfl)) Bool.false_ne_true) (Or.inl ⟨by rfl, fun w' _ => by go_simp⟩) ?_
                  try simp only [Act.put]
                  refine wpLate_all (rs := [21]) (by kernel_rfl) (by simp) ?_
                  refine AllLate.cons rfl (fun K hK => ?_) AllLate.nil
                  go_simp
                  refine hK.out _ _ (fun he => absurd ((he 18 List.mem_cons_self).symm.trans (by kernel_rfl)) Bool.false_ne_true) ?_
                  clear hK K
                  try simp only [Act.put, List.setIfInBounds_toArray, List.set_cons_zero, List.set_cons_succ]
                  refine wpLate_done (by kernel_rfl) ?_ _
                  go_wp2_with fail
                  exact HZ.out
            · have C5 := hid (HCX.out.go ((((Kept.refl [] w3).alloc (.cells #[.int .u16 m.msg.stream, .int .u16 m.msg.ssn, .int .u32 m.msg.ppid, .bool m.msg.free, .slice mo m.msg.data.length mc] 41)).alloc (.cells #[.bool false] 4)).drew))
              go_simp
              refine hK.out _ _ (fun _ => HSK.out _ C5.out.kp) ?_
              clear hK K
              try simp only [Act.put, List.setIfInBounds_toArray, List.set_cons_zero, List.set_cons_succ]
              refine wpLate_all (rs := [9]) (by kernel_rfl) (by simp) ?_
              refine (AllLate.cons rfl (fun K hK => ?_) AllLate.nil)
              · refine step_append_lies (((w3.alloc (.cells #[.int .u16 m.msg.stream, .int .u16 m.msg.ssn, .int .u32 m.msg.ppid, .bool m.msg.free, .slice mo m.msg.data.length mc] 41)).alloc (.cells #[.bool false] 4)).drew) rfl (.tmp 44) (.tmp 47) 33 rfl 0 41 i41 _ 5 40 Try.underlying33 I41.out hz41 hs41 hy41 rfl (by decide) _ _ _ (by simp [Act.eval]) C5.out.r1 ⟨w3.heap.size, 0, none⟩ 1 1 _ (by simp [Act.eval]) rfl (World.news_of_block (blk_drew (heap_alloc2_old w3 (.cells #[.int .u16 m.msg.stream, .int .u16 m.msg.ssn, .int .u32 m.msg.ppid, .bool m.msg.free, .slice mo m.msg.data.length mc] 41) (.cells #[.bool false] 4)))) (by simp [Value.oneCell']) (by decide) (by have := HFW.out m.key; unfold maxLen; omega) (by have := HFW.out m.key; omega) (Nat.zero_le _) _ rfl ?_
                intro g6 cap6 w106 hr6 hg6 hat6 _
                have C6 := hid (C5.out.app1 hr6 hg6 hat6)
                have B6 := hid ((hg6.block _ (lt_of_block (blk_drew (heap_alloc2_new w3 (.cells #[.int .u16 m.msg.stream, .int .u16 m.msg.ssn, .int .u32 m.msg.ppid, .bool m.msg.free, .slice mo m.msg.data.length mc] 41) (.cells #[.bool false] 4)))) (fun e => by have := HOWN.out _ e.symm; omega)).trans (blk_drew (heap_alloc2_new w3 (.cells #[.int .u16 m.msg.stream, .int .u16 m.msg.ssn, .int .u32 m.msg.ppid, .bool m.msg.free, .slice mo m.msg.data.length mc] 41) (.cells #[.bool false] 4))))
                clear hr6 hg6 hat6
                refine hK.out _ _ (fun _ => HSK.out _ C6.out.kp) ?_
                clear hK K
                try simp only [Act.put, List.setIfInBounds_toArray]
                refine wpLate_all (rs := [15]) (by kernel_rfl) (by simp) ?_
                refine (AllLate.cons rfl (fun K hK => ?_) AllLate.nil)
                · refine step_append_lies w106 rfl (.tmp 52) (.tmp 53) 52 rfl 0 4 i4 _ 1 1 Try.underlying52 I4.out hz4 hs4 hy4 rfl (by decide) _ _ _ (by simp [Act.eval]) C6.out.r2 ⟨w3.heap.size + 1, 0, none⟩ 1 1 _ (by simp [Act.eval]) rfl (World.news_of_block B6.out) (by simp [Value.oneCell']) (by decide) (by have := HFW.out m.key; have := HOP.out.same; unfold maxLen; omega) (by have := HFW.out m.key; have := HOP.out.same; omega) (Nat.zero_le _) _ rfl ?_
                  intro g7 cap7 w107 hr7 hg7 hat7 _
                  have C7 := hid (C6.out.app2 hr7 hg7 hat7)
                  clear hr7 hg7 hat7
                  refine hK.out _ _ (fun _ => HSK.out _ C7.out.kp) ?_
                  clear hK K
                  try simp only [Act.put]
                  have hbz := C7.out.kp.blk HOP.out.blk HSL.out
                  have z0 := blk_cell hbz 0
                  have z1 := blk_cell hbz 1
                  have zf := blk_free hbz
                  have HFIN := hid (send_final (wf := (w107.setCell ⟨s, 0, none⟩ (.slice (some ⟨g6, 0, none⟩) ((c m.key).sent.length + 1) cap6)).setCell ⟨s, 1, none⟩ (.slice (some ⟨g7, 0, none⟩) ((c m.key).used.length + 1) cap7)) (HC3.out.stay (Kept.refl [] w3)) HF3.out HOP.out HL.out HLN.out (by simp [Msg.cells, HMV.out]) C7.out (((Kept.refl [s] _).setCell (.inl (by simp)) _).setCell (.inl (by simp)) _) (blk_set (blk_set hbz 0 _) 1 _) HM.out.msg)
                  have HZ := hid (HP.out _ _ _ HN.out HFIN.out)
                  simp only [sideCells, List.getElem?_toArray, List.getElem?_cons_zero, List.getElem?_cons_succ] at z0 z1
                  clear hbz HFIN
                  refine wpLate_take0 (i := 16) (v := Value.pointer (some ⟨s, 0, none⟩)) rfl (by kernel_rfl) (by kernel_rfl) (by kernel_rfl) (by decide) (fun _ _ _ h => h) (fun _ => HSK.out _ C7.out.kp) (Or.inl ⟨by rfl, fun w' _ => by go_simp⟩) ?_
                  try simp only [Act.put]
                  refine wpLate_take0 (i := 17) (v := Value.pointer (some ⟨s, 0, none⟩)) rfl (by kernel_rfl) (by kernel_rfl) (by kernel_rfl) (by decide) (fun _ _ _ h => h) (fun _ => HSK.out _ C7.out.kp) (Or.inl ⟨by rfl, fun w' _ => by go_simp⟩) ?_
                  try simp only [Act.put]
                  refine wpLate_all (rs := [18]) (by kernel_rfl) (by simp) ?_
                  refine AllLate.cons rfl (fun K hK => ?_) AllLate.nil
                  go_simp
                  refine hK.out _ _ (fun he => absurd ((he 18 List.mem_cons_self).symm.trans (by kernel_rfl)) Bool.false_ne_true) ?_
                  clear hK K
                  try simp only [Act.put, List.setIfInBounds_toArray, List.set_cons_zero, List.set_cons_succ]
                  refine wpLate_take0 (i := 19) (v := Value.pointer (some ⟨s, 0, none⟩)) rfl (by kernel_rfl) (by kernel_rfl) (by kernel_rfl) (by decide) (fun _ _ _ h => h) (fun he => absurd ((he 18 List.mem_cons_self).symm.trans (by kernel_rfl)) Bool.false_ne_true) (Or.inl ⟨by rfl, fun w' _ => by go_simp⟩) ?_
                  try simp only [Act.put, List.setIfInBounds_toArray]
                  refine wpLate_take0 (i := 20) (v := Value.pointer (some ⟨s, 1, none⟩)) rfl (by kernel_rfl) (by kernel_rfl) (by kernel_rfl) (by decide) (fun _ _ _ h => h) (fun he => absurd ((he 18 List.mem_cons_self).symm.trans (by kernel_rfl)) Bool.false_ne_true) (Or.inl ⟨by rfl, fun w' _ => by go_simp⟩) ?_
                  try simp only [Act.put]
                  refine wpLate_all (rs := [21]) (by kernel_rfl) (by simp) ?_
                  refine AllLate.cons rfl (fun K hK => ?_) AllLate.nil
                  go_simp
                  refine hK.out _ _ (fun he => absurd ((he 18 List.mem_cons_self).symm.trans (by kernel_rfl)) Bool.false_ne_true) ?_
                  clear hK K
                  try simp only [Act.put, List.setIfInBounds_toArray, List.set_cons_zero, List.set_cons_succ]
                  refine wpLate_done (by kernel_rfl) ?_ _
                  go_wp2_with fail
                  exact HZ.out
          · have C8 := hid (HCX.out.go (((Kept.refl [] w3).alloc (.cells #[.bool false] 4)).drew))
            go_simp
            refine hK.out _ _ (fun _ => HSK.out _ C8.out.kp) ?_
            clear hK K
            try simp only [Act.put, List.setIfInBounds_toArray, List.set_cons_zero, List.set_cons_succ]
            refine wpLate_all (rs := [8]) (by kernel_rfl) (by simp) ?_
            refine (AllLate.cons rfl (fun K hK => ?_) AllLate.nil)
            · have C9 := hid (HCX.out.go ((((Kept.refl [] w3).alloc (.cells #[.bool false] 4)).alloc (.cells #[.int .u16 m.msg.stream, .int .u16 m.msg.ssn, .int .u32 m.msg.ppid, .bool m.msg.free, .slice mo m.msg.data.length mc] 41)).drew))
              go_simp
              refine hK.out _ _ (fun _ => HSK.out _ C9.out.kp) ?_
              clear hK K
              try simp only [Act.put, List.setIfInBounds_toArray, List.set_cons_zero, List.set_cons_succ]
              refine wpLate_all (rs := [9]) (by kernel_rfl) (by simp) ?_
              refine (AllLate.cons rfl (fun K hK => ?_) AllLate.nil)
              · refine step_append_lies (((w3.alloc (.cells #[.bool false] 4)).alloc (.cells #[.int .u16 m.msg.stream, .int .u16 m.msg.ssn, .int .u32 m.msg.ppid, .bool m.msg.free, .slice mo m.msg.data.length mc] 41)).drew) rfl (.tmp 44) (.tmp 47) 33 rfl 0 41 i41 _ 5 40 Try.underlying33 I41.out hz41 hs41 hy41 rfl (by decide) _ _ _ (by simp [Act.eval]) C9.out.r1 ⟨w3.heap.size + 1, 0, none⟩ 1 1 _ (by simp [Act.eval]) rfl (World.news_of_block (blk_drew (heap_alloc2_new w3 (.cells #[.bool false] 4) (.cells #[.int .u16 m.msg.stream, .int .u16 m.msg.ssn, .int .u32 m.msg.ppid, .bool m.msg.free, .slice mo m.msg.data.length mc] 41)))) (by simp [Value.oneCell']) (by decide) (by have := HFW.out m.key; unfold maxLen; omega) (by have := HFW.out m.key; omega) (Nat.zero_le _) _ rfl ?_
                intro g10 cap10 w110 hr10 hg10 hat10 _
                have C10 := hid (C9.out.app1 hr10 hg10 hat10)
                have B10 := hid ((hg10.block _ (lt_of_block (blk_drew (heap_alloc2_old w3 (.cells #[.bool false] 4) (.cells #[.int .u16 m.msg.stream, .int .u16 m.msg.ssn, .int .u32 m.msg.ppid, .bool m.msg.free, .slice mo m.msg.data.length mc] 41)))) (fun e => by have := HOWN.out _ e.symm; omega)).trans (blk_drew (heap_alloc2_old w3 (.cells #[.bool false] 4) (.cells #[.int .u16 m.msg.stream, .int .u16 m.msg.ssn, .int .u32 m.msg.ppid, .bool m.msg.free, .slice mo m.msg.data.length mc] 41))))
                clear hr10 hg10 hat10
                refine hK.out _ _ (fun _ => HSK.out _ C10.out.kp) ?_
                clear hK K
                try simp only [Act.put, List.setIfInBounds_toArray]
                refine wpLate_all (rs := [15]) (by kernel_rfl) (by simp) ?_
                refine (AllLate.cons rfl (fun K hK => ?_) AllLate.nil)
                · refine step_append_lies w110 rfl (.tmp 52) (.tmp 53) 52 rfl 0 4 i4 _ 1 1 Try.underlying52 I4.out hz4 hs4 hy4 rfl (by decide) _ _ _ (by simp [Act.eval]) C10.out.r2 ⟨w3.heap.size, 0, none⟩ 1 1 _ (by simp [Act.eval]) rfl (World.news_of_block B10.out) (by simp [Value.oneCell']) (by decide) (by have := HFW.out m.key; have := HOP.out.same; unfold maxLen; omega) (by have := HFW.out m.key; have := HOP.out.same; omega) (Nat.zero_le _) _ rfl ?_
                  intro g11 cap11 w111 hr11 hg11 hat11 _
                  have C11 := hid (C10.out.app2 hr11 hg11 hat11)
                  clear hr11 hg11 hat11
                  refine hK.out _ _ (fun _ => HSK.out _ C11.out.kp) ?_
                  clear hK K
                  try simp only [Act.put]
                  have hbz := C11.out.kp.blk HOP.out.blk HSL.out
                  have z0 := blk_cell hbz 0
                  have z1 := blk_cell hbz 1
                  have zf := blk_free hbz
                  have HFIN := hid (send_final (wf := (w111.setCell ⟨s, 0, none⟩ (.slice (some ⟨g10, 0, none⟩) ((c m.key).sent.length + 1) cap10)).setCell ⟨s, 1, none⟩ (.slice (some ⟨g11, 0, none⟩) ((c m.key).used.length + 1) cap11)) (HC3.out.stay (Kept.refl [] w3)) HF3.out HOP.out HL.out HLN.out (by simp [Msg.cells, HMV.out]) C11.out (((Kept.refl [s] _).setCell (.inl (by simp)) _).setCell (.inl (by simp)) _) (blk_set (blk_set hbz 0 _) 1 _) HM.out.msg)
                  have HZ := hid (HP.out _ _ _ HN.out HFIN.out)
                  simp only [sideCells, List.getElem?_toArray, List.getElem?_cons_zero, List.getElem?_cons_succ] at z0 z1
                  clear hbz HFIN
                  refine wpLate_take0 (i := 16) (v := Value.pointer (some ⟨s, 0, none⟩)) rfl (by kernel_rfl) (by kernel_rfl) (by kernel_rfl) (by decide) (fun _ _ _ h => h) (fun _ => HSK.out _ C11.out.kp) (Or.inl ⟨by rfl, fun w' _ => by go_simp⟩) ?_
                  try simp only [Act.put]
                  refine wpLate_take0 (i := 17) (v := Value.pointer (some ⟨s, 0, none⟩)) rfl (by kernel_rfl) (by kernel_rfl) (by kernel_rfl) (by decide) (fun _ _ _ h => h) (fun _ => HSK.out _ C11.out.kp) (Or.inl ⟨by rfl, fun w' _ => by go_simp⟩) ?_
                  try simp only [Act.put]
                  refine wpLate_all (rs := [18]) (by kernel_rfl) (by simp) ?_
                  refine AllLate.cons rfl (fun K hK => ?_) AllLate.nil
                  go_simp
                  refine hK.out _ _ (fun he => absurd ((he 18 List.mem_cons_self).symm.trans (by kernel_rfl)) Bool.false_ne_true) ?_
                  clear hK K
                  try simp only [Act.put, List.setIfInBounds_toArray, List.set_cons_zero, List.set_cons_succ]
                  refine wpLate_take0 (i := 19) (v := Value.pointer (some ⟨s, 0, none⟩)) rfl (by kernel_rfl) (by kernel_rfl) (by kernel_rfl) (by decide) (fun _ _ _ h => h) (fun he => absurd ((he 18 List.mem_cons_self).symm.trans (by kernel_rfl)) Bool.false_ne_true) (Or.inl ⟨by rfl, fun w' _ => by go_simp⟩) ?_
                  try simp only [Act.put, List.setIfInBounds_toArray]
                  refine wpLate_take0 (i := 20) (v := Value.pointer (some ⟨s, 1, none⟩)) rfl (by kernel_rfl) (by kernel_rfl) (by kernel_rfl) (by decide) (fun _ _ _ h => h) (fun he => absurd ((he 18 List.mem_cons_self).symm.trans (by kernel_rfl)) Bool.false_ne_true) (Or.inl ⟨by rfl, fun w' _ => by go_simp⟩) ?_
                  try simp only [Act.put]
                  refine wpLate_all (rs := [21]) (by kernel_rfl) (by simp) ?_
                  refine AllLate.cons rfl (fun K hK => ?_) AllLate.nil
                  go_simp
                  refine hK.out _ _ (fun he => absurd ((he 18 List.mem_cons_self).symm.trans (by kernel_rfl)) Bool.false_ne_true) ?_
                  clear hK K
                  try simp only [Act.put, List.setIfInBounds_toArray, List.set_cons_zero, List.set_cons_succ]
                  refine wpLate_done (by kernel_rfl) ?_ _
                  go_wp2_with fail
                  exact HZ.out
    · by_cases e2 : is = 2
      · subst e2
        rw [if_neg e1, if_pos rfl] at HN'
        have HN := hid HN'
        clear HN' e1
        go_wp2_with fail
        have hg := got_any HC3.out HM.out.key H01.out HM.out.msg HFW.out HFN.out
        unfold Key.val Msg.val Mark.key at hg
        rw [HMV.out] at hg
        refine hg.mono ?_
        rintro e w4 ⟨rfl, O4, F4, hc4⟩
        have HC4 := hid hc4
        clear hg hc4
        go_wp2_with fail
        exact HP.out _ _ _ HN.out ⟨_, _, HC4.out⟩
      · by_cases e3 : is = 3
        · subst e3
          rw [if_neg e1, if_neg e2, if_pos rfl] at HN'
          have HN := hid HN'
          clear HN' e1 e2
          go_wp2_with fail
          refine (told_any HOP.out.blk m.notice).mono ?_
          rintro e w4 ⟨rfl, hb4, hk4⟩
          have HZ := hid (HP.out _ _ w4 HN.out ⟨_, _, HC3.out.put HF3.out hk4 (fun b hb => by simp at hb; subst hb; exact ⟨0, HS3.out.own⟩) (fun _ _ => rfl) (HOP.out.flag w4 _ (told_sent _ _) (told_used _ _) (told_next _ _) hb4 hk4) (fun q hq => HC3.out.msgs _ q (by rw [told_sent] at hq; exact hq))⟩)
          clear hb4 hk4
          go_wp2_with fail
          exact HZ.out
        · have b1 : (is == 1) = false := by simpa using e1
          have b2 : (is == 2) = false := by simpa using e2
          have b3 : (is == 3) = false := by simpa using e3
          by_cases e4 : is = 4
          · subst e4
            rw [if_neg e1, if_neg e2, if_neg e3, if_pos rfl] at HN'
            by_cases d1 : (c m.key).shut = true
            · rw [if_pos d1] at HN'
              have HN := hid HN'
              clear HN' e1 e2 e3 b1 b2 b3
              go_wp2_with fail
              exact HP.out _ _ _ HN.out ⟨_, _, HC3.out⟩
            · have d1' : (c m.key).shut = false := by simpa using d1
              rw [if_neg d1] at HN'
              by_cases d2 : (c m.key).ended = true
              · rw [if_pos d2] at HN'
                have HN := hid HN'
                clear HN' e1 e2 e3 b1 b2 b3 d1
                go_wp2_with fail
                exact HP.out _ _ _ HN.out ⟨_, _, HC3.out⟩
              · have d2' : (c m.key).ended = false := by simpa using d2
                rw [if_neg d2] at HN'
                have hset := blk_set HOP.out.blk 5 (.bool true)
                have hk4 : Kept [s] w3 (w3.setCell ⟨s, 5, none⟩ (.bool true)) := (Kept.refl _ _).setCell (.inl (by simp)) _
                have HZ := hid (HP.out _ _ (w3.setCell ⟨s, 5, none⟩ (.bool true)) HN' ⟨_, _, HC3.out.put HF3.out hk4 (fun b hb => by simp at hb; subst hb; exact ⟨0, HS3.out.own⟩) (fun _ _ => rfl) (HOP.out.flag _ (c m.key).close rfl rfl rfl hset hk4) (fun q hq => HC3.out.msgs _ q hq)⟩)
                clear HN' e1 e2 e3 b1 b2 b3 d1 d2 hset hk4
                go_wp2_with fail
                exact HZ.out
          · have b4 : (is == 4) = false := by simpa using e4
            rw [if_neg e1, if_neg e2, if_neg e3, if_neg e4] at HN'
            have HN := hid HN'
            clear HN' e1 e2 e3 e4
            go_wp2_with fail
            exact HP.out _ _ _ HN.out ⟨_, _, HC3.out⟩

end Go.Proofs.Ytepadejkeokbcaa
