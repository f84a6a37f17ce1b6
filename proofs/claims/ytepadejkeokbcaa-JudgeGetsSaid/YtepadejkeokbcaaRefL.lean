/-
  The reference's Left: what was sent and not told.
-/
import Derived.Test.YtepadejkeokbcaaRefT
import Derived.Test.YtepadejkeokbcaaPush
namespace Go.Proofs.Ytepadejkeokbcaa
open Go.RowKit Go.Maps

def fits (m s : Msg) : Bool := (s.free == m.free) && ((s.stream == m.stream) && (!s.free || s.alike m))
def isGot (ko : Key) (m : Mark) : Bool := m.is == 2 && m.of ko
def leftStep (ko : Key) (l : List Msg) (x : Mark) : List Msg := if isGot ko x = true then l.eraseP (fits x.msg) else l
def leftR (L : List Mark) (k ko : Key) : List Msg := L.foldl (leftStep ko) (sentR L k)

theorem left_step {L : List Mark} {i : Nat} (ko : Key) (l : List Msg) (h : i < L.length) : (L.take (i + 1)).foldl (leftStep ko) l = leftStep ko ((L.take i).foldl (leftStep ko) l) L[i] := by
  rw [List.take_succ_eq_append_getElem h, List.foldl_append]
  rfl
theorem leftStep_sub (ko : Key) (l : List Msg) (x : Mark) : (leftStep ko l x).Sublist l := by
  unfold leftStep
  split
  · exact List.eraseP_sublist
  · exact List.Sublist.refl _
theorem left_sub (ko : Key) : ∀ (L : List Mark) (l : List Msg), (L.foldl (leftStep ko) l).Sublist l
  | [], _ => List.Sublist.refl _
  | x :: L, l => (left_sub ko L _).trans (leftStep_sub ko l x)

theorem erase_hit {p : Msg → Bool} {l : List Msg} {j : Nat} (h : j < l.length) (h1 : (l.take j).any p = false) (h2 : p l[j] = true) : (l.take (j + 1)).eraseP p = (l.take j).eraseP p ∧ (l.take (j + 1)).any p = true := by
  have hn : ∀ b ∈ l.take j, ¬ p b = true := fun b hb hp => by
    have := List.any_eq_false.1 h1 b hb
    exact this hp
  rw [List.take_succ_eq_append_getElem h]
  refine ⟨?_, by rw [List.any_append, h1]; simp [h2]⟩
  rw [List.eraseP_append_right _ hn, List.eraseP_of_forall_not hn, List.eraseP_cons_of_pos h2, List.append_nil]
theorem erase_miss {p : Msg → Bool} {l : List Msg} {j : Nat} (h : j < l.length) (h1 : (l.take j).any p = true ∨ p l[j] = false) : (l.take (j + 1)).eraseP p = (l.take j).eraseP p ++ [l[j]] ∧ (l.take (j + 1)).any p = (l.take j).any p := by
  rw [List.take_succ_eq_append_getElem h]
  by_cases ha : (l.take j).any p = true
  · obtain ⟨a, ha1, ha2⟩ := List.any_eq_true.1 ha
    exact ⟨List.eraseP_append_left ha2 _ ha1, by rw [List.any_append, ha, Bool.true_or]⟩
  · have h2 : p l[j] = false := h1.resolve_left ha
    have hn : ∀ b ∈ l.take j, ¬ p b = true := fun b hb hp => ha (List.any_eq_true.2 ⟨b, hb, hp⟩)
    refine ⟨?_, by rw [List.any_append]; simp [h2]⟩
    rw [List.eraseP_append_right _ hn, List.eraseP_of_forall_not hn, List.eraseP_cons_of_neg (by simp [h2])]
    rfl

theorem row_cells {w : World} {B : Nat} {so : Option Addr} {sc : Nat} {l : List Msg} (h : w.ownsRow B 41 5 (.slice so l.length sc) l.length (msgsV l)) {j : Nat} (hj : j < l.length) :
    ∃ g, so = some ⟨g, 0, none⟩ ∧ g < w.heap.size ∧ ∀ i, i < 5 → w.cell? ⟨g, j * 5 + i, none⟩ = l[j].cells[i]? := by
  rcases h.2 with ⟨_, h0⟩ | ⟨g, cap, cur, e, _, hg, _, _, _, ht⟩
  · omega
  · cases e
    refine ⟨g, rfl, lt_of_block hg, fun i hi => ?_⟩
    have q := msgsV_get l j hj i hi
    have hlt : i < l[j].cells.length := hi
    rw [List.getElem?_eq_getElem hlt] at q ⊢
    rw [blk_cell hg, ← Array.getElem?_toList]
    rw [← ht, List.getElem?_take] at q
    split at q
    · exact q
    · cases q

set_option maxRecDepth 100000 in
set_option maxHeartbeats 16000000 in
theorem Left_any {w : World} {lv : Value} {L : List Mark} {k ko : Key} (hl : MarksIn w lv L) (hko : ko = ⟨wrap64 (1 - k.host), k.peer, k.own⟩) : Calls Try.prog 14 #[lv, .int .i64 k.host, .int .u32 k.own, .int .u32 k.peer] w (MsgsOut w (leftR L k ko)) := by
  obtain ⟨ao, cap, rfl⟩ := hl.row.form
  have HL := hid hl
  have hfew := hl.few
  obtain ⟨i41, hi41, hz41, hs41, hy41⟩ := info_parts Try.info41
  have I41 := hid hi41
  clear hl hi41
  have HP := hid (show ∀ v w', w'.ownsRow w.heap.size 41 5 v (leftR L k ko).length (msgsV (leftR L k ko)) → Kept [] w w' → MsgsOut w (leftR L k ko) (.returned v) w' from fun v w' h hk => ⟨v, rfl, h, hk⟩)
  have HOF := hid (show ∀ (x : Mark) (xo : Option Addr) (xc : Nat), x.msg.dv = .slice xo x.msg.data.length xc → ∀ W, Calls Try.prog 16 #[.agg #[.int .i64 x.is, .int .i64 x.host, .int .u32 x.own, .int .u32 x.peer, .int .u16 x.msg.stream, .int .u16 x.msg.ssn, .int .u32 x.msg.ppid, .bool x.msg.free, .slice xo x.msg.data.length xc, .int .i64 x.notice], .int .i64 (wrap64 (1 - k.host)), .int .u32 k.peer, .int .u32 k.own] W (Ofs W x ko) from fun x xo xc h W => by
    have q := of_any W x ko
    unfold Mark.val at q
    rw [h, hko] at q
    rw [hko]
    exact q)
  have HAL := hid (show ∀ (s m : Msg), s.here w → m.here w → ∀ so sc mo mc, s.dv = .slice so s.data.length sc → m.dv = .slice mo m.data.length mc → ∀ W, Kept [] w W → Calls Try.prog 17 #[.agg #[.int .u16 s.stream, .int .u16 s.ssn, .int .u32 s.ppid, .bool s.free, .slice so s.data.length sc], .agg #[.int .u16 m.stream, .int .u16 m.ssn, .int .u32 m.ppid, .bool m.free, .slice mo m.data.length mc]] W (Alikes W s m) from
    fun s m hs hm so sc mo mc e1 e2 W hk => by
      have h := refalike_any (w := W) (hs.kept hk) (hm.kept hk)
      unfold Msg.val at h
      rw [e1, e2] at h
      exact h)
  clear hko
  generalize MsgsOut w (leftR L k ko) = Post at *
  go_enter Try.func14, Try.ntmps14
  go_wp2_with fail
  refine (Sent_any (k := k) HL.out).mono ?_
  rintro e w0 ⟨v0, rfl, ho0, hk0⟩
  obtain ⟨so0, sc0, rfl⟩ := (SliceIn.owned ho0).form
  have HO0 := hid ho0
  have HK0 := hid hk0
  clear ho0 hk0
  go_wp2_with fail
  go_loopw [9, 10] (fun v i wr => ∃ (i0 : Nat) (l : List Msg), i0 ≤ L.length ∧ i = .int .i64 i0 ∧ l = (L.take i0).foldl (leftStep ko) (sentR L k) ∧ wr.ownsRow w.heap.size 41 5 v l.length (msgsV l) ∧ Kept [] w wr) (fun _ i _ => L.length - (intOf i).toNat)
  case atStart => exact ⟨0, _, Nat.zero_le _, rfl, rfl, HO0.out, HK0.out⟩
  case round =>
    obtain ⟨i, l, hi, rfl, hle, hown, hkr⟩ := hrel
    obtain ⟨lo, lc, rfl⟩ := (SliceIn.owned hown).form
    have HO := hid hown
    have HK := hid hkr
    have HE := hid hle
    have HLr := hid (HL.out.kept hkr)
    have HMEM := hid (show ∀ s ∈ l, s.here w from fun s hs => by
      rw [hle] at hs
      obtain ⟨x, hx, e⟩ := sentR_mem ((left_sub ko _ _).subset hs)
      rw [← e]
      exact (HL.out.here x hx).msg)
    have hlen : l.length ≤ 1000 := by
      have h1 := (left_sub ko (L.take i) (sentR L k)).length_le
      have h2 := sentR_le L k
      rw [← hle] at h1
      omega
    clear hown hkr hle
    by_cases hlt : i < L.length
    · obtain ⟨b, off, hao, hb, hcell⟩ := HLr.out.cells hlt
      subst hao
      have HM := hid (HL.out.here _ (List.getElem_mem hlt))
      have HST := hid (left_step ko (sentR L k) hlt)
      have hwi : IntKind.i64.wrap ((i : Int) + 1) = (i : Int) + 1 := IntWalk.i64_in _ (by omega)
      generalize L[i] = x at *
      obtain ⟨xo, xc, hmv⟩ := HM.out.msg.data.form
      have HMV := hid hmv
      have c0 := hcell 0 (by omega)
      have c1 := hcell 1 (by omega)
      have c2 := hcell 2 (by omega)
      have c3 := hcell 3 (by omega)
      have c4 := hcell 4 (by omega)
      have c5 := hcell 5 (by omega)
      have c6 := hcell 6 (by omega)
      have c7 := hcell 7 (by omega)
      have c8 := hcell 8 (by omega)
      have c9 := hcell 9 (by omega)
      simp only [Mark.cells, hmv, List.getElem?_cons_zero, List.getElem?_cons_succ, Nat.add_zero, ← Nat.add_assoc] at c0 c1 c2 c3 c4 c5 c6 c7 c8 c9
      clear hcell hmv
      have HXC := hid (show ∀ v, Kept [] wr v → v.cell? ⟨b, off + i * 10 + 4, none⟩ = some (.int .u16 x.msg.stream) ∧ v.cell? ⟨b, off + i * 10 + 5, none⟩ = some (.int .u16 x.msg.ssn) ∧ v.cell? ⟨b, off + i * 10 + 6, none⟩ = some (.int .u32 x.msg.ppid) ∧ v.cell? ⟨b, off + i * 10 + 7, none⟩ = some (.bool x.msg.free) ∧ v.cell? ⟨b, off + i * 10 + 8, none⟩ = some (.slice xo x.msg.data.length xc) from fun v hk => ⟨hk.cell c4 (by simp), hk.cell c5 (by simp), hk.cell c6 (by simp), hk.cell c7 (by simp), hk.cell c8 (by simp)⟩)
      by_cases h2 : x.is = 2
      · have b2 : (x.is == 2) = true := by simpa using h2
        have b2' : (x.is != 2) = false := by simpa using h2
        clear h2
        go_wp2_with fail
        refine (HOF.out x xo xc HMV.out _).mono ?_
        rintro e w1 ⟨rfl, hk1⟩
        have HK1 := hid (HK.out.tr hk1)
        have HO1 := hid (ownsRow_kept HO.out hk1 (by simp))
        have HXC1 := hid (show ∀ v, Kept [] w1 v → _ from fun v hv => HXC.out v (hk1.tr hv))
        clear hk1 c0 c1 c2 c3 c4 c5 c6 c7 c8 c9
        cases hof : x.of ko with
        | false =>
          have hst := HST.out
          rw [leftStep, if_neg (by simp [isGot, hof]), ← HE.out] at hst
          have HS := hid hst.symm
          clear hst hof
          go_wp2_with fail
          go_roundw
          case rel => exact ⟨i + 1, l, by omega, by go_num, HS.out, HO1.out, HK1.out⟩
          case measure => simp [intOf]; omega
        | true =>
          have hst := HST.out
          rw [leftStep, if_pos (by simp [isGot, b2, hof]), ← HE.out] at hst
          have HS := hid hst
          clear hst hof b2 b2'
          have hb1 : b < w1.heap.size := by
            obtain ⟨q, _⟩ := HXC1.out w1 (Kept.refl [] _)
            exact block_lt_of_cell q
          have HR0 := hid (show (w1.alloc (.cells #[] 41)).ownsRow w1.heap.size 41 5 (.slice (some ⟨w1.heap.size, 0, none⟩) 0 0) 0 [] from World.ownsRow_made w1 #[] 0 (Nat.le_refl _) (Nat.zero_le _) rfl)
          go_wp2_with fail
          go_loopw [11, 12, 13] (fun v go jv wr => ∃ j : Nat, j ≤ l.length ∧ jv = .int .i64 j ∧ go = .bool ((l.take j).any (fits x.msg)) ∧ wr.ownsRow w1.heap.size 41 5 v ((l.take j).eraseP (fits x.msg)).length (msgsV ((l.take j).eraseP (fits x.msg))) ∧ Kept [] w1 wr) (fun _ _ jv _ => l.length - (intOf jv).toNat)
          case atStart => exact ⟨0, Nat.zero_le _, rfl, rfl, HR0.out, (Kept.refl [] w1).alloc _⟩
          case round =>
            obtain ⟨j, hj, rfl, rfl, hro, hkq⟩ := hrel
            obtain ⟨ro, rc, rfl⟩ := (SliceIn.owned hro).form
            have HRO := hid hro
            have HKQ := hid hkq
            have HOq := hid (ownsRow_kept HO1.out hkq (by simp))
            have hgo : ∃ go, (l.take j).any (fits x.msg) = go := ⟨_, rfl⟩
            have hrl : ((l.take j).eraseP (fits x.msg)).length ≤ 1000 := by
              have h1 := (List.eraseP_sublist (p := fits x.msg) (l := l.take j)).length_le
              rw [List.length_take] at h1
              omega
            have HRL := hid hrl
            clear hro hkq hrl
            by_cases hlt2 : j < l.length
            · obtain ⟨g, rfl, hg, hlc⟩ := row_cells HOq.out hlt2
              have HSH := hid (HMEM.out _ (List.getElem_mem hlt2))
              have HIT := hid (erase_hit (p := fits x.msg) hlt2)
              have MISS := hid (erase_miss (p := fits x.msg) hlt2)
              have hwj : IntKind.i64.wrap ((j : Int) + 1) = (j : Int) + 1 := IntWalk.i64_in _ (by omega)
              generalize l[j] = s at *
              obtain ⟨sdo, sdc, hsv⟩ := HSH.out.data.form
              have HSV := hid hsv
              have e0 := hlc 0 (by omega)
              have e1 := hlc 1 (by omega)
              have e2 := hlc 2 (by omega)
              have e3 := hlc 3 (by omega)
              have e4 := hlc 4 (by omega)
              simp only [Msg.cells, hsv, List.getElem?_cons_zero, List.getElem?_cons_succ, Nat.add_zero] at e0 e1 e2 e3 e4
              have HSK := hid (show ∀ v, Kept [] wr v → v.cell? ⟨g, j * 5, none⟩ = some (.int .u16 s.stream) ∧ v.cell? ⟨g, j * 5 + 1, none⟩ = some (.int .u16 s.ssn) ∧ v.cell? ⟨g, j * 5 + 2, none⟩ = some (.int .u32 s.ppid) ∧ v.cell? ⟨g, j * 5 + 3, none⟩ = some (.bool s.free) ∧ v.cell? ⟨g, j * 5 + 4, none⟩ = some (.slice sdo s.data.length sdc) ∧ v.cell? ⟨b, off + i * 10 + 4, none⟩ = some (.int .u16 x.msg.stream) ∧ v.cell? ⟨b, off + i * 10 + 5, none⟩ = some (.int .u16 x.msg.ssn) ∧ v.cell? ⟨b, off + i * 10 + 6, none⟩ = some (.int .u32 x.msg.ppid) ∧ v.cell? ⟨b, off + i * 10 + 7, none⟩ = some (.bool x.msg.free) ∧ v.cell? ⟨b, off + i * 10 + 8, none⟩ = some (.slice xo x.msg.data.length xc) from fun v hk => by
                obtain ⟨x4, x5, x6, x7, x8⟩ := HXC1.out v (HKQ.out.tr hk)
                exact ⟨hk.cell e0 (by simp), hk.cell e1 (by simp), hk.cell e2 (by simp), hk.cell e3 (by simp), hk.cell e4 (by simp), x4, x5, x6, x7, x8⟩)
              have hbq : b < wr.heap.size := Nat.lt_of_lt_of_le hb1 HKQ.out.size
              clear hlc hsv e0 e1 e2 e3 e4
              obtain ⟨go, hgo⟩ := hgo
              rw [hgo]
              have HGO := hid hgo
              clear hgo
              cases hsf : s.free with
              | true =>
                cases hxf : x.msg.free with
                | true =>
                  by_cases hst : s.stream = x.msg.stream
                  · have bst : (s.stream == x.msg.stream) = true := by simpa using hst
                    clear hst
                    have HSK' := hid HSK.out
                    rw [hsf, hxf] at HSK'
                    have HKW := hid (HK1.out.tr HKQ.out)
                    have HAL' := hid (HAL.out s x.msg HSH.out HM.out.msg sdo sdc xo xc HSV.out HMV.out)
                    rw [hsf, hxf] at HAL'
                    go_wp2_with fail
                    go_region_held3 (fun v => v.cell? ⟨g, j * 5, none⟩ = some (.int .u16 s.stream) ∧ v.cell? ⟨g, j * 5 + 1, none⟩ = some (.int .u16 s.ssn) ∧ v.cell? ⟨g, j * 5 + 2, none⟩ = some (.int .u32 s.ppid) ∧ v.cell? ⟨g, j * 5 + 3, none⟩ = some (.bool true) ∧ v.cell? ⟨g, j * 5 + 4, none⟩ = some (.slice sdo s.data.length sdc) ∧ v.cell? ⟨b, off + i * 10 + 4, none⟩ = some (.int .u16 x.msg.stream) ∧ v.cell? ⟨b, off + i * 10 + 5, none⟩ = some (.int .u16 x.msg.ssn) ∧ v.cell? ⟨b, off + i * 10 + 6, none⟩ = some (.int .u32 x.msg.ppid) ∧ v.cell? ⟨b, off + i * 10 + 7, none⟩ = some (.bool true) ∧ v.cell? ⟨b, off + i * 10 + 8, none⟩ = some (.slice xo x.msg.data.length xc)) (first | (exact HSK'.out _ ((Kept.refl [] _).drew)) | (exact HSK'.out _ HK6.out) | assumption)
                      (first | (go_at_call 17; refine (HAL'.out _ (HKW.out.tr ((Kept.refl [] wr).drew))).mono ?_; rintro e w6 ⟨rfl, hk6⟩; have HK6 := hid (((Kept.refl [] wr).drew).tr hk6); clear hk6))
                    cases hal : s.alike x.msg with
                    | true =>
                      have HFIT := hid (show fits x.msg s = true from by simp [fits, hsf, hxf, bst, hal])
                      cases go with
                      | true =>
                        have hh := MISS.out (.inl HGO.out)
                        have HH := hid hh
                        clear hh
                        have hsk := HSK.out w6 HK6.out
                        rw [hsf, hxf] at hsk
                        obtain ⟨q0, q1, q2, q3, q4, _⟩ := hsk
                        have hgW := block_lt_of_cell q0
                        have HROW := hid (ownsRow_kept HRO.out HK6.out (by simp))
                        go_wp2_with (at_builtin; refine wpList_append_in _ rfl (.tmp 102) (.tmp 107) 33 rfl w1.heap.size 41 i41 _ 5 40 Try.underlying33 I41.out hz41 hs41 hy41 rfl (by decide) _ _ _ rfl (HROW.out.alloc _) Any _ 1 _ rfl (block_in (blk_new _ _) rfl) (by simp [Value.oneCell']) (by have := HRL.out; unfold maxLen; omega) (by have := HRL.out; omega) (by have := HKQ.out.size; have := (HK6.out).size; simp; omega) ?_)
                        intro v9 w9 ho9 hg9 _
                        have HF := hid (show w9.ownsRow w1.heap.size 41 5 v9 ((l.take (j + 1)).eraseP (fits x.msg)).length (msgsV ((l.take (j + 1)).eraseP (fits x.msg))) ∧ Kept [] w1 w9 from by
                          refine ⟨?_, kept_in ((HKQ.out.tr HK6.out).alloc _) (HROW.out.alloc _) hg9⟩
                          rw [HH.out.1, List.length_append, msgsV_append]
                          simpa [msgsV, Msg.cells, HSV.out, hsf] using ho9)
                        clear ho9 hg9
                        go_wp2
                        go_roundw
                        case rel => exact ⟨j + 1, by omega, by go_num, by rw [HH.out.2, HGO.out], HF.out.1, HF.out.2⟩
                        case measure => simp [intOf]; omega
                      | false =>
                        have hh := HIT.out HGO.out HFIT.out
                        have HH := hid hh
                        clear hh
                        go_wp2_with fail
                        go_roundw
                        case rel => exact ⟨j + 1, by omega, by go_num, by rw [HH.out.2], by rw [HH.out.1]; exact ownsRow_kept HRO.out HK6.out (by simp), HKQ.out.tr HK6.out⟩
                        case measure => simp [intOf]; omega
                    | false =>
                      have HFIT := hid (show fits x.msg s = false from by simp [fits, hsf, hxf, bst, hal])
                      cases go with
                      | true =>
                        have hh := MISS.out (.inl HGO.out)
                        have HH := hid hh
                        clear hh
                        have hsk := HSK.out w6 HK6.out
                        rw [hsf, hxf] at hsk
                        obtain ⟨q0, q1, q2, q3, q4, _⟩ := hsk
                        have hgW := block_lt_of_cell q0
                        have HROW := hid (ownsRow_kept HRO.out HK6.out (by simp))
                        go_wp2_with (at_builtin; refine wpList_append_in _ rfl (.tmp 102) (.tmp 107) 33 rfl w1.heap.size 41 i41 _ 5 40 Try.underlying33 I41.out hz41 hs41 hy41 rfl (by decide) _ _ _ rfl (HROW.out.alloc _) Any _ 1 _ rfl (block_in (blk_new _ _) rfl) (by simp [Value.oneCell']) (by have := HRL.out; unfold maxLen; omega) (by have := HRL.out; omega) (by have := HKQ.out.size; have := (HK6.out).size; simp; omega) ?_)
                        intro v9 w9 ho9 hg9 _
                        have HF := hid (show w9.ownsRow w1.heap.size 41 5 v9 ((l.take (j + 1)).eraseP (fits x.msg)).length (msgsV ((l.take (j + 1)).eraseP (fits x.msg))) ∧ Kept [] w1 w9 from by
                          refine ⟨?_, kept_in ((HKQ.out.tr HK6.out).alloc _) (HROW.out.alloc _) hg9⟩
                          rw [HH.out.1, List.length_append, msgsV_append]
                          simpa [msgsV, Msg.cells, HSV.out, hsf] using ho9)
                        clear ho9 hg9
                        go_wp2
                        go_roundw
                        case rel => exact ⟨j + 1, by omega, by go_num, by rw [HH.out.2, HGO.out], HF.out.1, HF.out.2⟩
                        case measure => simp [intOf]; omega
                      | false =>
                        have hh := MISS.out (.inr HFIT.out)
                        have HH := hid hh
                        clear hh
                        have hsk := HSK.out w6 HK6.out
                        rw [hsf, hxf] at hsk
                        obtain ⟨q0, q1, q2, q3, q4, _⟩ := hsk
                        have hgW := block_lt_of_cell q0
                        have HROW := hid (ownsRow_kept HRO.out HK6.out (by simp))
                        go_wp2_with (at_builtin; refine wpList_append_in _ rfl (.tmp 102) (.tmp 107) 33 rfl w1.heap.size 41 i41 _ 5 40 Try.underlying33 I41.out hz41 hs41 hy41 rfl (by decide) _ _ _ rfl (HROW.out.alloc _) Any _ 1 _ rfl (block_in (blk_new _ _) rfl) (by simp [Value.oneCell']) (by have := HRL.out; unfold maxLen; omega) (by have := HRL.out; omega) (by have := HKQ.out.size; have := (HK6.out).size; simp; omega) ?_)
                        intro v9 w9 ho9 hg9 _
                        have HF := hid (show w9.ownsRow w1.heap.size 41 5 v9 ((l.take (j + 1)).eraseP (fits x.msg)).length (msgsV ((l.take (j + 1)).eraseP (fits x.msg))) ∧ Kept [] w1 w9 from by
                          refine ⟨?_, kept_in ((HKQ.out.tr HK6.out).alloc _) (HROW.out.alloc _) hg9⟩
                          rw [HH.out.1, List.length_append, msgsV_append]
                          simpa [msgsV, Msg.cells, HSV.out, hsf] using ho9)
                        clear ho9 hg9
                        go_wp2
                        go_roundw
                        case rel => exact ⟨j + 1, by omega, by go_num, by rw [HH.out.2, HGO.out], HF.out.1, HF.out.2⟩
                        case measure => simp [intOf]; omega
                  · have bst : (s.stream == x.msg.stream) = false := by simpa using hst
                    have HFIT := hid (show fits x.msg s = false from by simp [fits, hsf, hxf, bst])
                    clear hst
                    have HSK' := hid HSK.out
                    rw [hsf, hxf] at HSK'
                    obtain ⟨p0, p1, p2, p3, p4, p5, p6, p7, p8, p9⟩ := HSK'.out wr (Kept.refl [] _)
                    go_wp2_with fail
                    go_quiet (fail)
                    cases go with
                    | true =>
                      have hh := MISS.out (.inl HGO.out)
                      have HH := hid hh
                      clear hh
                      go_wp2_with (at_builtin; refine wpList_append_in _ rfl (.tmp 102) (.tmp 107) 33 rfl w1.heap.size 41 i41 _ 5 40 Try.underlying33 I41.out hz41 hs41 hy41 rfl (by decide) _ _ _ rfl (World.ownsRow.alloc (ownsRow_kept HRO.out ((Kept.refl [] wr).drewN _) (by simp)) _) Any _ 1 _ rfl (block_in (blk_new _ _) rfl) (by simp [Value.oneCell']) (by have := HRL.out; unfold maxLen; omega) (by have := HRL.out; omega) (by have := HKQ.out.size; simp; omega) ?_)
                      intro v9 w9 ho9 hg9 _
                      have HF := hid (show w9.ownsRow w1.heap.size 41 5 v9 ((l.take (j + 1)).eraseP (fits x.msg)).length (msgsV ((l.take (j + 1)).eraseP (fits x.msg))) ∧ Kept [] w1 w9 from by
                        refine ⟨?_, kept_in ((HKQ.out.tr ((Kept.refl [] wr).drewN _)).alloc _) (World.ownsRow.alloc (ownsRow_kept HRO.out ((Kept.refl [] wr).drewN _) (by simp)) _) hg9⟩
                        rw [HH.out.1, List.length_append, msgsV_append]
                        simpa [msgsV, Msg.cells, HSV.out, hsf] using ho9)
                      clear ho9 hg9
                      go_wp2
                      go_roundw
                      case rel => exact ⟨j + 1, by omega, by go_num, by rw [HH.out.2, HGO.out], HF.out.1, HF.out.2⟩
                      case measure => simp [intOf]; omega
                    | false =>
                      have hh := MISS.out (.inr HFIT.out)
                      have HH := hid hh
                      clear hh
                      go_wp2_with (at_builtin; refine wpList_append_in _ rfl (.tmp 102) (.tmp 107) 33 rfl w1.heap.size 41 i41 _ 5 40 Try.underlying33 I41.out hz41 hs41 hy41 rfl (by decide) _ _ _ rfl (World.ownsRow.alloc (ownsRow_kept HRO.out ((Kept.refl [] wr).drewN _) (by simp)) _) Any _ 1 _ rfl (block_in (blk_new _ _) rfl) (by simp [Value.oneCell']) (by have := HRL.out; unfold maxLen; omega) (by have := HRL.out; omega) (by have := HKQ.out.size; simp; omega) ?_)
                      intro v9 w9 ho9 hg9 _
                      have HF := hid (show w9.ownsRow w1.heap.size 41 5 v9 ((l.take (j + 1)).eraseP (fits x.msg)).length (msgsV ((l.take (j + 1)).eraseP (fits x.msg))) ∧ Kept [] w1 w9 from by
                        refine ⟨?_, kept_in ((HKQ.out.tr ((Kept.refl [] wr).drewN _)).alloc _) (World.ownsRow.alloc (ownsRow_kept HRO.out ((Kept.refl [] wr).drewN _) (by simp)) _) hg9⟩
                        rw [HH.out.1, List.length_append, msgsV_append]
                        simpa [msgsV, Msg.cells, HSV.out, hsf] using ho9)
                      clear ho9 hg9
                      go_wp2
                      go_roundw
                      case rel => exact ⟨j + 1, by omega, by go_num, by rw [HH.out.2, HGO.out], HF.out.1, HF.out.2⟩
                      case measure => simp [intOf]; omega
                | false =>
                  have HFIT := hid (show fits x.msg s = false from by simp [fits, hsf, hxf])
                  have HSK' := hid HSK.out
                  rw [hsf, hxf] at HSK'
                  obtain ⟨p0, p1, p2, p3, p4, p5, p6, p7, p8, p9⟩ := HSK'.out wr (Kept.refl [] _)
                  go_wp2_with fail
                  go_quiet (fail)
                  cases go with
                  | true =>
                    have hh := MISS.out (.inl HGO.out)
                    have HH := hid hh
                    clear hh
                    go_wp2_with (at_builtin; refine wpList_append_in _ rfl (.tmp 102) (.tmp 107) 33 rfl w1.heap.size 41 i41 _ 5 40 Try.underlying33 I41.out hz41 hs41 hy41 rfl (by decide) _ _ _ rfl (World.ownsRow.alloc (ownsRow_kept HRO.out ((Kept.refl [] wr).drewN _) (by simp)) _) Any _ 1 _ rfl (block_in (blk_new _ _) rfl) (by simp [Value.oneCell']) (by have := HRL.out; unfold maxLen; omega) (by have := HRL.out; omega) (by have := HKQ.out.size; simp; omega) ?_)
                    intro v9 w9 ho9 hg9 _
                    have HF := hid (show w9.ownsRow w1.heap.size 41 5 v9 ((l.take (j + 1)).eraseP (fits x.msg)).length (msgsV ((l.take (j + 1)).eraseP (fits x.msg))) ∧ Kept [] w1 w9 from by
                      refine ⟨?_, kept_in ((HKQ.out.tr ((Kept.refl [] wr).drewN _)).alloc _) (World.ownsRow.alloc (ownsRow_kept HRO.out ((Kept.refl [] wr).drewN _) (by simp)) _) hg9⟩
                      rw [HH.out.1, List.length_append, msgsV_append]
                      simpa [msgsV, Msg.cells, HSV.out, hsf] using ho9)
                    clear ho9 hg9
                    go_wp2
                    go_roundw
                    case rel => exact ⟨j + 1, by omega, by go_num, by rw [HH.out.2, HGO.out], HF.out.1, HF.out.2⟩
                    case measure => simp [intOf]; omega
                  | false =>
                    have hh := MISS.out (.inr HFIT.out)
                    have HH := hid hh
                    clear hh
                    go_wp2_with (at_builtin; refine wpList_append_in _ rfl (.tmp 102) (.tmp 107) 33 rfl w1.heap.size 41 i41 _ 5 40 Try.underlying33 I41.out hz41 hs41 hy41 rfl (by decide) _ _ _ rfl (World.ownsRow.alloc (ownsRow_kept HRO.out ((Kept.refl [] wr).drewN _) (by simp)) _) Any _ 1 _ rfl (block_in (blk_new _ _) rfl) (by simp [Value.oneCell']) (by have := HRL.out; unfold maxLen; omega) (by have := HRL.out; omega) (by have := HKQ.out.size; simp; omega) ?_)
                    intro v9 w9 ho9 hg9 _
                    have HF := hid (show w9.ownsRow w1.heap.size 41 5 v9 ((l.take (j + 1)).eraseP (fits x.msg)).length (msgsV ((l.take (j + 1)).eraseP (fits x.msg))) ∧ Kept [] w1 w9 from by
                      refine ⟨?_, kept_in ((HKQ.out.tr ((Kept.refl [] wr).drewN _)).alloc _) (World.ownsRow.alloc (ownsRow_kept HRO.out ((Kept.refl [] wr).drewN _) (by simp)) _) hg9⟩
                      rw [HH.out.1, List.length_append, msgsV_append]
                      simpa [msgsV, Msg.cells, HSV.out, hsf] using ho9)
                    clear ho9 hg9
                    go_wp2
                    go_roundw
                    case rel => exact ⟨j + 1, by omega, by go_num, by rw [HH.out.2, HGO.out], HF.out.1, HF.out.2⟩
                    case measure => simp [intOf]; omega
              | false =>
                cases hxf : x.msg.free with
                | true =>
                  have HFIT := hid (show fits x.msg s = false from by simp [fits, hsf, hxf])
                  have HSK' := hid HSK.out
                  rw [hsf, hxf] at HSK'
                  obtain ⟨p0, p1, p2, p3, p4, p5, p6, p7, p8, p9⟩ := HSK'.out wr (Kept.refl [] _)
                  go_wp2_with fail
                  go_quiet (fail)
                  cases go with
                  | true =>
                    have hh := MISS.out (.inl HGO.out)
                    have HH := hid hh
                    clear hh
                    go_wp2_with (at_builtin; refine wpList_append_in _ rfl (.tmp 102) (.tmp 107) 33 rfl w1.heap.size 41 i41 _ 5 40 Try.underlying33 I41.out hz41 hs41 hy41 rfl (by decide) _ _ _ rfl (World.ownsRow.alloc (ownsRow_kept HRO.out ((Kept.refl [] wr).drewN _) (by simp)) _) Any _ 1 _ rfl (block_in (blk_new _ _) rfl) (by simp [Value.oneCell']) (by have := HRL.out; unfold maxLen; omega) (by have := HRL.out; omega) (by have := HKQ.out.size; simp; omega) ?_)
                    intro v9 w9 ho9 hg9 _
                    have HF := hid (show w9.ownsRow w1.heap.size 41 5 v9 ((l.take (j + 1)).eraseP (fits x.msg)).length (msgsV ((l.take (j + 1)).eraseP (fits x.msg))) ∧ Kept [] w1 w9 from by
                      refine ⟨?_, kept_in ((HKQ.out.tr ((Kept.refl [] wr).drewN _)).alloc _) (World.ownsRow.alloc (ownsRow_kept HRO.out ((Kept.refl [] wr).drewN _) (by simp)) _) hg9⟩
                      rw [HH.out.1, List.length_append, msgsV_append]
                      simpa [msgsV, Msg.cells, HSV.out, hsf] using ho9)
                    clear ho9 hg9
                    go_wp2
                    go_roundw
                    case rel => exact ⟨j + 1, by omega, by go_num, by rw [HH.out.2, HGO.out], HF.out.1, HF.out.2⟩
                    case measure => simp [intOf]; omega
                  | false =>
                    have hh := MISS.out (.inr HFIT.out)
                    have HH := hid hh
                    clear hh
                    go_wp2_with (at_builtin; refine wpList_append_in _ rfl (.tmp 102) (.tmp 107) 33 rfl w1.heap.size 41 i41 _ 5 40 Try.underlying33 I41.out hz41 hs41 hy41 rfl (by decide) _ _ _ rfl (World.ownsRow.alloc (ownsRow_kept HRO.out ((Kept.refl [] wr).drewN _) (by simp)) _) Any _ 1 _ rfl (block_in (blk_new _ _) rfl) (by simp [Value.oneCell']) (by have := HRL.out; unfold maxLen; omega) (by have := HRL.out; omega) (by have := HKQ.out.size; simp; omega) ?_)
                    intro v9 w9 ho9 hg9 _
                    have HF := hid (show w9.ownsRow w1.heap.size 41 5 v9 ((l.take (j + 1)).eraseP (fits x.msg)).length (msgsV ((l.take (j + 1)).eraseP (fits x.msg))) ∧ Kept [] w1 w9 from by
                      refine ⟨?_, kept_in ((HKQ.out.tr ((Kept.refl [] wr).drewN _)).alloc _) (World.ownsRow.alloc (ownsRow_kept HRO.out ((Kept.refl [] wr).drewN _) (by simp)) _) hg9⟩
                      rw [HH.out.1, List.length_append, msgsV_append]
                      simpa [msgsV, Msg.cells, HSV.out, hsf] using ho9)
                    clear ho9 hg9
                    go_wp2
                    go_roundw
                    case rel => exact ⟨j + 1, by omega, by go_num, by rw [HH.out.2, HGO.out], HF.out.1, HF.out.2⟩
                    case measure => simp [intOf]; omega
                | false =>
                  by_cases hst : s.stream = x.msg.stream
                  · have bst : (s.stream == x.msg.stream) = true := by simpa using hst
                    have HFIT := hid (show fits x.msg s = true from by simp [fits, hsf, hxf, bst])
                    clear hst
                    have HSK' := hid HSK.out
                    rw [hsf, hxf] at HSK'
                    obtain ⟨p0, p1, p2, p3, p4, p5, p6, p7, p8, p9⟩ := HSK'.out wr (Kept.refl [] _)
                    go_wp2_with fail
                    go_quiet (fail)
                    cases go with
                    | true =>
                      have hh := MISS.out (.inl HGO.out)
                      have HH := hid hh
                      clear hh
                      go_wp2_with (at_builtin; refine wpList_append_in _ rfl (.tmp 102) (.tmp 107) 33 rfl w1.heap.size 41 i41 _ 5 40 Try.underlying33 I41.out hz41 hs41 hy41 rfl (by decide) _ _ _ rfl (World.ownsRow.alloc (ownsRow_kept HRO.out ((Kept.refl [] wr).drewN _) (by simp)) _) Any _ 1 _ rfl (block_in (blk_new _ _) rfl) (by simp [Value.oneCell']) (by have := HRL.out; unfold maxLen; omega) (by have := HRL.out; omega) (by have := HKQ.out.size; simp; omega) ?_)
                      intro v9 w9 ho9 hg9 _
                      have HF := hid (show w9.ownsRow w1.heap.size 41 5 v9 ((l.take (j + 1)).eraseP (fits x.msg)).length (msgsV ((l.take (j + 1)).eraseP (fits x.msg))) ∧ Kept [] w1 w9 from by
                        refine ⟨?_, kept_in ((HKQ.out.tr ((Kept.refl [] wr).drewN _)).alloc _) (World.ownsRow.alloc (ownsRow_kept HRO.out ((Kept.refl [] wr).drewN _) (by simp)) _) hg9⟩
                        rw [HH.out.1, List.length_append, msgsV_append]
                        simpa [msgsV, Msg.cells, HSV.out, hsf] using ho9)
                      clear ho9 hg9
                      go_wp2
                      go_roundw
                      case rel => exact ⟨j + 1, by omega, by go_num, by rw [HH.out.2, HGO.out], HF.out.1, HF.out.2⟩
                      case measure => simp [intOf]; omega
                    | false =>
                      have hh := HIT.out HGO.out HFIT.out
                      have HH := hid hh
                      clear hh
                      go_wp2_with fail
                      go_roundw
                      case rel => exact ⟨j + 1, by omega, by go_num, by rw [HH.out.2], by rw [HH.out.1]; exact ownsRow_kept HRO.out ((Kept.refl [] wr).drewN _) (by simp), HKQ.out.tr ((Kept.refl [] wr).drewN _)⟩
                      case measure => simp [intOf]; omega
                  · have bst : (s.stream == x.msg.stream) = false := by simpa using hst
                    have HFIT := hid (show fits x.msg s = false from by simp [fits, hsf, hxf, bst])
                    clear hst
                    have HSK' := hid HSK.out
                    rw [hsf, hxf] at HSK'
                    obtain ⟨p0, p1, p2, p3, p4, p5, p6, p7, p8, p9⟩ := HSK'.out wr (Kept.refl [] _)
                    go_wp2_with fail
                    go_quiet (fail)
                    cases go with
                    | true =>
                      have hh := MISS.out (.inl HGO.out)
                      have HH := hid hh
                      clear hh
                      go_wp2_with (at_builtin; refine wpList_append_in _ rfl (.tmp 102) (.tmp 107) 33 rfl w1.heap.size 41 i41 _ 5 40 Try.underlying33 I41.out hz41 hs41 hy41 rfl (by decide) _ _ _ rfl (World.ownsRow.alloc (ownsRow_kept HRO.out ((Kept.refl [] wr).drewN _) (by simp)) _) Any _ 1 _ rfl (block_in (blk_new _ _) rfl) (by simp [Value.oneCell']) (by have := HRL.out; unfold maxLen; omega) (by have := HRL.out; omega) (by have := HKQ.out.size; simp; omega) ?_)
                      intro v9 w9 ho9 hg9 _
                      have HF := hid (show w9.ownsRow w1.heap.size 41 5 v9 ((l.take (j + 1)).eraseP (fits x.msg)).length (msgsV ((l.take (j + 1)).eraseP (fits x.msg))) ∧ Kept [] w1 w9 from by
                        refine ⟨?_, kept_in ((HKQ.out.tr ((Kept.refl [] wr).drewN _)).alloc _) (World.ownsRow.alloc (ownsRow_kept HRO.out ((Kept.refl [] wr).drewN _) (by simp)) _) hg9⟩
                        rw [HH.out.1, List.length_append, msgsV_append]
                        simpa [msgsV, Msg.cells, HSV.out, hsf] using ho9)
                      clear ho9 hg9
                      go_wp2
                      go_roundw
                      case rel => exact ⟨j + 1, by omega, by go_num, by rw [HH.out.2, HGO.out], HF.out.1, HF.out.2⟩
                      case measure => simp [intOf]; omega
                    | false =>
                      have hh := MISS.out (.inr HFIT.out)
                      have HH := hid hh
                      clear hh
                      go_wp2_with (at_builtin; refine wpList_append_in _ rfl (.tmp 102) (.tmp 107) 33 rfl w1.heap.size 41 i41 _ 5 40 Try.underlying33 I41.out hz41 hs41 hy41 rfl (by decide) _ _ _ rfl (World.ownsRow.alloc (ownsRow_kept HRO.out ((Kept.refl [] wr).drewN _) (by simp)) _) Any _ 1 _ rfl (block_in (blk_new _ _) rfl) (by simp [Value.oneCell']) (by have := HRL.out; unfold maxLen; omega) (by have := HRL.out; omega) (by have := HKQ.out.size; simp; omega) ?_)
                      intro v9 w9 ho9 hg9 _
                      have HF := hid (show w9.ownsRow w1.heap.size 41 5 v9 ((l.take (j + 1)).eraseP (fits x.msg)).length (msgsV ((l.take (j + 1)).eraseP (fits x.msg))) ∧ Kept [] w1 w9 from by
                        refine ⟨?_, kept_in ((HKQ.out.tr ((Kept.refl [] wr).drewN _)).alloc _) (World.ownsRow.alloc (ownsRow_kept HRO.out ((Kept.refl [] wr).drewN _) (by simp)) _) hg9⟩
                        rw [HH.out.1, List.length_append, msgsV_append]
                        simpa [msgsV, Msg.cells, HSV.out, hsf] using ho9)
                      clear ho9 hg9
                      go_wp2
                      go_roundw
                      case rel => exact ⟨j + 1, by omega, by go_num, by rw [HH.out.2, HGO.out], HF.out.1, HF.out.2⟩
                      case measure => simp [intOf]; omega
            · obtain rfl : j = l.length := by omega
              have e : l.take l.length = l := List.take_length
              have HO2 := hid (show wr.ownsRow w.heap.size 41 5 _ (l.eraseP (fits x.msg)).length (msgsV (l.eraseP (fits x.msg))) from by
                have h := HRO.out
                rw [e] at h
                exact ownsRow_low h HK1.out.size)
              have HK2 := hid (HK1.out.tr HKQ.out)
              rw [e]
              clear e hgo
              go_wp2
              go_roundw
              case rel => exact ⟨i + 1, _, by omega, by go_num, HS.out.symm, HO2.out, HK2.out⟩
              case measure => simp [intOf]; omega
      · have b2 : (x.is == 2) = false := by simpa using h2
        have b2' : (x.is != 2) = true := by simpa using h2
        have hst := HST.out
        rw [leftStep, if_neg (by simp [isGot, b2]), ← HE.out] at hst
        have HS := hid hst.symm
        clear hst h2
        go_wp2_with fail
        go_roundw
        case rel => exact ⟨i + 1, l, by omega, by go_num, HS.out, HO.out, HK.out⟩
        case measure => simp [intOf]; omega
    · obtain rfl : i = L.length := by omega
      have e : L.take L.length = L := List.take_length
      have hO := HO.out
      have hE := HE.out
      rw [e] at hE
      have HZ := hid (HP.out (.slice lo l.length lc) wr (by rw [show leftR L k ko = l from hE.symm]; exact hO) HK.out)
      clear hO hE e
      go_wp2
      exact HZ.out

end Go.Proofs.Ytepadejkeokbcaa
