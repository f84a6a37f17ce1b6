/-
  The reference's One: a mark, by those ahead.
-/
import Derived.Test.YtepadejkeokbcaaRefL
namespace Go.Proofs.Ytepadejkeokbcaa
open Go.RowKit Go.Maps

def oneScan (m : Msg) : List Msg → Int
  | [] => 16
  | s :: r => if s.free ≠ m.free ∨ s.stream ≠ m.stream then oneScan m r else if s.alike m = true then 0 else if m.free = false then 4 else oneScan m r
theorem oneScan_step (m : Msg) {l : List Msg} {j : Nat} (h : j < l.length) : oneScan m (l.drop j) = if l[j].free ≠ m.free ∨ l[j].stream ≠ m.stream then oneScan m (l.drop (j + 1)) else if l[j].alike m = true then 0 else if m.free = false then 4 else oneScan m (l.drop (j + 1)) := by
  rw [List.drop_eq_getElem_cons h, oneScan]

def oneI (L : List Mark) (m : Mark) (is : Int) : Int :=
  if is = 1 then (if L.any (isShut m.key) = true ∨ L.any (isEnd m.key) = true then 9 else 0)
  else if is = 2 then oneScan m.msg (leftR L m.key.other m.key)
  else if is = 3 then (if m.notice < 1 ∨ 5 < m.notice then 2 else if L.any (isEnd m.key) = true ∨ (L.any (isCame m.key) = true ∧ m.notice = 1) then 17 else if m.notice = 2 ∧ L.any (isCame m.key) = false then 9 else 0)
  else if is = 4 then (if L.any (isShut m.key) = true then 17 else if L.any (isEnd m.key) = true then 9 else 0)
  else 11
def oneR (L : List Mark) (m : Mark) : Int := if m.host ≠ 0 ∧ m.host ≠ 1 then 2 else oneI L m m.is
theorem oneR_in {L : List Mark} {m : Mark} (h : ¬ (m.host ≠ 0 ∧ m.host ≠ 1)) : oneR L m = oneI L m m.is := if_neg h

def Oned (w : World) (L : List Mark) (m : Mark) (e : Ending) (w' : World) : Prop := e = .returned (.int .i64 (oneR L m)) ∧ Kept [] w w'

set_option maxRecDepth 100000 in
set_option maxHeartbeats 16000000 in
theorem One_any {w : World} {lv : Value} {L : List Mark} {m : Mark} (hl : MarksIn w lv L) (hm : m.here w) : Calls Try.prog 19 #[lv, m.val] w (Oned w L m) := by
  obtain ⟨ao, cap, rfl⟩ := hl.row.form
  obtain ⟨mo, mc, hmv⟩ := hm.msg.data.form
  have hval : m.val = .agg #[.int .i64 m.is, .int .i64 m.host, .int .u32 m.own, .int .u32 m.peer, .int .u16 m.msg.stream, .int .u16 m.msg.ssn, .int .u32 m.msg.ppid, .bool m.msg.free, .slice mo m.msg.data.length mc, .int .i64 m.notice] := by
    unfold Mark.val; rw [hmv]
  have HST := hid (show ∀ W, Kept [] w W → Calls Try.prog 22 #[.slice ao L.length cap, .agg #[.int .i64 m.is, .int .i64 m.host, .int .u32 m.own, .int .u32 m.peer, .int .u16 m.msg.stream, .int .u16 m.msg.ssn, .int .u32 m.msg.ppid, .bool m.msg.free, .slice mo m.msg.data.length mc, .int .i64 m.notice]] W (Stands W L m.key) from fun W hk => by
    have h := stands_any (hl.kept hk) (hm.kept hk)
    rwa [hval] at h)
  rw [hval]
  have HL := hid hl
  have HM := hid hm
  have HMV := hid hmv
  have hfew := hl.few
  have HA := hid ((Kept.refl [] w).alloc (.cells #[.int .i64 m.is, .int .i64 m.host, .int .u32 m.own, .int .u32 m.peer, .int .u16 m.msg.stream, .int .u16 m.msg.ssn, .int .u32 m.msg.ppid, .bool m.msg.free, .slice mo m.msg.data.length mc, .int .i64 m.notice] 44))
  have HB := hid (blk_new w (.cells #[.int .i64 m.is, .int .i64 m.host, .int .u32 m.own, .int .u32 m.peer, .int .u16 m.msg.stream, .int .u16 m.msg.ssn, .int .u32 m.msg.ppid, .bool m.msg.free, .slice mo m.msg.data.length mc, .int .i64 m.notice] 44))
  have HP := hid (show ∀ r w', oneR L m = r → Kept [] w w' → Oned w L m (.returned (.int .i64 r)) w' from fun r w' h hk => ⟨by rw [h], hk⟩)
  generalize Oned w L m = Post at *
  clear hl hm hmv hval
  by_cases hh : m.host ≠ 0 ∧ m.host ≠ 1
  · have HN := hid (show oneR L m = 2 from if_pos hh)
    have h0 : (m.host != 0) = true := by simpa using hh.1
    have h1 : (m.host != 1) = true := by simpa using hh.2
    clear hh
    go_enter Try.func19, Try.ntmps19
    go_wp2_with fail
    exact HP.out _ _ HN.out HA.out
  · have HN := hid (oneR_in (L := L) hh)
    have H01 := hid (show 0 ≤ m.host ∧ m.host ≤ 1 by omega)
    have hgo : ((m.host != 0) = false) ∨ ((m.host != 0) = true ∧ (m.host != 1) = false) := by
      by_cases h0 : m.host = 0
      · exact .inl (by simpa using h0)
      · exact .inr ⟨by simpa using h0, by simp; omega⟩
    clear hh
    rcases hgo with h0 | ⟨h0, h1⟩
    all_goals
      go_enter Try.func19, Try.ntmps19
      go_wp2_with fail
      refine (HST.out _ HA.out).mono ?_
      rintro e w3 ⟨rfl, hk3⟩
      have HK3 := hid (HA.out.tr hk3)
      have hb3 := hk3.blk HB.out (by simp)
      have HB3 := hid hb3
      have m0 := blk_cell hb3 0
      have m1 := blk_cell hb3 1
      have m2 := blk_cell hb3 2
      have m3 := blk_cell hb3 3
      have m9 := blk_cell hb3 9
      simp only [List.getElem?_toArray, List.getElem?_cons_zero, List.getElem?_cons_succ] at m0 m1 m2 m3 m9
      clear hk3 hb3
      have HN' := HN.out
      unfold oneI at HN'
      generalize hE : L.any (isEnd m.key) = ended at *
      generalize hC : L.any (isCame m.key) = came at *
      generalize hS : L.any (isShut m.key) = shut at *
      clear hE hC hS
      generalize m.is = is at *
      by_cases e1 : is = 1
      · subst e1
        rw [if_pos rfl] at HN'
        cases shut with
        | true =>
          rw [if_pos (.inl rfl)] at HN'
          have HN := hid HN'
          clear HN'
          go_wp2_with fail
          exact HP.out _ _ HN.out HK3.out
        | false =>
          cases ended with
          | true =>
            rw [if_pos (.inr rfl)] at HN'
            have HN := hid HN'
            clear HN'
            go_wp2_with fail
            exact HP.out _ _ HN.out HK3.out
          | false =>
            rw [if_neg (by simp)] at HN'
            have HN := hid HN'
            clear HN'
            go_wp2_with fail
            exact HP.out _ _ HN.out HK3.out
      · by_cases e2 : is = 2
        · subst e2
          rw [if_neg e1, if_pos rfl] at HN'
          have HN := hid HN'
          have hw1 : IntKind.i64.wrap (1 - m.host) = 1 - m.host := IntWalk.i64_in _ (by have := H01.out; omega)
          have HLF := hid (show Calls Try.prog 14 #[.slice ao L.length cap, .int .i64 (1 - m.host), .int .u32 m.peer, .int .u32 m.own] w3 (MsgsOut w3 (leftR L m.key.other m.key)) from
            Left_any (k := m.key.other) (ko := m.key) (HL.out.kept HK3.out) (by
              have hw : wrap64 (1 - (1 - m.host)) = m.host := by
                rw [IntWalk.wrap64_in _ (by have := H01.out; omega)]
                omega
              show m.key = ⟨wrap64 (1 - (1 - m.host)), _, _⟩
              rw [hw]
              rfl))
          have HMEM := hid (show ∀ s ∈ leftR L m.key.other m.key, s.here w from fun s hs => by
            obtain ⟨x, hx, e⟩ := sentR_mem ((left_sub m.key _ _).subset hs)
            rw [← e]
            exact (HL.out.here x hx).msg)
          have hlen : (leftR L m.key.other m.key).length ≤ 1000 := by
            have h1 := (left_sub m.key L (sentR L m.key.other)).length_le
            have h2 := sentR_le L m.key.other
            unfold leftR
            omega
          have HLEN := hid hlen
          clear HN' e1 hlen
          generalize leftR L m.key.other m.key = l at *
          have hlen := HLEN.out
          go_wp2_with fail
          refine HLF.out.mono ?_
          rintro e w4 ⟨v4, rfl, ho4, hk4⟩
          obtain ⟨lo, lc, rfl⟩ := (SliceIn.owned ho4).form
          have HO4 := hid ho4
          have HK4 := hid (HK3.out.tr hk4)
          have HB4 := hid (hk4.blk HB3.out (by simp))
          have HAL := hid (show ∀ (s : Msg), s.here w → ∀ so sc, s.dv = .slice so s.data.length sc → ∀ W, Kept [] w W → Calls Try.prog 17 #[.agg #[.int .u16 s.stream, .int .u16 s.ssn, .int .u32 s.ppid, .bool s.free, .slice so s.data.length sc], .agg #[.int .u16 m.msg.stream, .int .u16 m.msg.ssn, .int .u32 m.msg.ppid, .bool m.msg.free, .slice mo m.msg.data.length mc]] W (Alikes W s m.msg) from
            fun s hs so sc e1 W hk => by
              have h := refalike_any (w := W) (hs.kept hk) (HM.out.msg.kept hk)
              unfold Msg.val at h
              rw [e1, HMV.out] at h
              exact h)
          clear ho4 hk4
          clear m0 m1 m2 m3 m9
          go_wp2_with fail
          go_loopw [9] (fun i wr => ∃ j : Nat, j ≤ l.length ∧ i = .int .i64 j ∧ oneScan m.msg (l.drop j) = oneScan m.msg l ∧ Kept [] w4 wr) (fun i _ => l.length - (intOf i).toNat)
          case atStart => exact ⟨0, Nat.zero_le _, rfl, rfl, Kept.refl [] _⟩
          case round =>
            obtain ⟨j, hj, rfl, hsc, hkr⟩ := hrel
            have HSC := hid hsc
            have HKR := hid hkr
            have HBr := hid (hkr.blk HB4.out (by simp))
            have m4 := blk_cell HBr.out 4
            have m5 := blk_cell HBr.out 5
            have m6 := blk_cell HBr.out 6
            have m7 := blk_cell HBr.out 7
            have m8 := blk_cell HBr.out 8
            have hmb := lt_of_block HBr.out
            simp only [List.getElem?_toArray, List.getElem?_cons_zero, List.getElem?_cons_succ] at m4 m5 m6 m7 m8
            have HOr := hid (ownsRow_kept HO4.out hkr (by simp))
            clear hsc hkr
            by_cases hlt : j < l.length
            · obtain ⟨g, rfl, hg, hlc⟩ := row_cells HOr.out hlt
              have HSH := hid (HMEM.out _ (List.getElem_mem hlt))
              have hst := oneScan_step m.msg hlt
              rw [HSC.out] at hst
              have HST2 := hid hst
              have hwj : IntKind.i64.wrap ((j : Int) + 1) = (j : Int) + 1 := IntWalk.i64_in _ (by omega)
              clear hst
              generalize l[j] = s at *
              obtain ⟨sdo, sdc, hsv⟩ := HSH.out.data.form
              have HSV := hid hsv
              have e0 := hlc 0 (by omega)
              have e1 := hlc 1 (by omega)
              have e2 := hlc 2 (by omega)
              have e3 := hlc 3 (by omega)
              have e4 := hlc 4 (by omega)
              simp only [Msg.cells, hsv, List.getElem?_cons_zero, List.getElem?_cons_succ, Nat.add_zero] at e0 e1 e2 e3 e4
              have HSK := hid (show ∀ v, Kept [] wr v → v.cell? ⟨g, j * 5, none⟩ = some (.int .u16 s.stream) ∧ v.cell? ⟨g, j * 5 + 1, none⟩ = some (.int .u16 s.ssn) ∧ v.cell? ⟨g, j * 5 + 2, none⟩ = some (.int .u32 s.ppid) ∧ v.cell? ⟨g, j * 5 + 3, none⟩ = some (.bool s.free) ∧ v.cell? ⟨g, j * 5 + 4, none⟩ = some (.slice sdo s.data.length sdc) ∧ v.cell? ⟨w.heap.size, 4, none⟩ = some (.int .u16 m.msg.stream) ∧ v.cell? ⟨w.heap.size, 5, none⟩ = some (.int .u16 m.msg.ssn) ∧ v.cell? ⟨w.heap.size, 6, none⟩ = some (.int .u32 m.msg.ppid) ∧ v.cell? ⟨w.heap.size, 7, none⟩ = some (.bool m.msg.free) ∧ v.cell? ⟨w.heap.size, 8, none⟩ = some (.slice mo m.msg.data.length mc) from fun v hk =>
                ⟨hk.cell e0 (by simp), hk.cell e1 (by simp), hk.cell e2 (by simp), hk.cell e3 (by simp), hk.cell e4 (by simp), hk.cell m4 (by simp), hk.cell m5 (by simp), hk.cell m6 (by simp), hk.cell m7 (by simp), hk.cell m8 (by simp)⟩)
              clear hlc hsv e0 e1 e2 e3 e4 m4 m5 m6 m7 m8
              have HKW := hid (HK4.out.tr HKR.out)
              have HSTo := HST2.out
              cases hsf : s.free with
              | true =>
                cases hmf : m.msg.free with
                | true =>
                  have HSK' := hid HSK.out
                  rw [hsf, hmf] at HSK'
                  by_cases hst : s.stream = m.msg.stream
                  · rw [if_neg (by simp [hsf, hmf, hst])] at HSTo
                    have bst : (s.stream != m.msg.stream) = false := by simpa using hst
                    clear hst
                    obtain ⟨p0, p1, p2, p3, p4, p5, p6, p7, p8, p9⟩ := HSK'.out wr (Kept.refl [] _)
                    have HAL' := hid (HAL.out s HSH.out sdo sdc HSV.out)
                    rw [hsf, hmf] at HAL'
                    go_wp2_with fail
                    go_quiet (fail)
                    go_wp2_with fail
                    clear p0 p1 p2 p3 p4 p5 p6 p7 p8 p9
                    go_region_held3 (fun v => v.cell? ⟨g, j * 5, none⟩ = some (.int .u16 s.stream) ∧ v.cell? ⟨g, j * 5 + 1, none⟩ = some (.int .u16 s.ssn) ∧ v.cell? ⟨g, j * 5 + 2, none⟩ = some (.int .u32 s.ppid) ∧ v.cell? ⟨g, j * 5 + 3, none⟩ = some (.bool true) ∧ v.cell? ⟨g, j * 5 + 4, none⟩ = some (.slice sdo s.data.length sdc) ∧ v.cell? ⟨w.heap.size, 4, none⟩ = some (.int .u16 m.msg.stream) ∧ v.cell? ⟨w.heap.size, 5, none⟩ = some (.int .u16 m.msg.ssn) ∧ v.cell? ⟨w.heap.size, 6, none⟩ = some (.int .u32 m.msg.ppid) ∧ v.cell? ⟨w.heap.size, 7, none⟩ = some (.bool true) ∧ v.cell? ⟨w.heap.size, 8, none⟩ = some (.slice mo m.msg.data.length mc)) (first | (exact HSK'.out _ (((Kept.refl [] _).drewN _).drew)) | (exact HSK'.out _ HK6.out) | assumption)
                      (first | (go_at_call 17; refine (HAL'.out _ (HKW.out.tr (((Kept.refl [] wr).drewN _).drew))).mono ?_; rintro e w6 ⟨rfl, hk6⟩; have HK6 := hid ((((Kept.refl [] wr).drewN _).drew).tr hk6); clear hk6))
                    cases hal : s.alike m.msg with
                    | true =>
                      rw [if_pos hal] at HSTo
                      have HNZ := hid (show oneR L m = 0 from by rw [HN.out]; exact HSTo)
                      have HKZ := hid (HKW.out.tr HK6.out)
                      clear HSTo
                      go_wp2_with fail
                      exact HP.out _ _ HNZ.out HKZ.out
                    | false =>
                      rw [if_neg (by simp [hal])] at HSTo
                      rw [if_neg (by simp [hmf])] at HSTo
                      have HNX := hid HSTo.symm
                      have HKX := hid (HKR.out.tr HK6.out)
                      obtain ⟨_, _, _, _, _, _, _, _, p8, _⟩ := HSK'.out w6 HK6.out
                      have hmb6 := block_lt_of_cell p8
                      clear HSTo
                      go_wp2_with fail
                      go_roundw
                      case rel => exact ⟨j + 1, by omega, by go_num, HNX.out, HKX.out⟩
                      case measure => simp [intOf]; omega
                  · rw [if_pos (.inr hst)] at HSTo
                    have bst : (s.stream != m.msg.stream) = true := by simpa using hst
                    clear hst
                    have HNX := hid HSTo.symm
                    clear HSTo
                    obtain ⟨p0, p1, p2, p3, p4, p5, p6, p7, p8, p9⟩ := HSK'.out wr (Kept.refl [] _)
                    go_wp2_with fail
                    go_quiet (fail)
                    go_wp2
                    go_roundw
                    case rel => exact ⟨j + 1, by omega, by go_num, HNX.out, HKR.out.drewN _⟩
                    case measure => simp [intOf]; omega
                | false =>
                  have HSK' := hid HSK.out
                  rw [hsf, hmf] at HSK'
                  rw [if_pos (.inl (by simp [hsf, hmf]))] at HSTo
                  have HNX := hid HSTo.symm
                  clear HSTo
                  obtain ⟨p0, p1, p2, p3, p4, p5, p6, p7, p8, p9⟩ := HSK'.out wr (Kept.refl [] _)
                  go_wp2_with fail
                  go_quiet (fail)
                  go_wp2
                  go_roundw
                  case rel => exact ⟨j + 1, by omega, by go_num, HNX.out, HKR.out.drewN _⟩
                  case measure => simp [intOf]; omega
              | false =>
                cases hmf : m.msg.free with
                | true =>
                  have HSK' := hid HSK.out
                  rw [hsf, hmf] at HSK'
                  rw [if_pos (.inl (by simp [hsf, hmf]))] at HSTo
                  have HNX := hid HSTo.symm
                  clear HSTo
                  obtain ⟨p0, p1, p2, p3, p4, p5, p6, p7, p8, p9⟩ := HSK'.out wr (Kept.refl [] _)
                  go_wp2_with fail
                  go_quiet (fail)
                  go_wp2
                  go_roundw
                  case rel => exact ⟨j + 1, by omega, by go_num, HNX.out, HKR.out.drewN _⟩
                  case measure => simp [intOf]; omega
                | false =>
                  have HSK' := hid HSK.out
                  rw [hsf, hmf] at HSK'
                  by_cases hst : s.stream = m.msg.stream
                  · rw [if_neg (by simp [hsf, hmf, hst])] at HSTo
                    have bst : (s.stream != m.msg.stream) = false := by simpa using hst
                    clear hst
                    obtain ⟨p0, p1, p2, p3, p4, p5, p6, p7, p8, p9⟩ := HSK'.out wr (Kept.refl [] _)
                    have HAL' := hid (HAL.out s HSH.out sdo sdc HSV.out)
                    rw [hsf, hmf] at HAL'
                    go_wp2_with fail
                    go_quiet (fail)
                    go_wp2_with fail
                    clear p0 p1 p2 p3 p4 p5 p6 p7 p8 p9
                    go_region_held3 (fun v => v.cell? ⟨g, j * 5, none⟩ = some (.int .u16 s.stream) ∧ v.cell? ⟨g, j * 5 + 1, none⟩ = some (.int .u16 s.ssn) ∧ v.cell? ⟨g, j * 5 + 2, none⟩ = some (.int .u32 s.ppid) ∧ v.cell? ⟨g, j * 5 + 3, none⟩ = some (.bool false) ∧ v.cell? ⟨g, j * 5 + 4, none⟩ = some (.slice sdo s.data.length sdc) ∧ v.cell? ⟨w.heap.size, 4, none⟩ = some (.int .u16 m.msg.stream) ∧ v.cell? ⟨w.heap.size, 5, none⟩ = some (.int .u16 m.msg.ssn) ∧ v.cell? ⟨w.heap.size, 6, none⟩ = some (.int .u32 m.msg.ppid) ∧ v.cell? ⟨w.heap.size, 7, none⟩ = some (.bool false) ∧ v.cell? ⟨w.heap.size, 8, none⟩ = some (.slice mo m.msg.data.length mc)) (first | (exact HSK'.out _ (((Kept.refl [] _).drewN _).drew)) | (exact HSK'.out _ HK6.out) | assumption)
                      (first | (go_at_call 17; refine (HAL'.out _ (HKW.out.tr (((Kept.refl [] wr).drewN _).drew))).mono ?_; rintro e w6 ⟨rfl, hk6⟩; have HK6 := hid ((((Kept.refl [] wr).drewN _).drew).tr hk6); clear hk6))
                    cases hal : s.alike m.msg with
                    | true =>
                      rw [if_pos hal] at HSTo
                      have HNZ := hid (show oneR L m = 0 from by rw [HN.out]; exact HSTo)
                      have HKZ := hid (HKW.out.tr HK6.out)
                      clear HSTo
                      go_wp2_with fail
                      exact HP.out _ _ HNZ.out HKZ.out
                    | false =>
                      rw [if_neg (by simp [hal])] at HSTo
                      rw [if_pos hmf] at HSTo
                      have HNZ := hid (show oneR L m = 4 from by rw [HN.out]; exact HSTo)
                      have HKZ := hid (HKW.out.tr HK6.out)
                      obtain ⟨_, _, _, _, _, _, _, _, p8, _⟩ := HSK'.out w6 HK6.out
                      have hmb6 := block_lt_of_cell p8
                      clear HSTo
                      go_wp2_with fail
                      exact HP.out _ _ HNZ.out HKZ.out
                  · rw [if_pos (.inr hst)] at HSTo
                    have bst : (s.stream != m.msg.stream) = true := by simpa using hst
                    clear hst
                    have HNX := hid HSTo.symm
                    clear HSTo
                    obtain ⟨p0, p1, p2, p3, p4, p5, p6, p7, p8, p9⟩ := HSK'.out wr (Kept.refl [] _)
                    go_wp2_with fail
                    go_quiet (fail)
                    go_wp2
                    go_roundw
                    case rel => exact ⟨j + 1, by omega, by go_num, HNX.out, HKR.out.drewN _⟩
                    case measure => simp [intOf]; omega
            · have HNZ := hid (show oneR L m = 16 from by rw [HN.out, ← HSC.out, List.drop_eq_nil_of_le (by omega)]; rfl)
              have HKZ := hid (HK4.out.tr HKR.out)
              go_wp2_with fail
              exact HP.out _ _ HNZ.out HKZ.out
        · by_cases e3 : is = 3
          · subst e3
            rw [if_neg e1, if_neg e2, if_pos rfl] at HN'
            clear e1 e2
            by_cases n1 : m.notice < 1
            · rw [if_pos (.inl n1)] at HN'
              have HN := hid HN'
              clear HN'
              go_wp2_with fail
              exact HP.out _ _ HN.out HK3.out
            · by_cases n5 : 5 < m.notice
              · rw [if_pos (.inr n5)] at HN'
                have HN := hid HN'
                clear HN'
                go_wp2_with fail
                exact HP.out _ _ HN.out HK3.out
              · rw [if_neg (by omega)] at HN'
                cases ended with
                | true =>
                  rw [if_pos (.inl rfl)] at HN'
                  have HN := hid HN'
                  clear HN'
                  go_wp2_with fail
                  exact HP.out _ _ HN.out HK3.out
                | false =>
                  by_cases n2 : m.notice = 1
                  · have b1 : (m.notice == 1) = true := by simpa using n2
                    have b2 : (m.notice == 2) = false := by rw [n2]; rfl
                    cases came with
                    | true =>
                      rw [if_pos (.inr ⟨rfl, n2⟩)] at HN'
                      have HN := hid HN'
                      clear HN' n2
                      go_wp2_with fail
                      exact HP.out _ _ HN.out HK3.out
                    | false =>
                      rw [if_neg (by simp), if_neg (by omega)] at HN'
                      have HN := hid HN'
                      clear HN' n2
                      go_wp2_with fail
                      exact HP.out _ _ HN.out HK3.out
                  · have b1 : (m.notice == 1) = false := by simpa using n2
                    by_cases n3 : m.notice = 2
                    · have b2 : (m.notice == 2) = true := by simpa using n3
                      cases came with
                      | true =>
                        rw [if_neg (by simp [n2]), if_neg (by simp)] at HN'
                        have HN := hid HN'
                        clear HN' n2 n3
                        go_wp2_with fail
                        exact HP.out _ _ HN.out HK3.out
                      | false =>
                        rw [if_neg (by simp), if_pos ⟨n3, rfl⟩] at HN'
                        have HN := hid HN'
                        clear HN' n2 n3
                        go_wp2_with fail
                        exact HP.out _ _ HN.out HK3.out
                    · have b2 : (m.notice == 2) = false := by simpa using n3
                      rw [if_neg (by simp [n2]), if_neg (by simp [n3])] at HN'
                      have HN := hid HN'
                      clear HN' n2 n3
                      cases came with
                      | true =>
                        go_wp2_with fail
                        exact HP.out _ _ HN.out HK3.out
                      | false =>
                        go_wp2_with fail
                        exact HP.out _ _ HN.out HK3.out
          · have c1 : (is == 1) = false := by simpa using e1
            have c2 : (is == 2) = false := by simpa using e2
            have c3 : (is == 3) = false := by simpa using e3
            by_cases e4 : is = 4
            · have c4 : (is == 4) = true := by simpa using e4
              rw [if_neg e1, if_neg e2, if_neg e3, if_pos e4] at HN'
              cases shut with
              | true =>
                rw [if_pos rfl] at HN'
                have HN := hid HN'
                clear HN' e1 e2 e3 e4
                go_wp2_with fail
                exact HP.out _ _ HN.out HK3.out
              | false =>
                rw [if_neg (by simp)] at HN'
                cases ended with
                | true =>
                  rw [if_pos rfl] at HN'
                  have HN := hid HN'
                  clear HN' e1 e2 e3 e4
                  go_wp2_with fail
                  exact HP.out _ _ HN.out HK3.out
                | false =>
                  rw [if_neg (by simp)] at HN'
                  have HN := hid HN'
                  clear HN' e1 e2 e3 e4
                  go_wp2_with fail
                  exact HP.out _ _ HN.out HK3.out
            · have c4 : (is == 4) = false := by simpa using e4
              rw [if_neg e1, if_neg e2, if_neg e3, if_neg e4] at HN'
              have HN := hid HN'
              clear HN' e1 e2 e3 e4
              go_wp2_with fail
              exact HP.out _ _ HN.out HK3.out

end Go.Proofs.Ytepadejkeokbcaa
