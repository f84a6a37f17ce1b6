/-
  (court).got: a message that a side was told.
-/
import Derived.Test.YtepadejkeokbcaaGotP
import Derived.Deep.RegionHeld3
namespace Go.Proofs.Ytepadejkeokbcaa
open Go.RowKit Go.Maps

def Got (w0 : World) (mb : Nat) (c : Key → Sd) (k : Key) (m : Msg) (e : Ending) (w' : World) : Prop :=
  e = .returned (.int .i64 (gotR c k m).1) ∧ ∃ O' F', Court w0 w' mb (got c k m) O' F'

theorem Key.other_ok {k : Key} (h : k.ok) (h01 : 0 ≤ k.host ∧ k.host ≤ 1) : k.other.ok := by
  obtain ⟨h1, h2, h3⟩ := h
  unfold Key.ok Key.other
  exact ⟨by dsimp only; omega, h3, h2⟩
theorem Key.other_ne {k : Key} : k.other ≠ k := by
  obtain ⟨h, o, p⟩ := k
  intro e
  simp only [Key.other, Key.mk.injEq] at e
  omega

theorem nextV_get (a : Sd) (x : Int) : (nextV a x).getD (.int .i64 0) = .int .i64 (a.next x) := by
  unfold nextV
  split
  · rename_i h; rw [h]; rfl
  · rfl

set_option maxRecDepth 100000 in
set_option maxHeartbeats 4000000 in
theorem got_any {w0 w : World} {mb : Nat} {c : Key → Sd} {O : Owner} {F : Key → Option Nat} {k : Key} {m : Msg} (hc : Court w0 w mb c O F) (hk : k.ok) (h01 : 0 ≤ k.host ∧ k.host ≤ 1) (hm : m.here w0) (hfew : ∀ k, (c k).sent.length ≤ 1000) (hfn : ∀ k x, (c k).next x ≤ 1000) :
    Calls Try.prog 23 #[.map (some mb), k.val, m.val] w (Got w0 mb c k m) := by
  have HM := hid hm
  obtain ⟨mo, mc, hmv⟩ := hm.data.form
  have HOK := hid (Key.other_ok hk h01)
  have HKO := hid hk
  have HFW := hid hfew
  have HFN := hid hfn
  have H01 := hid h01
  have HNE := hid (Key.other_ne (k := k))
  generalize hA : Obj.cells #[.int .i64 k.host, .int .u32 k.own, .int .u32 k.peer] 59 = A at *
  generalize hB : Obj.cells #[.int .u16 m.stream, .int .u16 m.ssn, .int .u32 m.ppid, .bool m.free, .slice mo m.data.length mc] 41 = B at *
  have hs1 : (w.alloc A).heap.size = w.heap.size + 1 := by show (w.heap.push A).size = _; simp
  have hk2 : Kept [] w ((w.alloc A).alloc B) := ((Kept.refl [] w).alloc _).alloc _
  have HC2 := hid ((hc.stay hk2).stay (Kept.refl [] _).drew)
  have hbA : ((w.alloc A).alloc B).drew.heap[w.heap.size]? = some A := blk_alloc _ (blk_new w A)
  have hbB : ((w.alloc A).alloc B).drew.heap[w.heap.size + 1]? = some B := by have := blk_new (w.alloc A) B; rw [hs1] at this; exact this
  have hsz : ((w.alloc A).alloc B).drew.heap.size = w.heap.size + 2 := by show ((w.heap.push A).push B).size = _; simp
  generalize hw2 : ((w.alloc A).alloc B).drew = w2 at *
  rw [← hA] at hbA
  rw [← hB] at hbB
  have ka0 := blk_cell hbA 0
  have ka1 := blk_cell hbA 1
  have ka2 := blk_cell hbA 2
  simp only [List.getElem?_toArray, List.getElem?_cons_zero, List.getElem?_cons_succ] at ka0 ka1 ka2
  have HBB := hid hbB
  have hmlt : mb < w.heap.size := hc.map.lt
  have HSZ := hid hsz
  have HW2 := hid hw2
  subst hA hB
  have HS2 := hid (show ∀ wa wb, Kept [mb] wa wb → (wa.cell? ⟨w.heap.size, 0, none⟩ = some (.int .i64 k.host) ∧ wa.cell? ⟨w.heap.size, 1, none⟩ = some (.int .u32 k.own) ∧ wa.cell? ⟨w.heap.size, 2, none⟩ = some (.int .u32 k.peer)) →
    (wb.cell? ⟨w.heap.size, 0, none⟩ = some (.int .i64 k.host) ∧ wb.cell? ⟨w.heap.size, 1, none⟩ = some (.int .u32 k.own) ∧ wb.cell? ⟨w.heap.size, 2, none⟩ = some (.int .u32 k.peer)) from
      fun wa wb hab h => ⟨hab.cell h.1 (by simp; omega), hab.cell h.2.1 (by simp; omega), hab.cell h.2.2 (by simp; omega)⟩)
  have K2 := hid (And.intro ka0 (And.intro ka1 ka2))
  rw [← hw2] at ka0 ka1 ka2
  have K1 := hid (And.intro ka0 (And.intro ka1 ka2))
  clear hc hk h01 hm hfew hfn hs1 hk2 hbA hbB hsz hw2 ka0 ka1 ka2
  unfold Key.val Msg.val
  go_enter Try.func23, Try.ntmps23
  go_wp2_with fail
  go_region_held3 (fun w' => w'.cell? ⟨w.heap.size, 0, none⟩ = some (.int .i64 k.host) ∧ w'.cell? ⟨w.heap.size, 1, none⟩ = some (.int .u32 k.own) ∧ w'.cell? ⟨w.heap.size, 2, none⟩ = some (.int .u32 k.peer))
    (first | assumption | (exact K1.out) | (exact HS3.out) | (exact HS4.out) | (exact HS5.out))
    (first
      | (go_at_call 25; refine (other_any _ k H01.out).mono ?_; rintro e w3 ⟨rfl, hk3⟩; rw [HW2.out] at hk3; have HS3 := hid (HS2.out _ _ (hk3.mono (by simp)) K2.out); have HK3 := hid hk3; clear hk3)
      | (go_at_call_of 20 (k.other); refine (side_any (k := k.other) (HC2.out.stay HK3.out) HOK.out).mono ?_; rintro e w4 ⟨s1, O1, F1, rfl, hc4, hf4, hmo4, hk4⟩; have HS4 := hid (HS2.out _ _ hk4 HS3.out); have HC4 := hid hc4; have HF4 := hid hf4; have HK4 := hid hk4; clear hc4 hf4 hmo4 hk4)
      | (go_at_call 20; refine (side_any (k := k) HC4.out HKO.out).mono ?_; rintro e w5 ⟨s2, O2, F2, rfl, hc5, hf5, hmo5, hk5⟩; have HS5 := hid (HS2.out _ _ hk5 HS4.out); have HC5 := hid hc5; have HF5 := hid hf5; have HF51 := hid (hmo5 _ _ HF4.out); have HK5 := hid hk5; clear hc5 hf5 hmo5 hk5))
  unfold ptr
  have HA5 := hid (HC5.out.side _ _ HF51.out)
  have HB5 := hid (HC5.out.side _ _ HF5.out)
  obtain ⟨so, sc, uo, uc, nb, hop⟩ := HA5.out.opened
  have HOP := hid hop
  have ca0 := blk_cell hop.blk 0
  simp only [sideCells, List.getElem?_toArray, List.getElem?_cons_zero] at ca0
  have hlen := HFW.out k.other
  have HSAME := hid hop.same
  have HB5m := hid (((((HK3.out.mono (by simp)) : Kept [mb] w2 w3).tr HK4.out).tr HK5.out).blk HBB.out (by simp; omega))
  clear hop
  obtain ⟨so2, sc2, uo2, uc2, nb2, hop2⟩ := HB5.out.opened
  have HOP2 := hid hop2
  clear hop2
  have HAL := hid (show ∀ s : Msg, s.here w0 → ∀ ao ac, s.dv = .slice ao s.data.length ac → ∀ W, Kept [] w5 W → Calls Try.prog 26 #[.agg #[.int .u16 s.stream, .int .u16 s.ssn, .int .u32 s.ppid, .bool s.free, .slice ao s.data.length ac], .agg #[.int .u16 m.stream, .int .u16 m.ssn, .int .u32 m.ppid, .bool m.free, .slice mo m.data.length mc]] W (Alikes W s m) from
    fun s hs ao ac hsv W hk => by
      have h := alike_any (w := W) (hs.kept (HC5.out.kept.tr hk)) (HM.out.kept (HC5.out.kept.tr hk))
      unfold Msg.val at h
      rw [hsv, hmv] at h
      exact h)
  have HFA := hid (show ∀ W, Kept [] w5 W → W.cell? ⟨w.heap.size + 1, 0, none⟩ = some (.int .u16 m.stream) ∧ W.cell? ⟨w.heap.size + 1, 1, none⟩ = some (.int .u16 m.ssn) ∧ W.cell? ⟨w.heap.size + 1, 2, none⟩ = some (.int .u32 m.ppid) ∧
      W.cell? ⟨w.heap.size + 1, 3, none⟩ = some (.bool m.free) ∧ W.cell? ⟨w.heap.size + 1, 4, none⟩ = some (.slice mo m.data.length mc) ∧ W.cell? ⟨s1, 1, none⟩ = some (.slice uo (c k.other).used.length uc) ∧ W.cell? ⟨s2, 2, none⟩ = some (.map (some nb2)) ∧
      w.heap.size + 1 < W.heap.size ∧ s1 < W.heap.size ∧ s2 < W.heap.size from fun W hk => by
    have hB := hk.blk HB5m.out (by simp)
    have h1 := hk.blk HOP.out.blk (by simp)
    have h2 := hk.blk HOP2.out.blk (by simp)
    exact ⟨blk_cell hB 0, blk_cell hB 1, blk_cell hB 2, blk_cell hB 3, blk_cell hB 4, blk_cell h1 1, blk_cell h2 2, lt_of_block hB, lt_of_block h1, lt_of_block h2⟩)
  have HLK := hid (show ∀ W, Kept [] w5 W → (Instr.lookup 53 (.map (some nb2)) (.int .u16 m.stream) false).run Try.prog W = .ok (.int .i64 ((c k).next m.stream)) W from fun W hk => by
    have h := (HOP2.out.kept HB5.out hk).next.lookup law38 (fun a b e => by simpa using e) Try.underlying53 (zero3 W) (key38 HM.out.stream)
    rw [nextV_get] at h
    exact h)
  generalize hR : gotR c k m = R at *
  have HR := hid hR
  have HP := hid (show ∀ e wq, e = R → (R.2 = none → ∃ O' F', Court w0 wq mb c O' F') → (∀ i, R.2 = some i → ∃ O' F', Court w0 wq mb (if m.free = true then upd c k.other (useAt (c k.other) i) else upd (upd c k.other (useAt (c k.other) i)) k (countAt (c k) m.stream)) O' F') → Got w0 mb c k m (.returned (.int .i64 e.1)) wq from by
    intro e wq he h1 h2
    refine ⟨by rw [he, hR], ?_⟩
    unfold got
    rw [hR]
    cases hR2 : R.2 with
    | none => exact h1 hR2
    | some i => exact h2 i hR2)
  generalize Got w0 mb c k m = Post at *
  clear hR
  go_wp2_with fail
  go_loopw [9, 24] (fun n i wr => ∃ (j nn : Nat), j ≤ (c k.other).sent.length ∧ nn ≤ j ∧ i = .int .i64 j ∧ n = .int .i64 nn ∧ scan m ((c k).next m.stream) ((c k.other).sent.drop j) ((c k.other).used.drop j) nn j = R ∧ Kept [] w5 wr) (fun _ i _ => (c k.other).sent.length - (intOf i).toNat)
  case atStart => exact ⟨0, 0, Nat.zero_le _, Nat.le_refl _, rfl, rfl, HR.out, Kept.refl [] _⟩
  case round =>
    obtain ⟨j, nn, hj, hnn, rfl, rfl, hscan, hkr⟩ := hrel
    have HKR := hid hkr
    have HSC := hid hscan
    clear hscan
    have HOPr := hid (HOP.out.kept HA5.out hkr)
    have HCr := hid (HC5.out.stay hkr)
    obtain ⟨m0, m1, m2, m3, m4, ca1, cb2, bm, bs1, bs2⟩ := HFA.out wr hkr
    by_cases hlt : j < (c k.other).sent.length
    · obtain ⟨g, rfl, hcell⟩ := HOPr.out.sent j hlt
      have hgl : g < wr.heap.size := by
        have := hcell 0 (by omega)
        exact block_lt_of_cell (this.trans (List.getElem?_eq_getElem (show 0 < ((c k.other).sent[j]).cells.length from by show 0 < 5; omega)))
      have HS := hid (HC5.out.msgs k.other _ (List.getElem_mem hlt))
      have HST := hid (scan_step (m := m) (want := (c k).next m.stream) (n := nn) hlt HSAME.out)
      have hultN : j < (c k.other).used.length := by have := HSAME.out; omega
      generalize hse : (c k.other).sent[j] = s at *
      obtain ⟨gu, huo, cu, fu, hog, _, _⟩ := HOPr.out.used j hultN
      subst huo
      have bgu := block_lt_of_cell cu
      have HUS := hid (show ∀ W, Kept [] w5 W → W.cell? ⟨gu, j, none⟩ = some (.bool (c k.other).used[j]) ∧ W.frozen? ⟨gu, j, none⟩ = false ∧ gu ≠ w.heap.size + 1 ∧ Court w0 (W.setCell ⟨gu, j, none⟩ (.bool true)) mb (upd c k.other (useAt (c k.other) j)) O2 F2 from fun W hkW => by
        obtain ⟨gu', e, hcu, f, og, ⟨cur, hbg⟩, hset⟩ := (HOP.out.kept HA5.out hkW).used j hultN
        cases e
        exact ⟨hcu, f, (fun e => by have h := hkW.blk HB5m.out (by simp); rw [← e, hbg] at h; cases h), (HC5.out.stay hkW).put (S := [gu]) HF51.out ((Kept.refl _ _).setCell (.inl (by simp)) _) (fun b hb => by simp at hb; subst hb; exact ⟨2, og⟩) (fun _ _ => rfl) hset (fun m hm => HC5.out.msgs _ m hm)⟩)
      generalize hue : (c k.other).used[j]'hultN = u at *
      clear hse hue fu
      obtain ⟨sdo, sdc, hsv⟩ := HS.out.data.form
      have e0 := hcell 0 (by omega)
      have e1 := hcell 1 (by omega)
      have e2 := hcell 2 (by omega)
      have e3 := hcell 3 (by omega)
      have e4 := hcell 4 (by omega)
      simp only [Msg.cells, hsv, List.getElem?_cons_zero, List.getElem?_cons_succ, Nat.add_zero] at e0 e1 e2 e3 e4
      have HSV := hid hsv
      have HKA := hid (show ∀ o, Kept [] w5 (wr.alloc o) from fun o => hkr.alloc o)
      have hwj : IntKind.i64.wrap ((j : Int) + 1) = (j : Int) + 1 := IntWalk.i64_in _ (by omega)
      have hwn : IntKind.i64.wrap ((nn : Int) + 1) = (nn : Int) + 1 := IntWalk.i64_in _ (by omega)
      clear hcell hsv hkr
      rw [HSC.out] at HST
      have HST' := HST.out
      by_cases h1 : s.stream = m.stream
      · have b1 : (s.stream != m.stream) = false := by simpa using h1
        cases hmf : m.free with
        | true =>
          cases hsf : s.free with
          | true =>
            rw [if_neg (by simp [h1, hmf, hsf]), if_pos hmf] at HST'
            have HAL' := hid (HAL.out s HS.out sdo sdc HSV.out)
            rw [hmf, hsf] at HAL'
            have HMF := hid hmf
            by_cases h4 : u = false
            · by_cases h5 : s.alike m = true
              · rw [if_pos ⟨h4, h5⟩] at HST'
                have HN := hid HST'.symm
                have H5 := hid h5
                clear HST' h1 h5
                go_wp2_with fail
                refine (HAL'.out _ (HKA.out _)).mono ?_
                rintro e w6 ⟨rfl, hk6⟩
                have HK6 := hid ((HKA.out _).tr hk6)
                have h5 := H5.out
                obtain ⟨n0, n1, n2, n3, n4, da1, db2, dm, ds1, ds2⟩ := HFA.out w6 HK6.out
                obtain ⟨cu6, fu, hgm, hcu⟩ := HUS.out w6 HK6.out
                have HZ := hid (show Post (.returned (.int .i64 0)) (w6.setCell ⟨gu, j, none⟩ (.bool true)) from HP.out (0, some j) _ HN.out (fun e => by rw [← HN.out] at e; cases e) (fun i e => by
                  rw [← HN.out] at e
                  cases e
                  rw [if_pos HMF.out]
                  exact ⟨_, _, hcu⟩))
                clear hk6 hcu
                go_wp2_with fail
                exact HZ.out
              · rw [if_neg (by simp [h5])] at HST'
                have HN := hid HST'.symm
                have H5 := hid (show s.alike m = false by simpa using h5)
                clear HST' h1 h5
                go_wp2_with fail
                refine (HAL'.out _ (HKA.out _)).mono ?_
                rintro e w6 ⟨rfl, hk6⟩
                have HK6 := hid ((HKA.out _).tr hk6)
                have h5 := H5.out
                obtain ⟨n0, n1, n2, n3, n4, da1, db2, dm, ds1, ds2⟩ := HFA.out w6 HK6.out
                clear hk6
                go_wp2_with fail
                go_quiet (fail)
                go_wp2
                go_roundw
                case rel => exact ⟨j + 1, nn + 1, by omega, by omega, by go_num, by go_num, HN.out, HK6.out.drewN _⟩
                case measure => simp [intOf]; omega
            · rw [if_neg (by simp [h4])] at HST'
              have h4' : u = true := by simpa using h4
              have HN := hid HST'.symm
              clear HST' h1 h4
              go_wp2_with fail
              go_quiet (fail)
              go_wp2
              go_roundw
              case rel => exact ⟨j + 1, nn + 1, by omega, by omega, by go_num, by go_num, HN.out, (HKA.out _).drewN _⟩
              case measure => simp [intOf]; omega
          | false =>
            rw [if_pos (.inr (by simp [hmf, hsf]))] at HST'
            have HN := hid HST'.symm
            clear HST' h1
            go_wp2_with fail
            go_roundw
            case rel => exact ⟨j + 1, nn, by omega, by omega, by go_num, by go_num, HN.out, HKA.out _⟩
            case measure => simp [intOf]; omega
        | false =>
          cases hsf : s.free with
          | true =>
            rw [if_pos (.inr (by simp [hmf, hsf]))] at HST'
            have HN := hid HST'.symm
            clear HST' h1
            go_wp2_with fail
            go_roundw
            case rel => exact ⟨j + 1, nn, by omega, by omega, by go_num, by go_num, HN.out, HKA.out _⟩
            case measure => simp [intOf]; omega
          | false =>
            rw [if_neg (by simp [h1, hmf, hsf]), if_neg (by simp [hmf])] at HST'
            have HAL' := hid (HAL.out s HS.out sdo sdc HSV.out)
            rw [hmf, hsf] at HAL'
            have HMF := hid hmf
            have hq : ∀ n, (Instr.lookup 53 (.map (some nb2)) (.int .u16 m.stream) false).run Try.prog ((wr.alloc (.cells #[.int .u16 s.stream, .int .u16 s.ssn, .int .u32 s.ppid, .bool false, .slice sdo s.data.length sdc] 41)).drewN n) = .ok (.int .i64 ((c k).next m.stream)) ((wr.alloc (.cells #[.int .u16 s.stream, .int .u16 s.ssn, .int .u32 s.ppid, .bool false, .slice sdo s.data.length sdc] 41)).drewN n) :=
              fun n => HLK.out _ ((HKA.out _).drewN n)
            by_cases h6 : nn = (c k).next m.stream
            · have b6 : ((nn : Int) == ((c k).next m.stream : Int)) = true := by rw [h6]; simp
              rw [if_pos h6] at HST'
              by_cases h5 : s.alike m = true
              · rw [if_pos h5] at HST'
                have HN := hid HST'.symm
                have H5 := hid h5
                clear HST' h1 h5 h6
                go_wp2_with fail
                go_quiet (fail)
                go_wp2_with fail
                refine (HAL'.out _ ((HKA.out _).drewN _)).mono ?_
                rintro e w6 ⟨rfl, hk6⟩
                have HK6 := hid (((HKA.out _).drewN _).tr hk6)
                have h5 := H5.out
                obtain ⟨cu6, fu, hgm, hcu⟩ := HUS.out w6 HK6.out
                obtain ⟨n0, n1, n2, n3, n4, da1, db2, dm, ds1, ds2⟩ := HFA.out w6 HK6.out
                have HCX := hid (hcu.stay (Kept.refl [] _).drew)
                have hsx := HCX.out.side _ _ HF5.out
                rw [show upd c k.other (useAt (c k.other) j) k = c k from if_neg (Ne.symm HNE.out)] at hsx
                have HSX := hid hsx
                obtain ⟨so3, sc3, uo3, uc3, nb3, hop3⟩ := hsx.opened
                have x2 := blk_cell hop3.blk 2
                simp only [sideCells, List.getElem?_toArray, List.getElem?_cons_zero, List.getElem?_cons_succ] at x2
                have hq2 := hop3.next.lookup law38 (fun a b e => by simpa using e) Try.underlying53 (zero3 _) (key38 HM.out.stream)
                rw [nextV_get] at hq2
                have hwn1 : IntKind.i64.wrap (((c k).next m.stream : Int) + 1) = ((c k).next m.stream : Int) + 1 := IntWalk.i64_in _ (by have := HFN.out k m.stream; omega)
                obtain ⟨w7, hu2, hm7, hk7⟩ := hop3.next.update law38 (fun a b e => by simpa using e) Try.underlying53 (key38 HM.out.stream) (.int .i64 (((c k).next m.stream : Int) + 1))
                have hs7 := hop3.count w7 m.stream hm7 hk7
                have hc7 := HCX.out.put (S := [nb3]) HF5.out hk7 (fun b hb => by simp at hb; subst hb; exact ⟨3, hop3.nbo⟩) (fun _ _ => rfl) hs7 (fun q hq => HC5.out.msgs k q hq)
                have hs23 : s2 ≠ nb3 := fun e => by have h1 := HSX.out.own; have h2 := hop3.nbo; rw [← e, h1] at h2; cases h2
                have hbx : (w6.setCell ⟨gu, j, none⟩ (.bool true)).drew.heap[w.heap.size + 1]? = _ := blk_other (p := ⟨gu, j, none⟩) (.bool true) (Ne.symm hgm) (HK6.out.blk HB5m.out (by simp))
                have hcx := blk_cell hbx 0
                simp only [List.getElem?_toArray, List.getElem?_cons_zero] at hcx
                have hm3 : w.heap.size + 1 ≠ nb3 := fun e => by
                  obtain ⟨es, clock, hmb, _⟩ := hop3.next
                  rw [← e, hbx] at hmb
                  cases hmb
                have HCXX := hid hcx
                have HX2 := hid x2
                have HX7 := hid (show w7.cell? ⟨s2, 2, none⟩ = some (.map (some nb3)) ∧ w7.cell? ⟨w.heap.size + 1, 0, none⟩ = some (.int .u16 m.stream) from ⟨hk7.cell x2 (by simpa using hs23), hk7.cell hcx (by simpa using hm3)⟩)
                have HZ := hid (show Post (.returned (.int .i64 0)) w7 from HP.out (0, some j) _ HN.out (fun e => by rw [← HN.out] at e; cases e) (fun i e => by
                  rw [← HN.out] at e
                  cases e
                  rw [if_neg (by rw [HMF.out]; simp)]
                  exact ⟨_, _, hc7⟩))
                clear hk6 hcu hop3 hm7 hk7 hs7 hc7 hsx hs23 hm3 hq hbx hcx
                go_wp2_with fail
                go_region_held3 (fun w' => w'.cell? ⟨s2, 2, none⟩ = some (.map (some nb3)) ∧ w'.cell? ⟨w.heap.size + 1, 0, none⟩ = some (.int .u16 m.stream)) (first | assumption | (exact ⟨HX2.out, HCXX.out⟩) | (exact HX7.out)) (fail)
                go_wp2_with fail
                exact HZ.out
              · rw [if_neg h5] at HST'
                have HN := hid HST'.symm
                have H5 := hid (show s.alike m = false by simpa using h5)
                clear HST' h1 h5 h6
                go_wp2_with fail
                go_quiet (fail)
                go_wp2_with fail
                refine (HAL'.out _ ((HKA.out _).drewN _)).mono ?_
                rintro e w6 ⟨rfl, hk6⟩
                have HK6 := hid (((HKA.out _).drewN _).tr hk6)
                have h5 := H5.out
                have HZ := hid (show Post (.returned (.int .i64 4)) w6 from HP.out (4, none) _ HN.out (fun e => ⟨_, _, HC5.out.stay HK6.out⟩) (fun i e => by
                  rw [← HN.out] at e
                  cases e))
                clear hk6
                go_wp2_with fail
                exact HZ.out
            · have b6 : ((nn : Int) == ((c k).next m.stream : Int)) = false := by rw [beq_eq_false_iff_ne]; omega
              rw [if_neg h6] at HST'
              have HN := hid HST'.symm
              clear HST' h1 h6
              go_wp2_with fail
              go_quiet (fail)
              go_wp2
              go_roundw
              case rel => exact ⟨j + 1, nn + 1, by omega, by omega, by go_num, by go_num, HN.out, (HKA.out _).drewN _⟩
              case measure => simp [intOf]; omega
      · rw [if_pos (.inl h1)] at HST'
        have HN := hid HST'.symm
        have b1 : (s.stream != m.stream) = true := by simpa using h1
        clear HST' h1
        go_wp2_with fail
        go_roundw
        case rel => exact ⟨j + 1, nn, by omega, by omega, by go_num, by go_num, HN.out, HKA.out _⟩
        case measure => simp [intOf]; omega
    · have HN := hid (show ((16, none) : Int × Option Nat) = R from by rw [← HSC.out]; exact (scan_end (by omega)).symm)
      have HZ := hid (show Post (.returned (.int .i64 16)) wr from HP.out (16, none) wr HN.out (fun _ => ⟨_, _, HCr.out⟩) (fun i e => by rw [← HN.out] at e; cases e))
      go_wp2_with fail
      exact HZ.out

end Go.Proofs.Ytepadejkeokbcaa
