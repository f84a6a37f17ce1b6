/-
  The law JudgeOwn: what it returns.
-/
import Derived.Test.YtepadejkeokbcaaRefL
import Derived.Test.YtepadejkeokbcaaLive
import Derived.Test.YtepadejkeokbcaaShort
import Derived.Test.YtepadejkeokbcaaOwnP
namespace Go.Proofs.Ytepadejkeokbcaa
open Go.RowKit Go.Maps

theorem Try.info5o : (Try.prog.info? 5).map (fun i => (i.zero, i.size, i.bytes)) = some (some (.int .u8 0), 1, 1) := by kernel_rfl
theorem Try.info44o : (Try.prog.info? 44).map (fun i => (i.zero, i.size, i.bytes)) = some (some (.agg #[.int .i64 0, .int .i64 0, .int .u32 0, .int .u32 0, .int .u16 0, .int .u16 0, .int .u32 0, .bool false, .slice none 0 0, .int .i64 0]), 10, 72) := by kernel_rfl
theorem Try.underlying39o : Try.prog.underlying 39 = some (.slice 5) := by kernel_rfl

/-- A row is left alone where another kind's row grows. -/
theorem row_other {w w' : World} {b1 b2 : Nat} {e1 e2 : TypeId} {s1 s2 n1 n2 : Nat} {v1 v2 : Value} {x1 x2 : List Value} (h1 : w.ownsRow b1 e1 s1 v1 n1 x1) (h2 : w.ownsRow b2 e2 s2 v2 n2 x2) (he : e1 ≠ e2) (hg : w.grownBy w' v2.ownBlock) : w'.ownsRow b1 e1 s1 v1 n1 x1 := by
  rcases h2.2 with ⟨rfl, _⟩ | ⟨g, cap, cur, rfl, _, hb, _⟩
  · exact ownsRow_kept h1 ((Kept.refl [] w).grown hg (fun k e => by cases e)) (by simp)
  · refine ownsRow_kept h1 ((Kept.refl [g] w).grown hg (fun k e => by cases e; simp)) (fun k e => ?_)
    rcases h1.2 with ⟨rfl, _⟩ | ⟨g', cap', cur', rfl, _, hb', _⟩
    · cases e
    · cases e
      intro hm
      obtain rfl : g' = g := by simpa using hm
      rw [hb] at hb'
      cases hb'
      exact he rfl
theorem row_low {w : World} {b : Nat} {e : TypeId} {s n : Nat} {v : Value} {x : List Value} (h : w.ownsRow b e s v n x) : w.ownsRow 0 e s v n x := by
  refine ⟨h.1, ?_⟩
  rcases h.2 with h | ⟨g, cap, cur, h1, _, h3⟩
  · exact .inl h
  · exact .inr ⟨g, cap, cur, h1, Nat.zero_le _, h3⟩

/-- A mark whose bytes are a row of its own. -/
structure Fresh (w : World) (m : Mark) : Prop where
  row : w.ownsRow 0 5 1 m.msg.dv m.msg.data.length (u8s m.msg.data)
  bytes : ∀ z ∈ m.msg.data, 0 ≤ z ∧ z ≤ 255
  len : m.msg.data.length ≤ 140737488355328
  stream : 0 ≤ m.msg.stream ∧ m.msg.stream < 65536
  key : m.key.ok
theorem Fresh.here {w : World} {m : Mark} (h : Fresh w m) : m.here w := ⟨⟨(SliceIn.owned h.row).mono (fun _ _ _ => trivial), h.bytes, h.len, h.stream⟩, h.key⟩
theorem Fresh.kept {w w' : World} {m : Mark} (h : Fresh w m) (hk : Kept [] w w') : Fresh w' m := ⟨ownsRow_kept h.row hk (by simp), h.bytes, h.len, h.stream, h.key⟩
theorem Fresh.grown {w w' : World} {m : Mark} {b n : Nat} {v : Value} {x : List Value} (h : Fresh w m) (h2 : w.ownsRow b 44 10 v n x) (hg : w.grownBy w' v.ownBlock) : Fresh w' m :=
  ⟨row_other h.row h2 (by decide) hg, h.bytes, h.len, h.stream, h.key⟩

theorem marks_cells {w : World} {B n : Nat} {so : Option Addr} {sc : Nat} {l : List Mark} (h : w.ownsRow B 44 10 (.slice so n sc) n (marksV l)) (hn0 : l.length = n) {j : Nat} (hj : j < l.length) :
    ∃ g, so = some ⟨g, 0, none⟩ ∧ g < w.heap.size ∧ n ≤ sc ∧ ∀ i, i < 10 → w.cell? ⟨g, j * 10 + i, none⟩ = l[j].cells[i]? := by
  rcases h.2 with ⟨_, h0⟩ | ⟨g, cap, cur, e, _, hg, hn, _, _, ht⟩
  · omega
  · cases e
    refine ⟨g, rfl, lt_of_block hg, hn, fun i hi => ?_⟩
    have q := marksV_get l j hj i hi
    have hlt : i < l[j].cells.length := hi
    rw [List.getElem?_eq_getElem hlt] at q ⊢
    rw [blk_cell hg]
    rw [← ht, List.getElem?_take] at q
    split at q
    · simpa using q
    · cases q

theorem marksV_append (a b : List Mark) : marksV (a ++ b) = marksV a ++ marksV b := by simp [marksV]
theorem bare_get {L K : List Mark} (h : K.map Mark.bare = L.map Mark.bare) {i : Nat} (h1 : i < L.length) (h2 : i < K.length) : K[i].bare = L[i].bare := by
  have e : (K.map Mark.bare)[i]? = (L.map Mark.bare)[i]? := by rw [h]
  simpa [h1, h2] using e

set_option maxRecDepth 100000 in
set_option maxHeartbeats 16000000 in
theorem own_any {w0 : World} {lv : Value} {L0 : List Mark} (hl : MarksRaw w0 lv L0) : Calls Try.prog 8 #[lv] w0 fun e w' => e = .returned (.bool true) ∧ Kept [] w0 w' := by
  obtain ⟨ao0, cap0, rfl⟩ := hl.row.form
  have HL0 := hid hl
  clear hl
  obtain ⟨i5, hi5, hz5, hs5, hy5⟩ := info_parts Try.info5o
  have I5 := hid hi5
  obtain ⟨i44, hi44, hz44, hs44, hy44⟩ := info_parts Try.info44o
  have I44 := hid hi44
  clear hi5 hi44
  go_enter Try.func8, Try.ntmps8
  go_wp2_with fail
  refine (short_any HL0.out).mono ?_
  rintro e w1 ⟨v1, rfl, hin, rfl⟩
  have hlen : (short L0).length ≤ 60 := short_few L0
  generalize short L0 = L at *
  obtain ⟨ao, cap, rfl⟩ := hin.row.form
  have HL := hid hin
  clear hin
  obtain ⟨w, hw⟩ : ∃ w : World, w = w0 := ⟨w0, rfl⟩
  subst hw
  go_wp2_with fail
  go_loopw [3, 4] (fun v iv wr => ∃ (i : Nat) (K : List Mark), i ≤ L.length ∧ iv = .int .i64 i ∧ K.map Mark.bare = (L.take i).map Mark.bare ∧ wr.ownsRow w.heap.size 44 10 v K.length (marksV K) ∧ (∀ m ∈ K, Fresh wr m) ∧ Kept [] w wr) (fun _ iv _ => L.length - (intOf iv).toNat)
  case atStart => exact ⟨0, [], Nat.zero_le _, rfl, rfl, ⟨rfl, .inl ⟨rfl, rfl⟩⟩, (fun m hm => by cases hm), Kept.refl [] w⟩
  case round =>
    obtain ⟨i, K, hi, rfl, hbare, hown, hfr, hkr⟩ := hrel
    obtain ⟨ko, kc, rfl⟩ := (SliceIn.owned hown).form
    have hkl : K.length = i := by
      have e := congrArg List.length hbare
      simpa [Nat.min_eq_left hi] using e
    have HB := hid hbare
    rw [hkl] at hown
    have HO := hid hown
    have HF := hid hfr
    have HK := hid hkr
    have HLr := hid (HL.out.kept hkr)
    clear hown hfr hkr hbare
    have hwi : IntKind.i64.wrap ((i : Int) + 1) = (i : Int) + 1 := IntWalk.i64_in _ (by omega)
    by_cases hlt : i < L.length
    · obtain ⟨b, off, hao, hb, hcell⟩ := HLr.out.cells hlt
      subst hao
      have hic : (i : Int) ≤ (cap : Int) := by
        rcases HLr.out.row.2 with ⟨h0, _⟩ | ⟨b, off, cap', he, h2, _⟩
        · omega
        · cases he; omega
      have HM := hid (HLr.out.here _ (List.getElem_mem hlt))
      have HBX := hid (show ∀ m : Mark, m.bare = L[i].bare → (K ++ [m]).map Mark.bare = (L.take (i + 1)).map Mark.bare from fun m e => by
        rw [List.take_succ_eq_append_getElem hlt, List.map_append, List.map_append, HB.out, List.map_singleton, List.map_singleton, e])
      generalize L[i] = x at *
      obtain ⟨xo, xc, hmv⟩ := HM.out.msg.data.form
      have HMV := hid hmv
      have c0 := hcell 0 (by omega)
      have c1 := hcell 1 (by omega)
      have c2 := hcell 2 (by omega)
      have c3 := hcell 3 (by omega)
      have c4 := hcell 4 (by omega)
      have c5 := hcell 5 (by omega)
      have c6 := hcell 6 (by omega)
      have c7 := hcell 7 (by omega)
      have c8 := hcell 8 (by omega)
      have c9 := hcell 9 (by omega)
      simp only [Mark.cells, hmv, List.getElem?_cons_zero, List.getElem?_cons_succ, Nat.add_zero, ← Nat.add_assoc] at c0 c1 c2 c3 c4 c5 c6 c7 c8 c9
      clear hcell hmv
      have hdl := HM.out.msg.len
      obtain ⟨W1, hW1⟩ : ∃ W1 : World, wr.alloc (.cells #[.int .i64 x.is, .int .i64 x.host, .int .u32 x.own, .int .u32 x.peer, .int .u16 x.msg.stream, .int .u16 x.msg.ssn, .int .u32 x.msg.ppid, .bool x.msg.free, .slice xo x.msg.data.length xc, .int .i64 x.notice] 44) = W1 := ⟨_, rfl⟩
      have HW1 := hid (show Kept [] wr W1 from by rw [← hW1]; exact (Kept.refl [] wr).alloc _)
      have HBA := hid (show W1.heap[wr.heap.size]? = some (.cells #[.int .i64 x.is, .int .i64 x.host, .int .u32 x.own, .int .u32 x.peer, .int .u16 x.msg.stream, .int .u16 x.msg.ssn, .int .u32 x.msg.ppid, .bool x.msg.free, .slice xo x.msg.data.length xc, .int .i64 x.notice] 44) from by rw [← hW1]; exact blk_new wr _)
      have hz1 : W1.heap.size = wr.heap.size + 1 := by rw [← hW1]; simp
      have HRM0 := hid (show (W1.alloc (.cells #[] 5)).ownsRow W1.heap.size 5 1 (.slice (some ⟨W1.heap.size, 0, none⟩) 0 0) 0 [] from World.ownsRow_made W1 #[] 0 (Nat.le_refl _) (Nat.zero_le _) rfl)
      have HRM := hid (show (W1.alloc (.cells #[] 5)).ownsRow (wr.heap.size + 1) 5 1 (.slice (some ⟨wr.heap.size + 1, 0, none⟩) 0 0) 0 [] from by rw [← hz1]; exact HRM0.out)
      have HDI := hid ((HM.out.msg.data.kept HW1.out (fun _ _ _ => by simp)).kept ((Kept.refl [] W1).alloc (.cells #[] 5)) (fun _ _ _ => by simp))
      have c8' : (W1.alloc (.cells #[] 5)).cell? ⟨wr.heap.size, 8, none⟩ = some (.slice xo x.msg.data.length xc) := blk_cell (blk_alloc _ HBA.out) 8
      rw [HMV.out] at HDI
      clear HRM0
      go_wp2_with (at_builtin; refine wpList_append_in _ rfl (.tmp 29) (.tmp 32) 39 rfl (wr.heap.size + 1) 5 i5 _ 1 1 Try.underlying39o I5.out hz5 hs5 hy5 rfl (by decide) _ 0 [] rfl HRM.out Any _ x.msg.data.length (u8s x.msg.data) rfl HDI.out (u8s_one _) (by unfold maxLen; omega) (by omega) (by rw [World.size_alloc]; omega) ?_)
      intro v2 w2 ho2 hg2 _
      have hk2 : Kept [] W1 w2 := kept_in ((Kept.refl [] W1).alloc _) (by rw [hz1]; exact HRM.out) hg2
      have HK2 := hid hk2
      have HO2 := hid ho2
      obtain ⟨vo, vc, rfl⟩ := (SliceIn.owned ho2).form
      have HB2 := hid (hk2.blk HBA.out (by simp))
      have HB3 := hid (blk_set HB2.out 8 (.slice vo x.msg.data.length vc))
      have hf8 := blk_free HB2.out 8
      have hc8 := blk_cell HB2.out 8
      have hmb2 := lt_of_block HB2.out
      have d0 : (w2.setCell ⟨wr.heap.size, 8, none⟩ (.slice vo x.msg.data.length vc)).cell? ⟨wr.heap.size, 0, none⟩ = some (.int .i64 x.is) := by rw [blk_cell HB3.out]; rfl
      have d1 : (w2.setCell ⟨wr.heap.size, 8, none⟩ (.slice vo x.msg.data.length vc)).cell? ⟨wr.heap.size, 1, none⟩ = some (.int .i64 x.host) := by rw [blk_cell HB3.out]; rfl
      have d2 : (w2.setCell ⟨wr.heap.size, 8, none⟩ (.slice vo x.msg.data.length vc)).cell? ⟨wr.heap.size, 2, none⟩ = some (.int .u32 x.own) := by rw [blk_cell HB3.out]; rfl
      have d3 : (w2.setCell ⟨wr.heap.size, 8, none⟩ (.slice vo x.msg.data.length vc)).cell? ⟨wr.heap.size, 3, none⟩ = some (.int .u32 x.peer) := by rw [blk_cell HB3.out]; rfl
      have d4 : (w2.setCell ⟨wr.heap.size, 8, none⟩ (.slice vo x.msg.data.length vc)).cell? ⟨wr.heap.size, 4, none⟩ = some (.int .u16 x.msg.stream) := by rw [blk_cell HB3.out]; rfl
      have d5 : (w2.setCell ⟨wr.heap.size, 8, none⟩ (.slice vo x.msg.data.length vc)).cell? ⟨wr.heap.size, 5, none⟩ = some (.int .u16 x.msg.ssn) := by rw [blk_cell HB3.out]; rfl
      have d6 : (w2.setCell ⟨wr.heap.size, 8, none⟩ (.slice vo x.msg.data.length vc)).cell? ⟨wr.heap.size, 6, none⟩ = some (.int .u32 x.msg.ppid) := by rw [blk_cell HB3.out]; rfl
      have d7 : (w2.setCell ⟨wr.heap.size, 8, none⟩ (.slice vo x.msg.data.length vc)).cell? ⟨wr.heap.size, 7, none⟩ = some (.bool x.msg.free) := by rw [blk_cell HB3.out]; rfl
      have d8 : (w2.setCell ⟨wr.heap.size, 8, none⟩ (.slice vo x.msg.data.length vc)).cell? ⟨wr.heap.size, 8, none⟩ = some (.slice vo x.msg.data.length vc) := by rw [blk_cell HB3.out]; rfl
      have d9 : (w2.setCell ⟨wr.heap.size, 8, none⟩ (.slice vo x.msg.data.length vc)).cell? ⟨wr.heap.size, 9, none⟩ = some (.int .i64 x.notice) := by rw [blk_cell HB3.out]; rfl
      clear ho2 hg2 hk2 c8' HRM HDI
      have hk3 : Kept [] wr (w2.setCell ⟨wr.heap.size, 8, none⟩ (.slice vo x.msg.data.length vc)) := (HW1.out.tr HK2.out).setCell (.inr (Nat.le_refl _)) _
      have HO3 := hid (ownsRow_kept HO.out hk3 (by simp))
      have HK3 := hid hk3
      have HBI := hid (block_in (size := 10) (blk_new (w2.setCell ⟨wr.heap.size, 8, none⟩ (.slice vo x.msg.data.length vc)) (.cells #[.int .i64 x.is, .int .i64 x.host, .int .u32 x.own, .int .u32 x.peer, .int .u16 x.msg.stream, .int .u16 x.msg.ssn, .int .u32 x.msg.ppid, .bool x.msg.free, .slice vo x.msg.data.length vc, .int .i64 x.notice] 44)) rfl)
      rw [World.size_setCell] at HBI
      have HV2 := hid (show (w2.setCell ⟨wr.heap.size, 8, none⟩ (.slice vo x.msg.data.length vc)).ownsRow 0 5 1 (.slice vo x.msg.data.length vc) x.msg.data.length (u8s x.msg.data) from
        row_low (ownsRow_kept HO2.out ((Kept.refl [wr.heap.size] w2).setCell (.inl (by simp)) _) (fun k e hm => by
          have h1 := (World.ownsRow.lt HO2.out k e).1
          have h2 : k = wr.heap.size := by simpa using hm
          omega)))
      have hws := HK.out.size
      have hws3 := hk3.size
      clear hk3 hW1
      go_wp2_with (at_builtin; refine wpList_append_in _ rfl (.tmp 36) (.tmp 38) 22 rfl w.heap.size 44 i44 _ 10 72 Try.underlying22 I44.out hz44 hs44 hy44 rfl (by decide) _ i _ rfl (HO3.out.alloc _) Any _ 1 _ rfl HBI.out (by simp [Value.oneCell']) (by unfold maxLen; omega) (by omega) (by rw [World.size_alloc]; omega) ?_)
      intro v4 w4 ho4 hg4 _
      have HKF := hid (kept_in ((HK.out.tr HK3.out).alloc _) (HO3.out.alloc _) hg4)
      obtain ⟨y, hy⟩ : ∃ y : Mark, y = { x with msg := { x.msg with dv := .slice vo x.msg.data.length vc } } := ⟨_, rfl⟩
      have HOF := hid (show w4.ownsRow w.heap.size 44 10 v4 (K ++ [y]).length (marksV (K ++ [y])) from by
        rw [List.length_append, hkl, hy, marksV_append]
        exact ho4)
      have HY := hid (HBX.out y (by rw [hy]; rfl))
      have HFF := hid (show ∀ m ∈ K ++ [y], Fresh w4 m from fun m hm => by
        rcases List.mem_append.1 hm with hm | hm
        · exact ((HF.out m hm).kept (HK3.out.alloc _)).grown (HO3.out.alloc _) hg4
        · obtain rfl : m = y := by simpa using hm
          have hf : Fresh (w2.setCell ⟨wr.heap.size, 8, none⟩ (.slice vo x.msg.data.length vc)) m := by
            rw [hy]
            exact ⟨HV2.out, HM.out.msg.bytes, HM.out.msg.len, HM.out.msg.stream, HM.out.key⟩
          exact (hf.kept ((Kept.refl [] _).alloc _)).grown (HO3.out.alloc _) hg4)
      clear ho4 hg4 hy d0 d1 d2 d3 d4 d5 d6 d7 d8 d9 c0 c1 c2 c3 c4 c5 c6 c7 c8 c9 hf8 hc8
      go_wp2_with fail
      go_roundw
      case rel => exact ⟨i + 1, K ++ [y], by omega, by go_num, HY.out, HOF.out, HFF.out, HKF.out⟩
      case measure => simp [intOf]; omega
    · obtain rfl : i = L.length := by omega
      rw [List.take_length] at HB
      have HKM := hid (show MarksIn wr (.slice ko L.length kc) K from ⟨by rw [hkl]; exact (SliceIn.owned HO.out).mono (fun _ _ _ => trivial), fun m hm => (HF.out m hm).here, by omega⟩)
      obtain ⟨n, er, hJ⟩ : ∃ n er, judgeOf L = (n, er) := ⟨_, _, rfl⟩
      obtain ⟨on, ob, hW⟩ : ∃ on ob, owedOf L ⟨0, 1, 2⟩ = (on, ob) := ⟨_, _, rfl⟩
      have HJ1 := hid (show ∀ W, Kept [] wr W → Calls Try.prog 10 #[.slice ao L.length cap] W fun e w' => e = .returned (.tuple #[.int .i64 (n : Nat), .int .i64 er]) ∧ Kept [] W w' from fun W hk => by
        have h := Judge_any (HLr.out.kept hk)
        unfold Judged at h
        rw [hJ] at h
        exact h)
      have HJ2 := hid (show ∀ W, Kept [] wr W → Calls Try.prog 10 #[.slice ko L.length kc] W fun e w' => e = .returned (.tuple #[.int .i64 (n : Nat), .int .i64 er]) ∧ Kept [] W w' from fun W hk => by
        have h := Judge_any (HKM.out.kept hk)
        unfold Judged at h
        rw [judge_same HB.out, hJ] at h
        exact h)
      have HW1 := hid (show ∀ W, Kept [] wr W → Calls Try.prog 13 #[.slice ao L.length cap, .int .i64 0, .int .u32 1, .int .u32 2] W fun e w' => e = .returned (.tuple #[.int .i64 (on : Nat), .bool ob]) ∧ Kept [] W w' from fun W hk => by
        have h := Owed_any (k := ⟨0, 1, 2⟩) (HLr.out.kept hk) (by unfold Key.ok; decide)
        unfold Owes at h
        rw [hW] at h
        exact h)
      have HW2 := hid (show ∀ W, Kept [] wr W → Calls Try.prog 13 #[.slice ko L.length kc, .int .i64 0, .int .u32 1, .int .u32 2] W fun e w' => e = .returned (.tuple #[.int .i64 (on : Nat), .bool ob]) ∧ Kept [] W w' from fun W hk => by
        have h := Owed_any (k := ⟨0, 1, 2⟩) (HKM.out.kept hk) (by unfold Key.ok; decide)
        unfold Owes at h
        rw [owed_same HB.out, hW] at h
        exact h)
      clear hJ hW
      obtain ⟨wo, rfl⟩ : ∃ wo : World, wo = wr := ⟨_, rfl⟩
      go_wp2_with fail
      refine (HJ1.out _ (Kept.refl [] _)).mono ?_
      rintro e w5 ⟨rfl, hk5⟩
      have HK5 := hid hk5
      clear hk5
      go_wp2_with fail
      refine (HW1.out _ HK5.out).mono ?_
      rintro e w6 ⟨rfl, hk6⟩
      have HK6 := hid (HK5.out.tr hk6)
      clear hk6
      go_wp2_with fail
      go_loopw [10] (fun iv wr => ∃ j : Nat, j ≤ L.length ∧ iv = .int .i64 j ∧ Kept [] wo wr) (fun iv _ => L.length - (intOf iv).toNat)
      case atStart => exact ⟨0, Nat.zero_le _, rfl, HK6.out⟩
      case round =>
        obtain ⟨j, hj, rfl, hkq⟩ := hrel
        have HKQ := hid hkq
        have HLq := hid (HLr.out.kept hkq)
        have HOq := hid (ownsRow_kept HO.out hkq (by simp))
        clear hkq
        have hwj : IntKind.i64.wrap ((j : Int) + 1) = (j : Int) + 1 := IntWalk.i64_in _ (by omega)
        by_cases hlt : j < L.length
        · have hltK : j < K.length := by omega
          obtain ⟨b, off, hao, hb, hcell⟩ := HLq.out.cells hlt
          subst hao
          obtain ⟨g, hko, hg, _, hkc⟩ := marks_cells HOq.out hkl hltK
          subst hko
          have HM := hid ((HLq.out.here _ (List.getElem_mem hlt)).msg)
          have HN := hid (((HF.out _ (List.getElem_mem hltK)).here.kept HKQ.out).msg)
          have hbg := bare_get HB.out hlt hltK
          generalize L[j] = x at *
          generalize K[j] = y at *
          obtain ⟨xo, xc, hmv⟩ := HM.out.data.form
          obtain ⟨yo, yc, hyv⟩ := HN.out.data.form
          have HMV := hid hmv
          have HYV := hid hyv
          have e0 : y.is = x.is := congrArg (fun m => m.is) hbg
          have e1 : y.host = x.host := congrArg (fun m => m.host) hbg
          have e2 : y.own = x.own := congrArg (fun m => m.own) hbg
          have e3 : y.peer = x.peer := congrArg (fun m => m.peer) hbg
          have e4 : y.msg.stream = x.msg.stream := congrArg (fun m => m.msg.stream) hbg
          have e5 : y.msg.ssn = x.msg.ssn := congrArg (fun m => m.msg.ssn) hbg
          have e6 : y.msg.ppid = x.msg.ppid := congrArg (fun m => m.msg.ppid) hbg
          have e7 : y.msg.free = x.msg.free := congrArg (fun m => m.msg.free) hbg
          have e8 : y.msg.data = x.msg.data := congrArg (fun m => m.msg.data) hbg
          have e9 : y.notice = x.notice := congrArg (fun m => m.notice) hbg
          have hal : x.msg.alike y.msg = true := by simp [Msg.alike, e4, e6, e7, e8]
          have c0 := hcell 0 (by omega)
          have c1 := hcell 1 (by omega)
          have c2 := hcell 2 (by omega)
          have c3 := hcell 3 (by omega)
          have c4 := hcell 4 (by omega)
          have c5 := hcell 5 (by omega)
          have c6 := hcell 6 (by omega)
          have c7 := hcell 7 (by omega)
          have c8 := hcell 8 (by omega)
          have c9 := hcell 9 (by omega)
          have k0 := hkc 0 (by omega)
          have k1 := hkc 1 (by omega)
          have k2 := hkc 2 (by omega)
          have k3 := hkc 3 (by omega)
          have k4 := hkc 4 (by omega)
          have k5 := hkc 5 (by omega)
          have k6 := hkc 6 (by omega)
          have k7 := hkc 7 (by omega)
          have k8 := hkc 8 (by omega)
          have k9 := hkc 9 (by omega)
          simp only [Mark.cells, hmv, List.getElem?_cons_zero, List.getElem?_cons_succ, Nat.add_zero, ← Nat.add_assoc] at c0 c1 c2 c3 c4 c5 c6 c7 c8 c9
          simp only [Mark.cells, hyv, e0, e1, e2, e3, e4, e5, e6, e7, e8, e9, List.getElem?_cons_zero, List.getElem?_cons_succ, Nat.add_zero] at k0 k1 k2 k3 k4 k5 k6 k7 k8 k9
          have HAL := hid (show ∀ W, Kept [] wr W → Calls Try.prog 17 #[.agg #[.int .u16 x.msg.stream, .int .u16 x.msg.ssn, .int .u32 x.msg.ppid, .bool x.msg.free, .slice xo x.msg.data.length xc], .agg #[.int .u16 x.msg.stream, .int .u16 x.msg.ssn, .int .u32 x.msg.ppid, .bool x.msg.free, .slice yo x.msg.data.length yc]] W fun e w' => e = .returned (.bool true) ∧ Kept [] W w' from fun W hk => by
            have h := refalike_any (HM.out.kept hk) (HN.out.kept hk)
            unfold Alikes at h
            rw [hal] at h
            unfold Msg.val at h
            rw [HMV.out, HYV.out, e4, e5, e6, e7, e8] at h
            exact h)
          clear hcell hkc hmv hyv e0 e1 e2 e3 e4 e5 e6 e7 e8 e9 hal hbg
          go_wp2_with fail
          go_region
          all_goals
            go_wp2_with (go_at_call 17; refine (HAL.out _ (((Kept.refl [] wr).alloc _).alloc _).drew).mono ?_; rintro e w7 ⟨rfl, hk7⟩; have HK7 := hid (((((Kept.refl [] wr).alloc _).alloc _).drew).tr hk7); clear hk7)
          all_goals exact ⟨⟨j + 1, by omega, by go_num, HKQ.out.tr HK7.out⟩, by simp [intOf]; omega⟩
        · obtain rfl : j = L.length := by omega
          go_wp2_with fail
          refine (HJ2.out _ HKQ.out).mono ?_
          rintro e w7 ⟨rfl, hk7⟩
          have HK7 := hid (HKQ.out.tr hk7)
          clear hk7
          go_wp2_with fail
          refine (HW2.out _ HK7.out).mono ?_
          rintro e w8 ⟨rfl, hk8⟩
          have HK8 := hid (HK7.out.tr hk8)
          clear hk8
          go_wp2_with fail
          refine (live_any _).mono ?_
          rintro e w9 ⟨rfl, hk9⟩
          have HK9 := hid (HK8.out.tr hk9)
          clear hk9
          have bn : ((n : Int) == (n : Int)) = true := beq_self_eq_true _
          have be : (er == er) = true := beq_self_eq_true _
          have bo : ((on : Int) == (on : Int)) = true := beq_self_eq_true _
          have bb : (ob == ob) = true := beq_self_eq_true _
          go_wp2
          go_ret
          exact ⟨rfl, HK.out.tr HK9.out⟩

end Go.Proofs.Ytepadejkeokbcaa
