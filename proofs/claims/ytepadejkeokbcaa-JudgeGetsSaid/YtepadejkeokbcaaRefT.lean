/-
  The reference's stands: how a side stands.
-/
import Derived.Test.YtepadejkeokbcaaRefS
import Derived.Deep.RegionHeld3
namespace Go.Proofs.Ytepadejkeokbcaa
open Go.RowKit Go.Maps

def isEnd (k : Key) (m : Mark) : Bool := m.of k && m.is == 3 && m.notice != 1
def isCame (k : Key) (m : Mark) : Bool := m.of k && m.is == 3 && m.notice == 1
def isShut (k : Key) (m : Mark) : Bool := m.of k && m.is == 4
theorem any_step {L : List Mark} {j : Nat} (p : Mark → Bool) (h : j < L.length) : (L.take (j + 1)).any p = ((L.take j).any p || p L[j]) := by
  rw [List.take_succ_eq_append_getElem h, List.any_append]
  simp

def Stands (w : World) (L : List Mark) (k : Key) (e : Ending) (w' : World) : Prop :=
  e = .returned (.tuple #[.bool (L.any (isEnd k)), .bool (L.any (isCame k)), .bool (L.any (isShut k))]) ∧ Kept [] w w'

set_option maxRecDepth 100000 in
set_option maxHeartbeats 4000000 in
theorem stands_any {w : World} {lv : Value} {L : List Mark} {m : Mark} (hl : MarksIn w lv L) (hm : m.here w) : Calls Try.prog 22 #[lv, m.val] w (Stands w L m.key) := by
  obtain ⟨ao, cap, rfl⟩ := hl.row.form
  obtain ⟨mo, mc, hmv⟩ := hm.msg.data.form
  have hval : m.val = .agg #[.int .i64 m.is, .int .i64 m.host, .int .u32 m.own, .int .u32 m.peer, .int .u16 m.msg.stream, .int .u16 m.msg.ssn, .int .u32 m.msg.ppid, .bool m.msg.free, .slice mo m.msg.data.length mc, .int .i64 m.notice] := by
    unfold Mark.val; rw [hmv]
  rw [hval]
  have HL := hid hl
  have hfew := hl.few
  have HA := hid ((Kept.refl [] w).alloc (.cells #[.int .i64 m.is, .int .i64 m.host, .int .u32 m.own, .int .u32 m.peer, .int .u16 m.msg.stream, .int .u16 m.msg.ssn, .int .u32 m.msg.ppid, .bool m.msg.free, .slice mo m.msg.data.length mc, .int .i64 m.notice] 44))
  have HB := hid (blk_new w (.cells #[.int .i64 m.is, .int .i64 m.host, .int .u32 m.own, .int .u32 m.peer, .int .u16 m.msg.stream, .int .u16 m.msg.ssn, .int .u32 m.msg.ppid, .bool m.msg.free, .slice mo m.msg.data.length mc, .int .i64 m.notice] 44))
  have HP := hid (show ∀ a b c w', a = L.any (isEnd m.key) → b = L.any (isCame m.key) → c = L.any (isShut m.key) → Kept [] w w' → Stands w L m.key (.returned (.tuple #[.bool a, .bool b, .bool c])) w' from fun a b c w' h1 h2 h3 hk => ⟨by rw [h1, h2, h3], hk⟩)
  have HOF := hid (show ∀ (x : Mark) (xo : Option Addr) (xc : Nat), x.msg.dv = .slice xo x.msg.data.length xc → ∀ W, Calls Try.prog 16 #[.agg #[.int .i64 x.is, .int .i64 x.host, .int .u32 x.own, .int .u32 x.peer, .int .u16 x.msg.stream, .int .u16 x.msg.ssn, .int .u32 x.msg.ppid, .bool x.msg.free, .slice xo x.msg.data.length xc, .int .i64 x.notice], .int .i64 m.host, .int .u32 m.own, .int .u32 m.peer] W (Ofs W x m.key) from fun x xo xc h W => by
    have q := of_any W x m.key
    unfold Mark.val at q
    rw [h] at q
    exact q)
  generalize Stands w L m.key = Post at *
  clear hl hm hmv hval
  go_enter Try.func22, Try.ntmps22
  go_wp2_with fail
  go_loopw [7, 8, 9, 10] (fun e c s i wr => ∃ j : Nat, j ≤ L.length ∧ i = .int .i64 j ∧ e = .bool ((L.take j).any (isEnd m.key)) ∧ c = .bool ((L.take j).any (isCame m.key)) ∧ s = .bool ((L.take j).any (isShut m.key)) ∧ Kept [] (w.alloc (.cells #[.int .i64 m.is, .int .i64 m.host, .int .u32 m.own, .int .u32 m.peer, .int .u16 m.msg.stream, .int .u16 m.msg.ssn, .int .u32 m.msg.ppid, .bool m.msg.free, .slice mo m.msg.data.length mc, .int .i64 m.notice] 44)) wr) (fun _ _ _ i _ => L.length - (intOf i).toNat)
  case atStart => exact ⟨0, Nat.zero_le _, rfl, rfl, rfl, rfl, Kept.refl [] _⟩
  case round =>
    obtain ⟨j, hj, rfl, rfl, rfl, rfl, hkr⟩ := hrel
    have HK := hid hkr
    have HLr := hid (HL.out.kept (HA.out.tr hkr))
    have hbb := hkr.blk HB.out (by simp)
    have k1 := blk_cell hbb 1
    have k2 := blk_cell hbb 2
    have k3 := blk_cell hbb 3
    have hbl := lt_of_block hbb
    simp only [List.getElem?_toArray, List.getElem?_cons_zero, List.getElem?_cons_succ] at k1 k2 k3
    clear hkr hbb
    by_cases hlt : j < L.length
    · obtain ⟨b, off, hao, hb, hcell⟩ := HLr.out.cells hlt
      subst hao
      have HM := hid (HL.out.here _ (List.getElem_mem hlt))
      have HS1 := hid (any_step (isEnd m.key) hlt)
      have HS2 := hid (any_step (isCame m.key) hlt)
      have HS3 := hid (any_step (isShut m.key) hlt)
      have hwk : IntKind.i64.wrap ((j : Int) + 1) = (j : Int) + 1 := IntWalk.i64_in _ (by omega)
      generalize L[j] = x at *
      obtain ⟨xo, xc, hmv⟩ := HM.out.msg.data.form
      have HMV := hid hmv
      have c0 := hcell 0 (by omega)
      have c1 := hcell 1 (by omega)
      have c2 := hcell 2 (by omega)
      have c3 := hcell 3 (by omega)
      have c4 := hcell 4 (by omega)
      have c5 := hcell 5 (by omega)
      have c6 := hcell 6 (by omega)
      have c7 := hcell 7 (by omega)
      have c8 := hcell 8 (by omega)
      have c9 := hcell 9 (by omega)
      simp only [Mark.cells, hmv, List.getElem?_cons_zero, List.getElem?_cons_succ, Nat.add_zero, ← Nat.add_assoc] at c0 c1 c2 c3 c4 c5 c6 c7 c8 c9
      have HSK := hid (show ∀ v, Kept [] wr v → v.cell? ⟨b, off + j * 10, none⟩ = some (.int .i64 x.is) ∧ v.cell? ⟨b, off + j * 10 + 1, none⟩ = some (.int .i64 x.host) ∧ v.cell? ⟨b, off + j * 10 + 2, none⟩ = some (.int .u32 x.own) ∧ v.cell? ⟨b, off + j * 10 + 3, none⟩ = some (.int .u32 x.peer) ∧ v.cell? ⟨b, off + j * 10 + 4, none⟩ = some (.int .u16 x.msg.stream) ∧ v.cell? ⟨b, off + j * 10 + 5, none⟩ = some (.int .u16 x.msg.ssn) ∧ v.cell? ⟨b, off + j * 10 + 6, none⟩ = some (.int .u32 x.msg.ppid) ∧ v.cell? ⟨b, off + j * 10 + 7, none⟩ = some (.bool x.msg.free) ∧ v.cell? ⟨b, off + j * 10 + 8, none⟩ = some (.slice xo x.msg.data.length xc) ∧ v.cell? ⟨b, off + j * 10 + 9, none⟩ = some (.int .i64 x.notice) ∧ v.cell? ⟨w.heap.size, 1, none⟩ = some (.int .i64 m.host) ∧ v.cell? ⟨w.heap.size, 2, none⟩ = some (.int .u32 m.own) ∧ v.cell? ⟨w.heap.size, 3, none⟩ = some (.int .u32 m.peer) from fun v hk => ⟨hk.cell c0 (by simp), hk.cell c1 (by simp), hk.cell c2 (by simp), hk.cell c3 (by simp), hk.cell c4 (by simp), hk.cell c5 (by simp), hk.cell c6 (by simp), hk.cell c7 (by simp), hk.cell c8 (by simp), hk.cell c9 (by simp), hk.cell k1 (by simp), hk.cell k2 (by simp), hk.cell k3 (by simp)⟩)
      clear hcell hmv
      go_wp2_with fail
      clear c0 c1 c2 c3 c4 c5 c6 c7 c8 c9 k1 k2 k3
      go_region_held3 (fun v => v.cell? ⟨b, off + j * 10, none⟩ = some (.int .i64 x.is) ∧ v.cell? ⟨b, off + j * 10 + 1, none⟩ = some (.int .i64 x.host) ∧ v.cell? ⟨b, off + j * 10 + 2, none⟩ = some (.int .u32 x.own) ∧ v.cell? ⟨b, off + j * 10 + 3, none⟩ = some (.int .u32 x.peer) ∧ v.cell? ⟨b, off + j * 10 + 4, none⟩ = some (.int .u16 x.msg.stream) ∧ v.cell? ⟨b, off + j * 10 + 5, none⟩ = some (.int .u16 x.msg.ssn) ∧ v.cell? ⟨b, off + j * 10 + 6, none⟩ = some (.int .u32 x.msg.ppid) ∧ v.cell? ⟨b, off + j * 10 + 7, none⟩ = some (.bool x.msg.free) ∧ v.cell? ⟨b, off + j * 10 + 8, none⟩ = some (.slice xo x.msg.data.length xc) ∧ v.cell? ⟨b, off + j * 10 + 9, none⟩ = some (.int .i64 x.notice) ∧ v.cell? ⟨w.heap.size, 1, none⟩ = some (.int .i64 m.host) ∧ v.cell? ⟨w.heap.size, 2, none⟩ = some (.int .u32 m.own) ∧ v.cell? ⟨w.heap.size, 3, none⟩ = some (.int .u32 m.peer)) (first | (exact HSK.out _ ((Kept.refl [] _).drew)) | (exact HSK.out _ HK1.out) | assumption)
        (first | (go_at_call 16; refine (HOF.out x xo xc HMV.out _).mono ?_; rintro e w1 ⟨rfl, hk1⟩; have HK1 := hid ((((Kept.refl [] wr).drew).tr hk1)); clear hk1))
      obtain ⟨d0, d1, d2, d3, d4, d5, d6, d7, d8, d9, l1, l2, l3⟩ := HSK.out w1 HK1.out
      have HK2 := hid (HK.out.tr HK1.out)
      cases ho : x.of m.key with
      | false =>
        have s1 := HS1.out
        have s2 := HS2.out
        have s3 := HS3.out
        rw [show isEnd m.key x = false from by simp [isEnd, ho]] at s1
        rw [show isCame m.key x = false from by simp [isCame, ho]] at s2
        rw [show isShut m.key x = false from by simp [isShut, ho]] at s3
        rw [Bool.or_false] at s1
        rw [Bool.or_false] at s2
        rw [Bool.or_false] at s3
        have T1 := hid s1
        have T2 := hid s2
        have T3 := hid s3
        clear s1 s2 s3
        go_wp2_with fail
        go_roundw
        case rel => exact ⟨j + 1, by omega, by go_num, by rw [T1.out], by rw [T2.out], by rw [T3.out], HK2.out⟩
        case measure => simp [intOf]; omega
      | true =>
        by_cases h3 : x.is = 3
        · have b3 : (x.is == 3) = true := by simpa using h3
          by_cases hn : x.notice = 1
          · have bn : (x.notice == 1) = true := by simpa using hn
            have bn' : (x.notice != 1) = false := by simpa using hn
            have s1 := HS1.out
            have s2 := HS2.out
            have s3 := HS3.out
            rw [show isEnd m.key x = false from by simp [isEnd, ho, h3, hn]] at s1
            rw [show isCame m.key x = true from by simp [isCame, ho, h3, hn]] at s2
            rw [show isShut m.key x = false from by simp [isShut, ho, h3]] at s3
            rw [Bool.or_false] at s1
            rw [Bool.or_true] at s2
            rw [Bool.or_false] at s3
            have T1 := hid s1
            have T2 := hid s2
            have T3 := hid s3
            clear s1 s2 s3
            have b4 : (x.is == 4) = false := by rw [h3]; rfl
            clear hn h3
            go_wp2_with fail
            go_roundw
            case rel => exact ⟨j + 1, by omega, by go_num, by rw [T1.out], by rw [T2.out], by rw [T3.out], HK2.out⟩
            case measure => simp [intOf]; omega
          · have bn : (x.notice == 1) = false := by simpa using hn
            have bn' : (x.notice != 1) = true := by simpa using hn
            have s1 := HS1.out
            have s2 := HS2.out
            have s3 := HS3.out
            rw [show isEnd m.key x = true from by simp [isEnd, ho, h3, hn]] at s1
            rw [show isCame m.key x = false from by simp [isCame, ho, h3, hn]] at s2
            rw [show isShut m.key x = false from by simp [isShut, ho, h3]] at s3
            rw [Bool.or_true] at s1
            rw [Bool.or_false] at s2
            rw [Bool.or_false] at s3
            have T1 := hid s1
            have T2 := hid s2
            have T3 := hid s3
            clear s1 s2 s3
            have b4 : (x.is == 4) = false := by rw [h3]; rfl
            clear hn h3
            go_wp2_with fail
            go_roundw
            case rel => exact ⟨j + 1, by omega, by go_num, by rw [T1.out], by rw [T2.out], by rw [T3.out], HK2.out⟩
            case measure => simp [intOf]; omega
        · have b3 : (x.is == 3) = false := by simpa using h3
          by_cases h4 : x.is = 4
          · have b4 : (x.is == 4) = true := by simpa using h4
            have s1 := HS1.out
            have s2 := HS2.out
            have s3 := HS3.out
            rw [show isEnd m.key x = false from by simp [isEnd, ho, h4]] at s1
            rw [show isCame m.key x = false from by simp [isCame, ho, h4]] at s2
            rw [show isShut m.key x = true from by simp [isShut, ho, h4]] at s3
            rw [Bool.or_false] at s1
            rw [Bool.or_false] at s2
            rw [Bool.or_true] at s3
            have T1 := hid s1
            have T2 := hid s2
            have T3 := hid s3
            clear s1 s2 s3
            clear h3 h4
            go_wp2_with fail
            go_roundw
            case rel => exact ⟨j + 1, by omega, by go_num, by rw [T1.out], by rw [T2.out], by rw [T3.out], HK2.out⟩
            case measure => simp [intOf]; omega
          · have b4 : (x.is == 4) = false := by simpa using h4
            have s1 := HS1.out
            have s2 := HS2.out
            have s3 := HS3.out
            rw [show isEnd m.key x = false from by simp [isEnd, ho, b3]] at s1
            rw [show isCame m.key x = false from by simp [isCame, ho, b3]] at s2
            rw [show isShut m.key x = false from by simp [isShut, ho, b4]] at s3
            rw [Bool.or_false] at s1
            rw [Bool.or_false] at s2
            rw [Bool.or_false] at s3
            have T1 := hid s1
            have T2 := hid s2
            have T3 := hid s3
            clear s1 s2 s3
            clear h3 h4
            go_wp2_with fail
            go_roundw
            case rel => exact ⟨j + 1, by omega, by go_num, by rw [T1.out], by rw [T2.out], by rw [T3.out], HK2.out⟩
            case measure => simp [intOf]; omega
    · obtain rfl : j = L.length := by omega
      have e : L.take L.length = L := List.take_length
      have HZ := hid (HP.out ((L.take L.length).any (isEnd m.key)) ((L.take L.length).any (isCame m.key)) ((L.take L.length).any (isShut m.key)) wr (by rw [e]) (by rw [e]) (by rw [e]) (HA.out.tr HK.out))
      clear e
      go_wp2
      go_ret3
      exact HZ.out

end Go.Proofs.Ytepadejkeokbcaa
