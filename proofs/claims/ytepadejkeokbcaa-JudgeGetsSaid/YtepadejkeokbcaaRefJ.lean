/-
  The reference's Judge.
-/
import Derived.Test.YtepadejkeokbcaaRefO
import Derived.Test.YtepadejkeokbcaaLive
namespace Go.Proofs.Ytepadejkeokbcaa
open Go.RowKit Go.Maps

/-- The reference goes on from place i. -/
def refG (L : List Mark) : Nat → Nat → Nat × Int
  | 0, i => (i, 0)
  | n + 1, i => match L[i]? with
    | none => (i, 0)
    | some m => if oneR (L.take i) m ≠ 0 then (i, oneR (L.take i) m) else refG L n (i + 1)
def refOf (L : List Mark) : Nat × Int := refG L L.length 0

def RefJudged (w : World) (L : List Mark) (e : Ending) (w' : World) : Prop := e = .returned (.tuple #[.int .i64 (refOf L).1, .int .i64 (refOf L).2]) ∧ Kept [] w w'

set_option maxRecDepth 100000 in
set_option maxHeartbeats 4000000 in
theorem RefJudge_any {w : World} {lv : Value} {L : List Mark} (hl : MarksIn w lv L) : Calls Try.prog 11 #[lv] w (RefJudged w L) := by
  obtain ⟨ao, cap, rfl⟩ := hl.row.form
  have HL := hid hl
  have hfew := hl.few
  have HP := hid (show ∀ (n : Nat) er w', refOf L = (n, er) → Kept [] w w' → RefJudged w L (.returned (.tuple #[.int .i64 n, .int .i64 er])) w' from fun n er w' h hk => ⟨by rw [h], hk⟩)
  generalize RefJudged w L = Post at *
  clear hl
  go_enter Try.func11, Try.ntmps11
  go_wp2_with fail
  go_loopw [4] (fun i wr => ∃ j : Nat, j ≤ L.length ∧ i = .int .i64 j ∧ refG L (L.length - j) j = refOf L ∧ Kept [] w wr) (fun i _ => L.length - (intOf i).toNat)
  case atStart => exact ⟨0, Nat.zero_le _, rfl, rfl, Kept.refl [] _⟩
  case round =>
    obtain ⟨j, hj, rfl, hg, hkr⟩ := hrel
    have HG := hid hg
    have HK := hid hkr
    have HLr := hid (HL.out.kept hkr)
    clear hg hkr
    by_cases hlt : j < L.length
    · obtain ⟨b, off, hao, hb, hcell⟩ := HLr.out.cells hlt
      have hsl := slice_to HLr.out.raw (k := j) (by omega)
      subst hao
      have HSL := hid (hsl.2.few (by rw [List.length_take]; omega))
      have hs0 := hsl.1
      have HM := hid (HLr.out.here _ (List.getElem_mem hlt))
      have hg : refG L (L.length - j) j = if oneR (L.take j) L[j] ≠ 0 then (j, oneR (L.take j) L[j]) else refG L (L.length - (j + 1)) (j + 1) := by
        rw [show L.length - j = (L.length - (j + 1)) + 1 by omega, refG, List.getElem?_eq_getElem hlt]
      rw [HG.out] at hg
      have HGG := hid hg
      have hjc : (j : Int) ≤ (cap : Int) := by
        rcases HLr.out.row.2 with ⟨h0, _⟩ | ⟨b, off, cap', he, h2, _⟩
        · omega
        · cases he; omega
      have hwj : IntKind.i64.wrap ((j : Int) + 1) = (j : Int) + 1 := IntWalk.i64_in _ (by omega)
      clear hsl hg
      generalize L[j] = m at *
      obtain ⟨mo, mc, hmv⟩ := HM.out.msg.data.form
      have c0 := hcell 0 (by omega)
      have c1 := hcell 1 (by omega)
      have c2 := hcell 2 (by omega)
      have c3 := hcell 3 (by omega)
      have c4 := hcell 4 (by omega)
      have c5 := hcell 5 (by omega)
      have c6 := hcell 6 (by omega)
      have c7 := hcell 7 (by omega)
      have c8 := hcell 8 (by omega)
      have c9 := hcell 9 (by omega)
      simp only [Mark.cells, hmv, List.getElem?_cons_zero, List.getElem?_cons_succ, Nat.add_zero, ← Nat.add_assoc] at c0 c1 c2 c3 c4 c5 c6 c7 c8 c9
      have HONE := hid (show ∀ W, Kept [] wr W → Calls Try.prog 19 #[.slice (some ⟨b, off, none⟩) j cap, .agg #[.int .i64 m.is, .int .i64 m.host, .int .u32 m.own, .int .u32 m.peer, .int .u16 m.msg.stream, .int .u16 m.msg.ssn, .int .u32 m.msg.ppid, .bool m.msg.free, .slice mo m.msg.data.length mc, .int .i64 m.notice]] W (Oned W (L.take j) m) from fun W hk => by
        have h := One_any (HSL.out.kept hk) (HM.out.kept hk)
        unfold Mark.val at h
        rw [hmv] at h
        exact h)
      have HSK := hid (show ∀ v, Kept [] wr v → v.cell? ⟨b, off + j * 10, none⟩ = some (.int .i64 m.is) ∧ v.cell? ⟨b, off + j * 10 + 1, none⟩ = some (.int .i64 m.host) ∧ v.cell? ⟨b, off + j * 10 + 2, none⟩ = some (.int .u32 m.own) ∧ v.cell? ⟨b, off + j * 10 + 3, none⟩ = some (.int .u32 m.peer) ∧ v.cell? ⟨b, off + j * 10 + 4, none⟩ = some (.int .u16 m.msg.stream) ∧
        v.cell? ⟨b, off + j * 10 + 5, none⟩ = some (.int .u16 m.msg.ssn) ∧ v.cell? ⟨b, off + j * 10 + 6, none⟩ = some (.int .u32 m.msg.ppid) ∧ v.cell? ⟨b, off + j * 10 + 7, none⟩ = some (.bool m.msg.free) ∧ v.cell? ⟨b, off + j * 10 + 8, none⟩ = some (.slice mo m.msg.data.length mc) ∧ v.cell? ⟨b, off + j * 10 + 9, none⟩ = some (.int .i64 m.notice) from fun v hk =>
        ⟨hk.cell c0 (by simp), hk.cell c1 (by simp), hk.cell c2 (by simp), hk.cell c3 (by simp), hk.cell c4 (by simp), hk.cell c5 (by simp), hk.cell c6 (by simp), hk.cell c7 (by simp), hk.cell c8 (by simp), hk.cell c9 (by simp)⟩)
      clear hcell hmv c0 c1 c2 c3 c4 c5 c6 c7 c8 c9
      go_wp2_with fail
      go_region_held3 (fun v => v.cell? ⟨b, off + j * 10, none⟩ = some (.int .i64 m.is) ∧ v.cell? ⟨b, off + j * 10 + 1, none⟩ = some (.int .i64 m.host) ∧ v.cell? ⟨b, off + j * 10 + 2, none⟩ = some (.int .u32 m.own) ∧ v.cell? ⟨b, off + j * 10 + 3, none⟩ = some (.int .u32 m.peer) ∧ v.cell? ⟨b, off + j * 10 + 4, none⟩ = some (.int .u16 m.msg.stream) ∧
        v.cell? ⟨b, off + j * 10 + 5, none⟩ = some (.int .u16 m.msg.ssn) ∧ v.cell? ⟨b, off + j * 10 + 6, none⟩ = some (.int .u32 m.msg.ppid) ∧ v.cell? ⟨b, off + j * 10 + 7, none⟩ = some (.bool m.msg.free) ∧ v.cell? ⟨b, off + j * 10 + 8, none⟩ = some (.slice mo m.msg.data.length mc) ∧ v.cell? ⟨b, off + j * 10 + 9, none⟩ = some (.int .i64 m.notice))
        (first | (exact HSK.out _ ((Kept.refl [] _).drew)) | (exact HSK.out _ HK1.out) | assumption)
        (first | (go_at_call 19; refine (HONE.out _ ((Kept.refl [] wr).drew)).mono ?_; rintro e w1 ⟨rfl, hk1⟩; have HK1 := hid (((Kept.refl [] wr).drew).tr hk1); clear hk1))
      have HK2 := hid (HK.out.tr HK1.out)
      by_cases he : oneR (L.take j) m = 0
      · have hg := HGG.out
        rw [if_neg (by simp [he])] at hg
        have HG2 := hid hg.symm
        clear hg
        go_wp2
        go_roundw
        case rel => exact ⟨j + 1, by omega, by go_num, HG2.out, HK2.out⟩
        case measure => simp [intOf]; omega
      · have hg := HGG.out
        rw [if_pos he] at hg
        have be : (oneR (L.take j) m != 0) = true := by simpa using he
        have HZ := hid (HP.out _ _ w1 hg HK2.out)
        clear hg he
        go_wp2
        exact HZ.out
    · obtain rfl : j = L.length := by omega
      have hg := HG.out
      rw [Nat.sub_self, refG] at hg
      have HZ := hid (HP.out _ _ wr hg.symm HK.out)
      clear hg
      go_wp2
      exact HZ.out

end Go.Proofs.Ytepadejkeokbcaa
