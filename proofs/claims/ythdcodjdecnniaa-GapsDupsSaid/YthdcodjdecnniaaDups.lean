/-
  The law GapsDups: what it returns.
-/
import Derived.Test.YthdcodjdecnniaaPlay
import Derived.Test.YthdcodjdecnniaaLive
import Derived.Test.YthdcodjdecnniaaSets
namespace Go.Proofs.Ythdcodjdecnniaa
open Go.RowKit

/-- What a script leaves: what was taken, and each double was taken. -/
def PlayInv (first : Int) (t : T) : Prop :=
  ∃ A c, Inv first A c t ∧ ∀ d ∈ t.dups, ∃ a : Int, d = (first + a) % 4294967296 ∧ (-32768 ≤ a ∧ a ≤ 32767) ∧ (a < 0 ∨ a ∈ A)

theorem PlayInv.add {first : Int} {t : T} (h : PlayInv first t) {a : Int} (ha : -32768 ≤ a ∧ a ≤ 32767) : PlayInv first (t.add ((first + a) % 4294967296)) := by
  obtain ⟨A, c, hi, hd⟩ := h
  by_cases hk : a < 0 ∨ a ∈ A
  · refine ⟨A, c, (hi.known ha hk (by omega)).2, fun d hm => ?_⟩
    have hh := (hi.has ha).2 hk
    have e : (t.add ((first + a) % 4294967296)).dups = if t.dups.length < 16 then t.dups ++ [(first + a) % 4294967296] else t.dups := by simp [T.add, hh]
    rw [e] at hm
    split at hm
    · rcases List.mem_append.1 hm with hm | hm
      · exact hd d hm
      · rw [List.mem_singleton] at hm
        exact ⟨a, hm, ha, hk⟩
    · exact hd d hm
  · by_cases hf : 256 < a + 1 - c
    · have e : t.add ((first + a) % 4294967296) = t := (add_full (fun hh => hk ((hi.has ha).1 hh)) (by rw [hi.ahead ha]; exact hf)).1
      rw [e]; exact ⟨A, c, hi, hd⟩
    · obtain ⟨_, k, hk2⟩ := hi.taken ha hk hf
      refine ⟨a :: A, c + k, hk2, fun d hm => ?_⟩
      have e : (t.add ((first + a) % 4294967296)).dups = t.dups := (add_new (fun hh => hk ((hi.has ha).1 hh)) (by rw [hi.ahead ha]; exact hf)).2.2.1
      rw [e] at hm
      obtain ⟨b, h1, h2, h3⟩ := hd d hm
      exact ⟨b, h1, h2, h3.imp id (fun h => List.mem_cons.2 (.inr h))⟩

theorem PlayInv.told {first : Int} {t : T} (h : PlayInv first t) : PlayInv first t.told := by
  obtain ⟨A, c, hi, hd⟩ := h
  exact ⟨A, c, ⟨T.told_ok hi.ok, hi.c0, hi.cum, hi.all, hi.not, hi.far, hi.lim⟩, by simp [T.told]⟩

theorem PlayInv.plays {first : Int} (ds : List (Int × Bool)) (hd : ∀ d ∈ ds, -32768 ≤ d.1 ∧ d.1 ≤ 32767) : PlayInv first (T.plays first ds) := by
  suffices h : ∀ (l : List (Int × Bool)) (t : T), (∀ d ∈ l, -32768 ≤ d.1 ∧ d.1 ≤ 32767) → PlayInv first t → PlayInv first (l.foldl (fun t d => t.deed first d.1 d.2) t) from
    h ds _ hd ⟨[], 0, Inv.new first, by simp [T.new]⟩
  intro l
  induction l with
  | nil => intro t _ h; exact h
  | cons d l ih =>
    intro t hl h
    refine ih _ (fun e he => hl e (by simp [he])) ?_
    show PlayInv first (t.deed first d.1 d.2)
    unfold T.deed
    split
    · exact h.told
    · exact h.add (hl d (by simp))

theorem PlayInv.has {first : Int} {t : T} (h : PlayInv first t) : ∀ d ∈ t.dups, t.told.has d = true := by
  obtain ⟨A, c, hi, hd⟩ := h
  intro d hm
  obtain ⟨a, rfl, ha, hk⟩ := hd d hm
  exact (hi.has ha).2 hk

/-- Where the loop over the doubles stands. -/
def Telling (w : World) (x : Nat) (t : T) (ao : Option Addr) (ds : List Int) (k : Nat) (wr : World) : Prop :=
  Track wr x none t ∧ (0 < ds.length → ∃ g cur, ao = some ⟨g, 0, none⟩ ∧ w.heap.size ≤ g ∧ g ≠ x ∧ wr.heap[g]? = some (.cells cur 22 (0, 0)) ∧ ∀ j : Nat, k ≤ j → j < ds.length → cur[j]? = some (.int .u32 (ds.getD j 0))) ∧ Kept [] w wr

set_option maxHeartbeats 1000000 in
theorem dups_any {C : Nat → Prop} {w : World} {first : Int} {lv : Value} {ds : List (Int × Bool)} (hl : SliceIn C w 2 lv ds.length (deedsV ds)) (hd : ∀ d ∈ ds, -32768 ≤ d.1 ∧ d.1 ≤ 32767) (hf : 0 ≤ first ∧ first < 4294967296) :
    Calls Try.prog 8 #[.int .u32 first, lv] w fun e w' => e = .returned (.bool true) ∧ Kept [] w w' := by
  have HP := hid (play_any hl hf)
  have HI := hid (PlayInv.plays (first := first) (ds.take 300) (fun d hm => hd d (List.mem_of_mem_take hm)))
  clear hl hd
  generalize T.plays first (ds.take 300) = t at *
  have HH := hid HI.out.has
  go_enter Try.func8, Try.ntmps8
  go_wp2_with fail
  refine HP.out.mono ?_
  rintro e w1 ⟨x, y, rfl, o, B, p1, p2, p3, p4, p5, p6⟩
  have HP1 := hid p1
  have HP4 := hid p4
  have HK1 := hid p6
  have hfew := p1.here.ok.few
  have HU := hid p1.here.ok.dup
  clear p1 p4 p5 p6
  go_wp2_with fail
  refine (Dups_any HP1.out.here).mono ?_
  rintro e w2 ⟨dv, rfl, r1, r2, r3, hk2⟩
  have HR1 := hid (HP1.out.ref1 (hk2.mono (T := x :: o.toList) (by simp)))
  have HT2 := hid r3
  have HK2 := hid (HK1.out.trans hk2 (fun z hz => by simp at hz; subst hz; exact .inr p2))
  obtain ⟨ao, cap, rfl⟩ := (SliceIn.owned r1).form
  have HD := hid r1
  have HO := hid r2
  clear r1 r2 r3 hk2
  go_wp2_with fail
  refine (RefDups_any HR1.out).mono ?_
  rintro e w3 ⟨dw, rfl, s1, s2, hk3⟩
  obtain ⟨bo, bc, rfl⟩ := s1.form
  have HD3 := hid (ownsRow_kept HD.out hk3 (fun k e => by
    rw [HO.out] at e
    simp only [List.mem_singleton]
    intro hy; subst hy; exact HP1.out.oy e))
  have HT3 := hid (HT2.out.kept hk3 (by simpa using HP1.out.ne) (by simp))
  have HS1 := hid s1
  have HK3 := hid (HK2.out.trans hk3 (fun z hz => by simp at hz; subst hz; exact .inr p3))
  clear s1 s2 hk3
  go_wp2_with fail
  refine (Same_any (SliceIn.owned HD3.out) HS1.out (by omega)).mono ?_
  rintro e w4 ⟨rfl, hk4⟩
  have HD4 := hid (ownsRow_kept HD3.out hk4 (fun _ _ => by simp))
  have HT4 := hid (HT3.out.kept hk4 (by simp) (by simp))
  have HK4 := hid (HK3.out.tr hk4)
  have hdec : decide (t.dups = t.dups) = true := by simp
  clear hk4
  have HS := hid (show Telling w x t.told ao t.dups 0 w4 from by
    refine ⟨HT4.out, fun hpos => ?_, HK4.out⟩
    rcases HD4.out.2 with ⟨_, h0⟩ | ⟨g, gc, cur, hv, _, hb, _, _, _, htk⟩
    · omega
    · cases hv
      have ho : o = some g := HO.out.symm
      refine ⟨g, cur, rfl, HP4.out g ho, fun e => HP1.out.here.apart (by rw [ho, e]), hb, fun j _ hj => ?_⟩
      have := u32s_get hj
      rw [← htk, List.getElem?_take_of_lt (by omega)] at this
      simpa using this)
  generalize hds : t.dups = dl at *
  clear hds
  go_wp2_with fail
  go_loopw [10] (fun i wr => ∃ k : Nat, k ≤ dl.length ∧ i = .int .i64 k ∧ Telling w x t.told ao dl k wr) (fun i wr => dl.length - (intOf i).toNat)
  case atStart => exact ⟨0, Nat.zero_le _, rfl, HS.out⟩
  case round =>
    obtain ⟨k, hk, rfl, q1, q2, q3⟩ := hrel
    have HQ1 := hid q1
    have HQ3 := hid q3
    by_cases hlt : k < dl.length
    · obtain ⟨g, cur, hao, hg1, hg2, hb, hj⟩ := q2 (by omega)
      subst hao
      have HB := hid hb
      have HJ := hid hj
      have c1 := (blk_cell hb k).trans (hj k (Nat.le_refl _) hlt)
      have f1 := blk_free hb
      have hgl := lt_of_block hb
      have HU1 := hid (HU.out _ (getD_mem hlt))
      have HH1 := hid (HH.out _ (getD_mem hlt))
      clear q1 q2 q3 hb hj
      generalize hdd : dl.getD k 0 = d at *
      clear hdd
      go_wp2_with fail
      refine (Has_any HQ1.out HU1.out).mono ?_
      rintro e w5 ⟨rfl, hk5⟩
      have hb5 := hk5.blk HB.out (by simp)
      have c5 := hk5.cell c1 (by simp)
      have f5 := blk_free hb5
      have HB5 := hid hb5
      have HK5 := hid hk5
      have hh1 := HH1.out
      clear hk5 hb5 c1 f1
      go_wp2_with fail
      go_roundw
      case rel =>
        have hset := blk_set HB5.out k (.int .u32 ((d + 1) % 4294967296))
        have hkk : Kept [g] w5 (w5.setCell ⟨g, k, none⟩ (.int .u32 ((d + 1) % 4294967296))) := (Kept.refl _ _).setCell (p := ⟨g, k, none⟩) (.inl (by simp)) _
        refine ⟨k + 1, by omega, by go_num, (HQ1.out.kept HK5.out (by simp) (by simp)).kept hkk (by simp; omega) (by simp), fun _ => ⟨g, _, rfl, hg1, hg2, hset, fun j h1 h2 => ?_⟩, (HQ3.out.tr HK5.out).trans hkk (fun z hz => by simp at hz; subst hz; exact .inr hg1)⟩
        rw [Array.getElem?_setIfInBounds_ne (by omega)]
        exact HJ.out j (by omega) h2
      case measure => simp [intOf]; omega
    · clear q1 q2 q3
      go_wp2_with fail
      refine (live_any _).mono ?_
      rintro e w6 ⟨rfl, hk6⟩
      have HT6 := hid (HQ1.out.kept hk6 (by simp) (by simp))
      have HK6 := hid (HQ3.out.tr hk6)
      clear hk6
      go_wp2_with fail
      refine (Dups_any HT6.out).mono ?_
      rintro e w7 ⟨dv, rfl, r1, _, _, hk7⟩
      have HK7 := hid (HK6.out.trans hk7 (fun z hz => by simp at hz; subst hz; exact .inr p2))
      obtain ⟨eo, ec, rfl⟩ := (SliceIn.owned r1).form
      have hz : t.told.dups.length = 0 := rfl
      clear hk7 r1
      go_wp2
      go_ret
      exact ⟨rfl, HK7.out⟩

end Go.Proofs.Ythdcodjdecnniaa
