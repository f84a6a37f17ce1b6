/-
  The law GapsForks: what it returns.
-/
import Derived.Test.YthdcodjdecnniaaFork
namespace Go.Proofs.Ythdcodjdecnniaa
open Go.RowKit

def RefForked (B : Nat → Prop) (w : World) (t : T) (e : Ending) (w' : World) : Prop := e = .returned (.pointer (some ⟨w.heap.size, 0, none⟩)) ∧ Ref B w' w.heap.size t ∧ Kept [] w w'

set_option maxHeartbeats 400000 in
theorem RefFork_any {B : Nat → Prop} {w : World} {y : Nat} {t : T} (h : Ref B w y t) : Calls Try.prog 25 #[.pointer (some ⟨y, 0, none⟩)] w (RefForked B w t) := by
  obtain ⟨vf, vd, g1, g2, g3⟩ := h.blk
  obtain ⟨fo, fc, rfl⟩ := g2.form
  obtain ⟨bo, bc, rfl⟩ := g3.form
  have c0 := blk_cell g1 0
  have c1 := blk_cell g1 1
  have c2 := blk_cell g1 2
  simp at c0 c1 c2
  have hyl := lt_of_block g1
  have HX := hid (fun (w' : World) (hk : Kept [] w w') (hb : w'.heap[w.heap.size]? = some (.cells #[.int .u32 t.cum, .slice fo t.far.length fc, .slice bo t.dups.length bc] 71 (0, 0))) => show RefForked B w t (.returned (.pointer (some ⟨w.heap.size, 0, none⟩))) w' from
    ⟨rfl, ⟨h.ok, fun hB => by have := h.low _ hB; omega, fun b hB => Nat.lt_of_lt_of_le (h.low b hB) hk.size, _, _, hb, g2.kept hk (fun _ _ _ => by simp), g3.kept hk (fun _ _ _ => by simp)⟩, hk⟩)
  clear g1 g2 g3
  go_enter Try.func25, Try.ntmps25
  go_wp2
  go_ret
  exact HX.out _ ((Kept.refl [] w).alloc _) (blk_new w _)

/-- The forks, made since w1; what else lay there lies as it lay. -/
def Forking (B : Nat → Prop) (w1 : World) (f g : Nat) (t : T) (wr : World) : Prop :=
  ∃ o' B', Pair B' wr f g o' t ∧ w1.heap.size ≤ f ∧ w1.heap.size ≤ g ∧ (∀ k, o' = some k → w1.heap.size ≤ k) ∧ (∀ b, B' b → B b ∨ w1.heap.size ≤ b) ∧ Kept [] w1 wr

theorem Forking.done {B B' : Nat → Prop} {w1 wr w2 : World} {f g : Nat} {t' : T} {o' : Option Nat} {e : Ending} (hf : w1.heap.size ≤ f) (hg : w1.heap.size ≤ g) (ho : ∀ k, o' = some k → w1.heap.size ≤ k) (hB : ∀ b, B' b → B b ∨ w1.heap.size ≤ b) (hk : Kept [] w1 wr)
    (h : Done B' wr f g o' t' e w2) : e = .returned (.bool true) ∧ Forking B w1 f g t' w2 := by
  obtain ⟨he, o2, B2, h1, h2, h3, h4⟩ := h
  refine ⟨he, o2, B2, h1, hf, hg, fun k hk' => ?_, fun b hb => ?_, hk.trans h2 (fun z hz => ?_)⟩
  · rcases h3 k hk' with h | h
    · exact ho k h
    · exact Nat.le_trans hk.size h
  · rcases h4 b hb with h | h
    · exact hB b h
    · exact .inr (Nat.le_trans hk.size h)
  · simp at hz
    rcases hz with rfl | rfl | hz
    · exact .inr hf
    · exact .inr hg
    · exact .inr (ho z hz)

def T.goesOn (first : Int) (t : T) (ds : List (Int × Bool)) : T := ds.foldl (fun t d => t.deed first d.1 d.2) t
theorem T.goesOn_snoc (first : Int) (t : T) (ds : List (Int × Bool)) (d : Int × Bool) : T.goesOn first t (ds ++ [d]) = (T.goesOn first t ds).deed first d.1 d.2 := by simp [T.goesOn]

theorem Pair.keptS {B : Nat → Prop} {w w' : World} {x y : Nat} {o : Option Nat} {t : T} {S : List Nat} (h : Pair B w x y o t) (hk : Kept S w w') (hx : x ∉ S) (hy : y ∉ S) (ho : ∀ k, o = some k → k ∉ S) (hB : ∀ b, B b → b ∉ S) : Pair B w' x y o t :=
  ⟨h.here.kept hk hx ho, h.there.kept hk hy hB, h.ne, h.xB, h.oy, h.oB⟩

set_option maxRecDepth 100000 in
set_option maxHeartbeats 2000000 in
theorem forks_any {C D : Nat → Prop} {w : World} {first : Int} {lv mv : Value} {ds ms : List (Int × Bool)} (hl : SliceIn C w 2 lv ds.length (deedsV ds)) (hm : SliceIn D w 2 mv ms.length (deedsV ms)) (hf : 0 ≤ first ∧ first < 4294967296) :
    Calls Try.prog 9 #[.int .u32 first, lv, mv] w fun e w' => e = .returned (.bool true) ∧ Kept [] w w' := by
  have HP := hid (play_any hl hf)
  have HM := hid hm
  obtain ⟨mo, mc, rfl⟩ := hm.form
  clear hl hm
  generalize T.plays first (ds.take 300) = t at *
  go_enter Try.func9, Try.ntmps9
  go_wp2_with fail
  refine HP.out.mono ?_
  rintro e w1 ⟨x, y, rfl, o, B, p1, p2, p3, p4, p5, p6⟩
  have HP1 := hid p1
  have HP4 := hid p4
  have HK1 := hid p6
  have hfew := p1.here.ok.few
  clear p1 p4 p5 p6
  go_wp2_with fail
  refine (Fork_any HP1.out.here).mono ?_
  rintro e w2 ⟨of, rfl, ht2, hof, hk2⟩
  have HP2 := hid (HP1.out.kept0 hk2)
  have HT2 := hid ht2
  have HOF := hid hof
  have HK2 := hid hk2
  clear ht2 hof hk2
  go_wp2_with fail
  refine (RefFork_any HP2.out.there).mono ?_
  rintro e w3 ⟨rfl, hr3, hk3⟩
  have HS0 := hid (show Forking B w1 w1.heap.size w2.heap.size (T.goesOn first t (ms.take 0)) w3 from by
    have hl1 := HT2.out.lt
    refine ⟨of, B, ⟨HT2.out.kept hk3 (by simp) (by simp), hr3, by omega, fun hB => by have := HP1.out.there.low _ hB; omega, fun e => by have := HT2.out.own _ e; omega, fun k hk hB => by
      have := HOF.out k hk; have := HP1.out.there.low _ hB; omega⟩, Nat.le_refl _, HK2.out.size, HOF.out, fun b hb => .inl hb, HK2.out.tr hk3⟩)
  generalize hff : w1.heap.size = f at *
  generalize hgg : w2.heap.size = g at *
  clear hr3 hk3 hgg
  go_wp2_with fail
  go_loopw [12] (fun i wr => ∃ k : Nat, k ≤ ms.length ∧ k ≤ 300 ∧ i = .int .i64 k ∧ Forking B w1 f g (T.goesOn first t (ms.take k)) wr) (fun i wr => 300 - (intOf i).toNat)
  case atStart => exact ⟨0, Nat.zero_le _, by omega, rfl, HS0.out⟩
  case round =>
    obtain ⟨k, hk, hk300, rfl, o', B', q1, q2, q3, q4, q5, q6⟩ := hrel
    have HQ1 := hid q1
    have HQ2 := hid q2
    have HQ3 := hid q3
    have HQ4 := hid q4
    have HQ5 := hid q5
    have HQ6 := hid q6
    clear q1 q2 q3 q4 q5 q6
    by_cases hgo : k < ms.length ∧ k < 300
    · obtain ⟨hlt, hlt3⟩ := hgo
      have b3 : decide ((k : Int) < 300) = true := decide_eq_true (by omega)
      obtain ⟨b, off, hao, _, _, _, hc⟩ := ((HM.out.kept HK1.out (fun _ _ _ => by simp)).kept HQ6.out (fun _ _ _ => by simp)).rows (by omega)
      subst hao
      obtain ⟨g0, g1⟩ := deeds_get hlt
      have c1 := hc _ _ g0
      have c1' := hc _ _ g1
      rw [Nat.mul_comm 2 k] at c1 c1'
      have eo1 : off + (k * 2 + 1) = off + k * 2 + 1 := by omega
      rw [eo1] at c1'
      have HDD := hid (show T.goesOn first t (ms.take (k + 1)) = (T.goesOn first t (ms.take k)).deed first ms[k].1 ms[k].2 from by
        rw [List.take_succ_eq_append_getElem hlt, T.goesOn_snoc])
      clear hc g0 g1 eo1
      generalize ms[k].1 = db at *
      generalize ms[k].2 = da at *
      go_wp2_with fail
      refine (do_any HQ1.out).mono ?_
      intro e w4 hdone
      obtain ⟨rfl, hfr4⟩ := Forking.done HQ2.out HQ3.out HQ4.out HQ5.out HQ6.out hdone
      have HF4 := hid hfr4
      clear hdone hfr4
      go_wp2
      go_roundw
      case rel => exact ⟨k + 1, by omega, by omega, by go_num, by rw [HDD.out]; exact HF4.out⟩
      case measure => simp [intOf]; omega
    · by_cases hlt : k < ms.length
      · have b3 : decide ((k : Int) < 300) = false := decide_eq_false (by omega)
        have HX := hid (HP1.out.kept0 HQ6.out)
        have HTT := hid HQ1.out.here.ok
        have hx1 := HP1.out.here.lt
        have hy1 := HP1.out.there.lt
        have HNB := hid (show (¬ B' x) ∧ ¬ B' y from ⟨fun h => (HQ5.out x h).elim HP1.out.xB (fun h => by omega), fun h => (HQ5.out y h).elim HP1.out.there.apart (fun h => by omega)⟩)
        have hfx : f ≠ x ∧ f ≠ y ∧ g ≠ x ∧ g ≠ y := by have := HQ2.out; have := HQ3.out; omega
        have HFX := hid hfx
        have hfew2 := HQ1.out.here.ok.few
        generalize T.goesOn first t (ms.take k) = t2 at *
        clear hfx
        go_wp2_with fail
        refine (live_any _).mono ?_
        rintro e w5 ⟨rfl, hk5⟩
        have HX := hid (HX.out.kept0 hk5)
        have HQ := hid (HQ1.out.kept0 hk5)
        have HK := hid ((HK1.out.tr HQ6.out).tr hk5)
        clear hk5
        go_wp2_with fail
        refine (same_any HX.out hf).mono ?_
        rintro e w6 ⟨rfl, hk6⟩
        have HX := hid (HX.out.kept0 hk6)
        have HQ := hid (HQ.out.kept0 hk6)
        have HK := hid (HK.out.tr hk6)
        clear hk6
        go_wp2_with fail
        refine (Dups_any HX.out.here).mono ?_
        rintro e w7 ⟨dv, rfl, r1, r2, r3, hk7⟩
        have HR1 := hid (HX.out.ref1 (hk7.mono (T := x :: o.toList) (by simp)))
        have HQ := hid (HQ.out.keptS hk7 (by simpa using HFX.out.1) (by simpa using HFX.out.2.2.1) (fun k hk => by have := HQ4.out k hk; simp; omega) (fun b hb => by simp; intro e; subst e; exact HNB.out.1 hb))
        have HK := hid (HK.out.trans hk7 (fun z hz => by simp at hz; subst hz; exact .inr p2))
        obtain ⟨ao, cap, rfl⟩ := (SliceIn.owned r1).form
        have HD := hid r1
        have HO := hid r2
        clear r1 r2 r3 hk7
        go_wp2_with fail
        refine (RefDups_any HR1.out).mono ?_
        rintro e w8 ⟨dw, rfl, s1, s2, hk8⟩
        obtain ⟨bo, bc, rfl⟩ := s1.form
        have HD3 := hid (SliceIn.owned (ownsRow_kept HD.out hk8 (fun k e => by
          rw [HO.out] at e
          simp only [List.mem_singleton]
          intro hy; subst hy; exact HX.out.oy e)))
        have HS1 := hid s1
        have HQ := hid (HQ.out.keptS hk8 (by simpa using HFX.out.2.1) (by simpa using HFX.out.2.2.2) (fun k hk => by have := HQ4.out k hk; simp; omega) (fun b hb => by simp; intro e; subst e; exact HNB.out.2 hb))
        have HK := hid (HK.out.trans hk8 (fun z hz => by simp at hz; subst hz; exact .inr p3))
        clear s1 s2 hk8
        go_wp2_with fail
        refine (Same_any HD3.out HS1.out (by omega)).mono ?_
        rintro e w9 ⟨rfl, hk9⟩
        have HQ := hid (HQ.out.kept0 hk9)
        have HK := hid (HK.out.tr hk9)
        have hdec : decide (t.dups = t.dups) = true := by simp
        clear hk9
        go_wp2_with fail
        refine (Dups_any HQ.out.here).mono ?_
        rintro e wa ⟨dv, rfl, r1, r2, r3, hka⟩
        have HR2 := hid (HQ.out.ref1 (hka.mono (T := f :: o'.toList) (by simp)))
        have hwf : w.heap.size ≤ f ∧ w.heap.size ≤ g := by have := HK1.out.size; have := HQ2.out; have := HQ3.out; omega
        have HK := hid (HK.out.trans hka (fun z hz => by simp at hz; subst hz; exact .inr hwf.1))
        obtain ⟨ao2, cap2, rfl⟩ := (SliceIn.owned r1).form
        have HD := hid r1
        have HO := hid r2
        clear r1 r2 r3 hka
        go_wp2_with fail
        refine (RefDups_any HR2.out).mono ?_
        rintro e wb ⟨dw, rfl, s1, s2, hkb⟩
        obtain ⟨bo2, bc2, rfl⟩ := s1.form
        have HD3 := hid (SliceIn.owned (ownsRow_kept HD.out hkb (fun k e => by
          rw [HO.out] at e
          simp only [List.mem_singleton]
          intro hy; subst hy; exact HQ.out.oy e)))
        have HS1 := hid s1
        have HK := hid (HK.out.trans hkb (fun z hz => by simp at hz; subst hz; exact .inr hwf.2))
        clear s1 s2 hkb
        go_wp2_with fail
        refine (Same_any HD3.out HS1.out (by omega)).mono ?_
        rintro e wc ⟨rfl, hkc⟩
        have HK := hid (HK.out.tr hkc)
        have hdec2 : decide (t2.dups = t2.dups) = true := by simp
        clear hkc
        go_wp2
        go_ret
        exact ⟨rfl, HK.out⟩
      · have b3 : decide ((k : Int) < (ms.length : Int)) = false := decide_eq_false (by omega)
        have HX := hid (HP1.out.kept0 HQ6.out)
        have HTT := hid HQ1.out.here.ok
        have hx1 := HP1.out.here.lt
        have hy1 := HP1.out.there.lt
        have HNB := hid (show (¬ B' x) ∧ ¬ B' y from ⟨fun h => (HQ5.out x h).elim HP1.out.xB (fun h => by omega), fun h => (HQ5.out y h).elim HP1.out.there.apart (fun h => by omega)⟩)
        have hfx : f ≠ x ∧ f ≠ y ∧ g ≠ x ∧ g ≠ y := by have := HQ2.out; have := HQ3.out; omega
        have HFX := hid hfx
        have hfew2 := HQ1.out.here.ok.few
        generalize T.goesOn first t (ms.take k) = t2 at *
        clear hfx
        go_wp2_with fail
        refine (live_any _).mono ?_
        rintro e w5 ⟨rfl, hk5⟩
        have HX := hid (HX.out.kept0 hk5)
        have HQ := hid (HQ1.out.kept0 hk5)
        have HK := hid ((HK1.out.tr HQ6.out).tr hk5)
        clear hk5
        go_wp2_with fail
        refine (same_any HX.out hf).mono ?_
        rintro e w6 ⟨rfl, hk6⟩
        have HX := hid (HX.out.kept0 hk6)
        have HQ := hid (HQ.out.kept0 hk6)
        have HK := hid (HK.out.tr hk6)
        clear hk6
        go_wp2_with fail
        refine (Dups_any HX.out.here).mono ?_
        rintro e w7 ⟨dv, rfl, r1, r2, r3, hk7⟩
        have HR1 := hid (HX.out.ref1 (hk7.mono (T := x :: o.toList) (by simp)))
        have HQ := hid (HQ.out.keptS hk7 (by simpa using HFX.out.1) (by simpa using HFX.out.2.2.1) (fun k hk => by have := HQ4.out k hk; simp; omega) (fun b hb => by simp; intro e; subst e; exact HNB.out.1 hb))
        have HK := hid (HK.out.trans hk7 (fun z hz => by simp at hz; subst hz; exact .inr p2))
        obtain ⟨ao, cap, rfl⟩ := (SliceIn.owned r1).form
        have HD := hid r1
        have HO := hid r2
        clear r1 r2 r3 hk7
        go_wp2_with fail
        refine (RefDups_any HR1.out).mono ?_
        rintro e w8 ⟨dw, rfl, s1, s2, hk8⟩
        obtain ⟨bo, bc, rfl⟩ := s1.form
        have HD3 := hid (SliceIn.owned (ownsRow_kept HD.out hk8 (fun k e => by
          rw [HO.out] at e
          simp only [List.mem_singleton]
          intro hy; subst hy; exact HX.out.oy e)))
        have HS1 := hid s1
        have HQ := hid (HQ.out.keptS hk8 (by simpa using HFX.out.2.1) (by simpa using HFX.out.2.2.2) (fun k hk => by have := HQ4.out k hk; simp; omega) (fun b hb => by simp; intro e; subst e; exact HNB.out.2 hb))
        have HK := hid (HK.out.trans hk8 (fun z hz => by simp at hz; subst hz; exact .inr p3))
        clear s1 s2 hk8
        go_wp2_with fail
        refine (Same_any HD3.out HS1.out (by omega)).mono ?_
        rintro e w9 ⟨rfl, hk9⟩
        have HQ := hid (HQ.out.kept0 hk9)
        have HK := hid (HK.out.tr hk9)
        have hdec : decide (t.dups = t.dups) = true := by simp
        clear hk9
        go_wp2_with fail
        refine (Dups_any HQ.out.here).mono ?_
        rintro e wa ⟨dv, rfl, r1, r2, r3, hka⟩
        have HR2 := hid (HQ.out.ref1 (hka.mono (T := f :: o'.toList) (by simp)))
        have hwf : w.heap.size ≤ f ∧ w.heap.size ≤ g := by have := HK1.out.size; have := HQ2.out; have := HQ3.out; omega
        have HK := hid (HK.out.trans hka (fun z hz => by simp at hz; subst hz; exact .inr hwf.1))
        obtain ⟨ao2, cap2, rfl⟩ := (SliceIn.owned r1).form
        have HD := hid r1
        have HO := hid r2
        clear r1 r2 r3 hka
        go_wp2_with fail
        refine (RefDups_any HR2.out).mono ?_
        rintro e wb ⟨dw, rfl, s1, s2, hkb⟩
        obtain ⟨bo2, bc2, rfl⟩ := s1.form
        have HD3 := hid (SliceIn.owned (ownsRow_kept HD.out hkb (fun k e => by
          rw [HO.out] at e
          simp only [List.mem_singleton]
          intro hy; subst hy; exact HQ.out.oy e)))
        have HS1 := hid s1
        have HK := hid (HK.out.trans hkb (fun z hz => by simp at hz; subst hz; exact .inr hwf.2))
        clear s1 s2 hkb
        go_wp2_with fail
        refine (Same_any HD3.out HS1.out (by omega)).mono ?_
        rintro e wc ⟨rfl, hkc⟩
        have HK := hid (HK.out.tr hkc)
        have hdec2 : decide (t2.dups = t2.dups) = true := by simp
        clear hkc
        go_wp2
        go_ret
        exact ⟨rfl, HK.out⟩

end Go.Proofs.Ythdcodjdecnniaa
