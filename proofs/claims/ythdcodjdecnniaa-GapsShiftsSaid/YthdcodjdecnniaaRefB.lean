/-
  The reference's Add.
-/
import Derived.Test.YthdcodjdecnniaaRefA
namespace Go.Proofs.Ythdcodjdecnniaa
open Go.RowKit

theorem info3 : (Try.prog.info? 3).map (fun i => (i.zero, i.size, i.bytes)) = some (some (.int .i64 0), 1, 8) := by kernel_rfl

def RefAdded (B : Nat → Prop) (w : World) (y : Nat) (t : T) (n : Int) (e : Ending) (w' : World) : Prop :=
  e = .returned (.int .i64 (t.addE n)) ∧ RefTo B w y (t.add n) w'

theorem owned_low {w : World} {b c : Nat} {e : TypeId} {size n : Nat} {v : Value} {xs : List Value} (h : w.ownsRow b e size v n xs) (hc : c ≤ b) : SliceIn (fun k => c ≤ k ∧ k < w.heap.size) w size v n xs := by
  have := SliceIn.owned h
  refine ⟨this.1, ?_⟩
  rcases this.2 with h | ⟨b', off, cap, h1, h2, h3, h4, h5⟩
  · exact .inl h
  · exact .inr ⟨b', off, cap, h1, h2, ⟨Nat.le_trans hc h3, h4⟩, h4, h5⟩

/-- The reference's tracker after a slice of its own was laid anew. -/
theorem ref_far {B : Nat → Prop} {w w' : World} {y : Nat} {t t' : T} {vd v' : Value} {c : Int} (h : Ref B w y t) (hok : t'.ok) (hk : Kept [y] w w')
    (hb : w'.heap[y]? = some (.cells #[.int .u32 c, v', vd] 71 (0, 0))) (hc : t'.cum = c) (hd : SliceIn B w 1 vd t'.dups.length (u32s t'.dups))
    (hv : SliceIn (fun k => w.heap.size ≤ k ∧ k < w'.heap.size) w' 1 v' t'.far.length (i64s t'.far)) : RefTo B w y t' w' := by
  have hS : ∀ b, B b → b ∉ [y] := fun b hB hm => by simp at hm; subst hm; exact h.apart hB
  refine ⟨fun k => B k ∨ (w.heap.size ≤ k ∧ k < w'.heap.size), ⟨hok, ?_, ?_, v', vd, by rw [hc]; exact hb, hv.mono (fun _ _ h => .inr h), (hd.kept hk (fun b _ hb => hS b hb)).mono (fun _ _ h => .inl h)⟩, fun b hb => hb.imp id And.left, hk⟩
  · rintro (h1 | ⟨h1, _⟩)
    · exact h.apart h1
    · have := h.lt; omega
  · rintro b (h1 | ⟨_, h1⟩)
    · exact Nat.lt_of_lt_of_le (h.low b h1) hk.size
    · exact h1
theorem ref_dups {B : Nat → Prop} {w w' : World} {y : Nat} {t t' : T} {vf v' : Value} {c : Int} (h : Ref B w y t) (hok : t'.ok) (hk : Kept [y] w w')
    (hb : w'.heap[y]? = some (.cells #[.int .u32 c, vf, v'] 71 (0, 0))) (hc : t'.cum = c) (hd : SliceIn B w 1 vf t'.far.length (i64s t'.far))
    (hv : SliceIn (fun k => w.heap.size ≤ k ∧ k < w'.heap.size) w' 1 v' t'.dups.length (u32s t'.dups)) : RefTo B w y t' w' := by
  have hS : ∀ b, B b → b ∉ [y] := fun b hB hm => by simp at hm; subst hm; exact h.apart hB
  refine ⟨fun k => B k ∨ (w.heap.size ≤ k ∧ k < w'.heap.size), ⟨hok, ?_, ?_, vf, v', by rw [hc]; exact hb, (hd.kept hk (fun b _ hb => hS b hb)).mono (fun _ _ h => .inl h), hv.mono (fun _ _ h => .inr h)⟩, fun b hb => hb.imp id And.left, hk⟩
  · rintro (h1 | ⟨h1, _⟩)
    · exact h.apart h1
    · have := h.lt; omega
  · rintro b (h1 | ⟨_, h1⟩)
    · exact Nat.lt_of_lt_of_le (h.low b h1) hk.size
    · exact h1

theorem ref_same {B : Nat → Prop} {w w' : World} {y : Nat} {t : T} (h : Ref B w y t) (hk : Kept [] w w') : RefTo B w y t w' :=
  ⟨B, h.kept0 hk, fun _ hb => .inl hb, hk.mono (by simp)⟩

set_option maxHeartbeats 1000000 in
theorem RefAdd_known {B : Nat → Prop} {w : World} {y : Nat} {t : T} (h : Ref B w y t) {n : Int} (hn : 0 ≤ n ∧ n < 4294967296) (hh : t.has n = true) :
    Calls Try.prog 35 #[.pointer (some ⟨y, 0, none⟩), .int .u32 n] w (RefAdded B w y t n) := by
  have HA := hid (RefAhead_any 32 t.cum n w ⟨h.ok.cum0, h.ok.cum1⟩ hn)
  have hw := wrong32 [t.cum, n]
  have HR := hid h
  have HN := hid hn
  have HH := hid hh
  have hfew := h.ok.few
  have hyl := h.lt
  obtain ⟨i0, hi, hz0, hz1, hz2⟩ := info_parts info22
  obtain ⟨vf, vd, g1, g2, g3⟩ := h.blk
  have c0 := blk_cell g1 0
  simp at c0
  have HG1 := hid g1
  have HG2 := hid g2
  have HG3 := hid g3
  obtain ⟨ao, cap, rfl⟩ := g3.form
  clear h hn g1 g2 g3
  go_enter Try.func35, Try.ntmps35
  go_wp2_with fail
  refine HA.out.mono ?_
  rintro e w1 ⟨rfl, hk1⟩
  have HR1 := hid (HR.out.kept0 hk1)
  have HK1 := hid hk1
  clear hk1 c0
  go_wp2_with fail
  refine (RefHas_any HR1.out HN.out).mono ?_
  rintro e w2 ⟨rfl, hk2⟩
  have HK := hid (HK1.out.tr hk2)
  have hsz := (HK1.out.tr hk2).size
  clear hk2
  have HG1 := hid (HK.out.blk HG1.out (by simp))
  have HG3 := hid (HG3.out.kept HK.out (fun _ _ _ => by simp))
  have c2 := blk_cell HG1.out 2
  simp at c2
  by_cases hl : t.dups.length < 16
  · have k1 := (Kept.refl [] w2).alloc (.cells #[] 22)
    have hyl2 : y < w2.heap.size := by omega
    go_wp2_with (at_builtin; refine wpList_append_in _ rfl (.tmp 33) (.tmp 37) 49 rfl w2.heap.size 22 i0 (.int .u32 0) 1 4 Try.underlying49 hi hz0 hz1 hz2 rfl (by decide) _ 0 [] rfl (World.ownsRow_made w2 #[] 0 (Nat.le_refl _) (Nat.zero_le _) rfl) B _ t.dups.length (u32s t.dups) rfl (HG3.out.kept k1 (fun _ _ _ => by simp)) (u32s_one _) (by unfold maxLen; omega) (by omega) (by simp) ?_)
    intro v1 w3 hown1 hgrow1 _
    have k2 := k1.grown hgrow1 (fun k h => by cases h; exact .inr (Nat.le_refl _))
    have HK2 := hid k2
    have hown1' : w3.ownsRow w2.heap.size 22 1 v1 t.dups.length (u32s t.dups) := by simpa using hown1
    have HO1 := hid hown1'
    have hb3 := k2.blk HG1.out (by simp)
    have hyl3 := lt_of_block hb3
    have hs3 := k2.size
    clear hown1 hgrow1 k1 k2 hown1'
    go_wp2_with (at_builtin; refine wpList_append_in _ rfl (.tmp 38) (.tmp 40) 49 rfl w2.heap.size 22 i0 (.int .u32 0) 1 4 Try.underlying49 hi hz0 hz1 hz2 rfl (by decide) _ _ _ rfl (HO1.out.alloc _) (fun _ => True) _ 1 (u32s [n]) rfl ((one_in w3 n 22).mono (fun _ _ _ => trivial)) (u32s_one _) (by unfold maxLen; omega) (by omega) (by simp; omega) ?_)
    intro v2 w4 hown2 hgrow2 _
    have k4 := ((HK2.out.alloc (.cells #[.int .u32 n] 22))).grown hgrow2 (fun k h => .inr ((HO1.out.lt k h).1))
    have hb4 := k4.blk HG1.out (by simp)
    have HF := hid (show RefAdded B w y t n (.returned (.int .i64 17)) (w4.setCell ⟨y, 2, none⟩ v2) from by
      have hk5 : Kept [y] w (w4.setCell ⟨y, 2, none⟩ v2) := ((HK.out.tr k4).mono (T := [y]) (by simp)).setCell (.inl (by simp)) _
      refine ⟨by simp [T.addE, HH.out], ref_dups HR.out (T.add_ok HR.out.ok HN.out) hk5 (blk_set hb4 2 _) (by simp [T.add, HH.out]) ?_ ?_⟩
      · have e : (t.add n).far = t.far := by simp [T.add, HH.out]
        rw [e]; exact HG2.out
      · have e : (t.add n).dups = t.dups ++ [n] := by simp [T.add, HH.out, hl]
        rw [e]
        have := owned_low (c := w.heap.size) (ownsRow_kept hown2 (S := [y]) ((Kept.refl [y] w4).setCell (p := ⟨y, 2, none⟩) (.inl (by simp)) v2) (fun k hk => by
          have := (hown2.lt k hk).1
          simp; omega)) (by omega)
        simpa [u32s] using this)
    have c4 := blk_cell hb4 2
    have f4 := blk_free hb4
    simp at c4
    obtain ⟨g', cap', rfl⟩ := (SliceIn.owned hown2).form
    clear hown2 hgrow2 k4 hb4
    go_wp2
    go_ret
    exact HF.out
  · have HF := hid (show RefAdded B w y t n (.returned (.int .i64 17)) w2 from
      ⟨by simp [T.addE, HH.out], by
        have e : t.add n = t := by simp [T.add, HH.out, hl]
        rw [e]; exact ref_same HR.out HK.out⟩)
    go_wp2
    go_ret
    exact HF.out

end Go.Proofs.Ythdcodjdecnniaa
