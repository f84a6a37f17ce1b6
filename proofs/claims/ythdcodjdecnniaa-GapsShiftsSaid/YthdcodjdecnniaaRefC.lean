/-
  The reference's Add: a number that is new.
-/
import Derived.Test.YthdcodjdecnniaaRefB
namespace Go.Proofs.Ythdcodjdecnniaa
open Go.RowKit

set_option maxHeartbeats 1000000 in
theorem RefAdd_far {B : Nat → Prop} {w : World} {y : Nat} {t : T} (h : Ref B w y t) {n : Int} (hn : 0 ≤ n ∧ n < 4294967296) (hh : ¬ t.has n = true) (hf : 256 < aheadBy 32 t.cum n) :
    Calls Try.prog 35 #[.pointer (some ⟨y, 0, none⟩), .int .u32 n] w (RefAdded B w y t n) := by
  have HA := hid (RefAhead_any 32 t.cum n w ⟨h.ok.cum0, h.ok.cum1⟩ hn)
  have hw := wrong32 [t.cum, n]
  have HR := hid h
  have HN := hid hn
  have b0 : t.has n = false := by simpa using hh
  have HX := hid (show t.add n = t ∧ t.addE n = 10 from by simp [T.add, T.addE, hh, hf])
  obtain ⟨vf, vd, g1, g2, g3⟩ := h.blk
  have c0 := blk_cell g1 0
  simp at c0
  clear h hn g1 g2 g3 hh
  go_enter Try.func35, Try.ntmps35
  go_wp2_with fail
  refine HA.out.mono ?_
  rintro e w1 ⟨rfl, hk1⟩
  have HR1 := hid (HR.out.kept0 hk1)
  have HK1 := hid hk1
  clear hk1 c0
  go_wp2_with fail
  refine (RefHas_any HR1.out HN.out).mono ?_
  rintro e w2 ⟨rfl, hk2⟩
  have HF := hid (show RefAdded B w y t n (.returned (.int .i64 10)) w2 from ⟨by rw [HX.out.2], by rw [HX.out.1]; exact ref_same HR.out (HK1.out.tr hk2)⟩)
  clear hk2
  go_wp2
  go_ret
  exact HF.out

theorem take_while {p : Int → Bool} : ∀ {l : List Int} {k : Nat}, k ≤ l.length → (∀ x ∈ l.take k, p x = true) → (∀ h : k < l.length, p l[k] = false) → l.takeWhile p = l.take k ∧ l.dropWhile p = l.drop k
  | [], k, hk, _, _ => by simp at hk; subst hk; simp
  | x :: l, 0, _, _, h => by
    have : p x = false := h (by simp)
    simp [this]
  | x :: l, k + 1, hk, h1, h2 => by
    have hx : p x = true := h1 x (by simp)
    obtain ⟨e1, e2⟩ := take_while (l := l) (k := k) (by simpa using hk) (fun z hz => h1 z (by simp [hz])) (fun h => by have := h2 (by simpa using h); simpa using this)
    simp [hx, e1, e2]

theorem SliceIn.one {B : Nat → Prop} {w : World} {t : TypeId} {v : Value} (hB : B w.heap.size) : SliceIn B (w.alloc (.cells #[v] t)) 1 (.slice (some ⟨w.heap.size, 0, none⟩) 1 1) 1 [v] :=
  ⟨rfl, .inr ⟨w.heap.size, 0, 1, rfl, Nat.le_refl _, hB, by simp, fun j u hu => by
    rw [Nat.zero_add, blk_cell (blk_new w _)]
    simpa using hu⟩⟩

theorem SliceIn.tail {B : Nat → Prop} {w : World} {n cap b off k : Nat} {xs : List Value} (h : SliceIn B w 1 (.slice (some ⟨b, off, none⟩) n cap) n xs) (hk : k < n) : SliceIn B w 1 (.slice (some ⟨b, off + k, none⟩) (n - k) (cap - k)) (n - k) (xs.drop k) := by
  have hl := h.1
  obtain ⟨b', off', he, h2, h3, h4, h5⟩ := h.rows (by omega)
  cases he
  refine ⟨by simp; omega, .inr ⟨b, off + k, cap - k, rfl, by omega, h3, h4, fun j u hu => ?_⟩⟩
  rw [List.getElem?_drop] at hu
  rw [show off + k + j = off + (k + j) by omega]
  exact h5 _ _ hu

theorem slice_from {B : Nat → Prop} {w : World} {n cap k : Nat} {ao : Option Addr} {xs : List Value} (h : SliceIn B w 1 (.slice ao n cap) n xs) (hk : k ≤ n) :
    ∃ xv, (∀ w', (Instr.slice 69 (.slice ao n cap) (some (.int .i64 (k : Int))) none none).run Try.prog w' = .ok xv w') ∧ SliceIn B w 1 xv (n - k) (xs.drop k) := by
  have hl := h.1
  have h1 : (0 : Int) ≤ (k : Int) ∧ (k : Int) ≤ (n : Int) := by omega
  obtain ⟨i, hi⟩ : ∃ i, Try.prog.info? 3 = some i ∧ i.size = 1 := by
    cases hq : Try.prog.info? 3 with
    | none => have := info3; simp [hq] at this
    | some i => exact ⟨i, rfl, by have := info3; simp [hq] at this; exact this.2.1⟩
  refine ⟨.slice (if cap = k then ao else ao.map (·.add (k * 1))) (n - k) (cap - k), fun w' => ?_, ?_⟩
  · simp [Instr.slice, Instr.sliceBounds, Instr.sliceBound, asIntOf, run_underlying Try.underlying69, h1, sizeOf, typeInfo, hi.1, hi.2]
    intro hlt
    omega
  · rcases h.2 with ⟨h0, ao', cap', he, hc⟩ | ⟨b, off, cap', he, h2, h3, h4, h5⟩
    · subst h0
      cases he
      have : k = 0 := by omega
      subst this
      refine ⟨by have := hl; simp at this ⊢; exact this, .inl ⟨rfl, _, _, rfl, fun hn => ?_⟩⟩
      cases ao with
      | none => exact hc rfl
      | some ad => split at hn <;> simp at hn
    · cases he
      by_cases hkn : k < n
      · have hne : ¬ cap = k := by omega
        have hadd : (⟨b, off, none⟩ : Addr).add k = ⟨b, off + k, none⟩ := by unfold Addr.add; split <;> simp_all
        simp only [hne, if_false, Option.map_some, Nat.mul_one, hadd]
        exact h.tail hkn
      · have : k = n := by omega
        subst this
        refine ⟨by simp; omega, .inl ⟨by omega, _, _, by rw [Nat.sub_self], fun hn => ?_⟩⟩
        split at hn <;> simp at hn

/-- The row into which the lesser ones are laid. -/
def Laying (w2 : World) (far : List Int) (d : Int) (k : Nat) (v : Value) (wr : World) : Prop :=
  wr.ownsRow w2.heap.size 3 1 v k (i64s (far.take k)) ∧ (∀ x ∈ far.take k, x < d) ∧ Kept [] w2 wr

/-- The row into which the rest is laid, each one less. -/
def Shifted (l : List Int) (j : Nat) (v : Value) (wo wl : World) : Prop :=
  wl.ownsRow wo.heap.size 3 1 v (j - 1) (i64s (((l.take j).drop 1).map (· - 1))) ∧ Kept [] wo wl

/-- The shifting loop stands. -/
def RGoing (w : World) (y : Nat) (E : Int × List Int) (vd : Value) (wr : World) : Prop :=
  ∃ c l vf, wr.heap[y]? = some (.cells #[.int .u32 c, vf, vd] 71 (0, 0)) ∧ SliceIn (fun k => w.heap.size ≤ k ∧ k < wr.heap.size) wr 1 vf l.length (i64s l) ∧ Rising 1 l ∧ settle c l = E ∧ Kept [y] w wr

set_option maxRecDepth 100000 in
set_option maxHeartbeats 2000000 in
theorem RefAdd_new {B : Nat → Prop} {w : World} {y : Nat} {t : T} (h : Ref B w y t) {n : Int} (hn : 0 ≤ n ∧ n < 4294967296) (hh : ¬ t.has n = true) (hf : ¬ 256 < aheadBy 32 t.cum n) :
    Calls Try.prog 35 #[.pointer (some ⟨y, 0, none⟩), .int .u32 n] w (RefAdded B w y t n) := by
  have HA := hid (RefAhead_any 32 t.cum n w ⟨h.ok.cum0, h.ok.cum1⟩ hn)
  have hw := wrong32 [t.cum, n]
  have HR := hid h
  have HN := hid hn
  have b0 : t.has n = false := by simpa using hh
  have HX := hid (show (t.add n) = { t with cum := (settle t.cum (ins (aheadBy 32 t.cum n) t.far)).1, far := (settle t.cum (ins (aheadBy 32 t.cum n) t.far)).2 } ∧ t.addE n = 0 from by simp [T.add, T.addE, hh, hf])
  obtain ⟨hd0, hnot⟩ := T.has_no hh
  have HRI := hid (rising_ins h.ok.far hnot (by omega) (by omega))
  have HOK := hid (T.add_ok h.ok hn)
  have hlen := rising_short h.ok.far (by omega)
  obtain ⟨i0, hi, hz0, hz1, hz2⟩ := info_parts info3
  obtain ⟨vf, vd, g1, g2, g3⟩ := h.blk
  have c0 := blk_cell g1 0
  simp at c0
  have HG1 := hid g1
  have HG2 := hid g2
  have HG3 := hid g3
  obtain ⟨ao, cap, rfl⟩ := g2.form
  clear h hn hh hnot g1 g2 g3
  generalize hd : aheadBy 32 t.cum n = d at *
  have HD := hid hd
  clear hd
  go_enter Try.func35, Try.ntmps35
  go_wp2_with fail
  refine HA.out.mono ?_
  rintro e w1 ⟨rfl, hk1⟩
  have HR1 := hid (HR.out.kept0 hk1)
  have HK1 := hid hk1
  clear hk1 c0
  go_wp2_with fail
  refine (RefHas_any HR1.out HN.out).mono ?_
  rintro e w2 ⟨rfl, hk2⟩
  have HK := hid (HK1.out.tr hk2)
  have hsz := (HK1.out.tr hk2).size
  clear hk2
  have HB2 := hid (HK.out.blk HG1.out (by simp))
  have HV2 := hid (HG2.out.kept HK.out (fun _ _ _ => by simp))
  have b256 : decide (256 < d) = false := decide_eq_false (by omega)
  have hyl := lt_of_block HB2.out
  go_wp2_with fail
  have HL0 := hid (show Laying w2 t.far d 0 (.slice (some ⟨w2.heap.size, 0, none⟩) 0 0) (w2.alloc (.cells #[] 3)) from
    ⟨by have := World.ownsRow_made (e := 3) (size := 1) (base := w2.heap.size) w2 #[] 0 (Nat.le_refl _) (Nat.zero_le _) rfl; simpa [i64s] using this, by simp, (Kept.refl _ _).alloc _⟩)
  go_loopw [7, 8] (fun v i wr => ∃ k : Nat, k ≤ t.far.length ∧ i = .int .i64 k ∧ Laying w2 t.far d k v wr) (fun v i wr => t.far.length - (intOf i).toNat)
  case atStart => exact ⟨0, Nat.zero_le _, rfl, HL0.out⟩
  case round =>
    obtain ⟨k, hk, rfl, hlay⟩ := hrel
    have HLAY := hid hlay
    obtain ⟨q1, q2, q3⟩ := hlay
    obtain ⟨bo, bc, rfl⟩ := (SliceIn.owned q1).form
    have HQ1 := hid q1
    have HQ2 := hid q2
    have HQ3 := hid q3
    have hbr := q3.blk HB2.out (by simp)
    have c1 := blk_cell hbr 1
    simp at c1
    have hylr := lt_of_block hbr
    have hs3 := q3.size
    clear q1 q2 q3 hbr
    by_cases hlt : k < t.far.length
    · obtain ⟨b, off, hao, _, _, _, hc⟩ := (HV2.out.kept HQ3.out (fun _ _ _ => by simp)).rows (by omega)
      subst hao
      have ck := hc k _ (i64s_get hlt)
      clear hc
      have HZ := hid (show t.far.getD k 0 = t.far[k] from by simp [List.getD, hlt])
      have hz := (far_get HR.out.ok hlt)
      by_cases hless : t.far.getD k 0 < d
      · have b1 : decide (t.far.getD k 0 < d) = true := decide_eq_true hless
        have HLESS := hid hless
        clear hless
        generalize hzz : t.far.getD k 0 = z at *
        have HZZ := hid hzz
        clear hzz
        go_wp2_with (at_builtin; refine wpList_append_in _ rfl (.tmp 67) (.tmp 75) 69 rfl w2.heap.size 3 i0 (.int .i64 0) 1 8 Try.underlying69 hi hz0 hz1 hz2 rfl (by decide) _ _ _ rfl (HQ1.out.alloc _) (fun _ => True) _ 1 [.int .i64 z] rfl (SliceIn.one trivial) (by simp [Value.oneCell']) (by unfold maxLen; omega) (by omega) (by simp; omega) ?_)
        intro v' w3 hown hgrow _
        have HN3 := hid (show Laying w2 t.far d (k + 1) v' w3 from by
          refine ⟨?_, ?_, (HQ3.out.alloc _).grown hgrow (fun j hj => .inr ((HQ1.out.lt j hj).1))⟩
          · rw [List.take_succ_eq_append_getElem hlt, ← HZ.out, ]
            simpa [i64s] using hown
          · intro x hx
            rw [List.take_succ_eq_append_getElem hlt, List.mem_append, List.mem_singleton, ← HZ.out] at hx
            rcases hx with hx | rfl
            · exact HQ2.out x hx
            · exact HLESS.out)
        clear hown hgrow
        go_wp2
        go_roundw
        case rel => exact ⟨k + 1, by omega, by go_num, HN3.out⟩
        case measure => simp [intOf]; omega
      · have b1 : decide (t.far.getD k 0 < d) = false := decide_eq_false hless
        have HI := hid (show ins d t.far = t.far.take k ++ d :: t.far.drop k from by
          obtain ⟨e1, e2⟩ := take_while (p := fun x => decide (x < d)) hk (fun x hx => by simpa using HQ2.out x hx) (fun h => by rw [← HZ.out]; exact b1)
          rw [ins, e1, e2])
        clear hless
        generalize hzz : t.far.getD k 0 = z at *
        clear hzz HZ
        go_wp2_with (at_builtin; refine wpList_append_in _ rfl (.tmp 79) (.tmp 81) 69 rfl w2.heap.size 3 i0 (.int .i64 0) 1 8 Try.underlying69 hi hz0 hz1 hz2 rfl (by decide) _ _ _ rfl (HQ1.out.alloc _) (fun _ => True) _ 1 [.int .i64 d] rfl (SliceIn.one trivial) (by simp [Value.oneCell']) (by unfold maxLen; omega) (by omega) (by simp; omega) ?_)
        intro v1 w3 hown hgrow _
        have HK3 := hid ((HQ3.out.alloc (.cells #[.int .i64 d] 3)).grown hgrow (fun j hj => .inr ((HQ1.out.lt j hj).1)))
        have HO3 := hid hown
        obtain ⟨bo3, bc3, rfl⟩ := (SliceIn.owned hown).form
        have hb3 := HK3.out.blk HB2.out (by simp)
        have c13 := blk_cell hb3 1
        simp at c13
        have hs33 := HK3.out.size
        have hyl3 := lt_of_block hb3
        obtain ⟨xv, hxv, hT⟩ := slice_from (HV2.out.kept HK3.out (fun _ _ _ => by simp)) (k := k) hk
        have hsl := hxv w3
        have HT := hid hT
        clear hxv hT
        clear hown hgrow hb3 ck c1
        go_wp2_with (at_builtin; refine wpList_append_in _ rfl (.tmp 83) (.tmp 89) 69 rfl w2.heap.size 3 i0 (.int .i64 0) 1 8 Try.underlying69 hi hz0 hz1 hz2 rfl (by decide) _ _ _ rfl HO3.out B _ (t.far.length - k) _ rfl HT.out (by rw [i64s, ← List.map_drop]; exact i64s_one _) (by unfold maxLen; omega) (by omega) (by omega) ?_)
        intro v2 w4 hown hgrow _
        have HF4 := hid (show RGoing w y (settle t.cum (ins d t.far)) vd (w4.setCell ⟨y, 1, none⟩ v2) from by
          have hk4 : Kept [] w w4 := HK.out.tr (HK3.out.grown hgrow (fun j hj => .inr ((HO3.out.lt j hj).1)))
          have hb4 := hk4.blk HG1.out (by simp)
          have hk5 : Kept [y] w (w4.setCell ⟨y, 1, none⟩ v2) := (hk4.mono (T := [y]) (by simp)).setCell (.inl (by simp)) _
          refine ⟨t.cum, ins d t.far, v2, blk_set hb4 1 _, ?_, HRI.out, rfl, hk5⟩
          have hl : (ins d t.far).length = k + 1 + (t.far.length - k) := by rw [HI.out]; simp; omega
          rw [hl, HI.out]
          have := owned_low (c := w.heap.size) (ownsRow_kept hown (S := [y]) ((Kept.refl [y] w4).setCell (p := ⟨y, 1, none⟩) (.inl (by simp)) v2) (fun j hj => by
            have := (hown.lt j hj).1
            simp; omega)) (by omega)
          simpa [i64s, List.map_drop, List.map_take] using this)
        have hb4 := (HK3.out.grown hgrow (fun j hj => .inr ((HO3.out.lt j hj).1))).blk HB2.out (by simp)
        have c14 := blk_cell hb4 1
        have f14 := blk_free hb4
        have hyl4 := lt_of_block hb4
        simp at c14
        obtain ⟨bo4, bc4, rfl⟩ := (SliceIn.owned hown).form
        clear hown hgrow hb4
        go_wp2_with fail
        go_loopw [109] (fun _ wr => RGoing w y (settle t.cum (ins d t.far)) vd wr) (fun _ wr => (((settle t.cum (ins d t.far)).1 - cumOf wr y) % 4294967296).toNat)
        case atStart => exact HF4.out
        case round =>
          obtain ⟨wo, rfl⟩ : ∃ wo : World, wo = wr := ⟨_, rfl⟩
          obtain ⟨c, l, vfr, r1, r2, r3, r4, r5⟩ := hrel
          obtain ⟨lo, lc, rfl⟩ := r2.form
          have e0 := blk_cell r1 0
          have e1 := blk_cell r1 1
          simp at e0 e1
          have hcum := cumOf_eq e0
          have hll := rising_short r3 (by omega)
          have hylo := lt_of_block r1
          have fo := blk_free r1
          have HR1' := hid r1
          have HR2' := hid r2
          have HR3' := hid r3
          have HR4' := hid r4
          have HR5' := hid r5
          have hso := r5.size
          clear r1 r2 r3 r4 r5
          by_cases hone : ∃ m, l = 1 :: m
          · have HE := hid hone
            have hl0 : 0 < l.length := by obtain ⟨m, rfl⟩ := hone; simp
            have hg0 : l.getD 0 0 = 1 := by obtain ⟨m, rfl⟩ := hone; rfl
            obtain ⟨b, off, hao, hlc, _, _, hc⟩ := HR2'.out.rows hl0
            subst hao
            have HCC := hid hc
            have ck := hc 0 _ (i64s_get hl0)
            rw [hg0] at ck
            simp only [Nat.add_zero] at ck
            have b1 : decide (0 < (l.length : Int)) = true := decide_eq_true (by omega)
            have HS3 := hid (show Shifted l 1 (.slice (some ⟨wo.heap.size, 0, none⟩) 0 0) wo (wo.alloc (.cells #[] 3)) from
              ⟨by have := World.ownsRow_made (e := 3) (size := 1) (base := wo.heap.size) wo #[] 0 (Nat.le_refl _) (Nat.zero_le _) rfl
                  have e : (l.take 1).drop 1 = [] := by simp
                  rw [e]; simpa [i64s] using this, (Kept.refl _ _).alloc _⟩)
            clear hone hc hg0
            go_wp2_with fail
            go_loopw [10, 11] (fun v i wl => ∃ j : Nat, 1 ≤ j ∧ j ≤ l.length ∧ i = .int .i64 j ∧ Shifted l j v wo wl) (fun v i wl => l.length - (intOf i).toNat)
            case atStart => exact ⟨1, Nat.le_refl _, hl0, rfl, HS3.out⟩
            case round =>
              obtain ⟨j, hj1, hj2, rfl, s1, s2⟩ := hrel
              obtain ⟨ro, rc, rfl⟩ := (SliceIn.owned s1).form
              have HS1 := hid s1
              have HS2 := hid s2
              have hbw := s2.blk HR1'.out (by simp)
              have hbw1 := blk_cell hbw 1
              have hbw0 := blk_cell hbw 0
              have fw := blk_free hbw
              simp at hbw1 hbw0
              have hylw := lt_of_block hbw
              have hsw := s2.size
              clear s1 s2 hbw
              by_cases hjl : j < l.length
              · have cj := (HS2.out.cell (HCC.out j _ (i64s_get hjl)) (by simp))
                have hzr := HR3'.out.2 _ (getD_mem hjl)
                have HZJ := hid (show l.getD j 0 = l[j] from by simp [List.getD, hjl])
                generalize hzz2 : l.getD j 0 = zj at *
                have HZZ2 := hid hzz2
                clear hzz2
                go_wp2_with (at_builtin; refine wpList_append_in _ rfl (.tmp 120) (.tmp 129) 69 rfl wo.heap.size 3 i0 (.int .i64 0) 1 8 Try.underlying69 hi hz0 hz1 hz2 rfl (by decide) _ _ _ rfl (HS1.out.alloc _) (fun _ => True) _ 1 [.int .i64 (zj - 1)] rfl (SliceIn.one trivial) (by simp [Value.oneCell']) (by unfold maxLen; omega) (by omega) (by simp; omega) ?_)
                intro v' w5 hown hgrow _
                have HN5 := hid (show Shifted l (j + 1) v' wo w5 from by
                  refine ⟨?_, (HS2.out.alloc _).grown hgrow (fun i hi => .inr ((HS1.out.lt i hi).1))⟩
                  have e : (l.take (j + 1)).drop 1 = (l.take j).drop 1 ++ [zj] := by
                    rw [List.take_succ_eq_append_getElem hjl, List.drop_append_of_le_length (by simp; omega), ← HZJ.out]
                  rw [e, show j + 1 - 1 = j by omega]
                  simpa [i64s] using hown)
                clear hown hgrow
                go_wp2
                go_roundw
                case rel => exact ⟨j + 1, by omega, by omega, by go_num, HN5.out⟩
                case measure => simp [intOf]; omega
              · obtain rfl : j = l.length := by omega
                have HF5 := hid (show RGoing w y (settle t.cum (ins d t.far)) vd ((wr.setCell ⟨y, 1, none⟩ (.slice ro (l.length - 1) rc)).setCell ⟨y, 0, none⟩ (.int .u32 ((c + 1) % 4294967296))) ∧
                    cumOf ((wr.setCell ⟨y, 1, none⟩ (.slice ro (l.length - 1) rc)).setCell ⟨y, 0, none⟩ (.int .u32 ((c + 1) % 4294967296))) y = (c + 1) % 4294967296 from by
                  obtain ⟨m, rfl⟩ := HE.out
                  have hbw := HS2.out.blk HR1'.out (by simp)
                  have hset := blk_set (blk_set hbw 1 (.slice ro ((1 :: m).length - 1) rc)) 0 (.int .u32 ((c + 1) % 4294967296))
                  have hkk : Kept [y] wr ((wr.setCell ⟨y, 1, none⟩ (.slice ro ((1 :: m).length - 1) rc)).setCell ⟨y, 0, none⟩ (.int .u32 ((c + 1) % 4294967296))) :=
                    ((Kept.refl _ _).setCell (p := ⟨y, 1, none⟩) (.inl (by simp)) _).setCell (p := ⟨y, 0, none⟩) (.inl (by simp)) _
                  refine ⟨⟨(c + 1) % 4294967296, m.map (· - 1), _, hset, ?_, rising_down HR3'.out, by rw [← HR4'.out, settle_one], (HR5'.out.tr (HS2.out.mono (by simp))).tr hkk⟩, cumOf_eq (k := .u32) (by rw [blk_cell hset]; rfl)⟩
                  have := owned_low (c := w.heap.size) (ownsRow_kept HS1.out hkk (fun i hi => by
                    have := (HS1.out.lt i hi).1
                    simp; omega)) (by omega)
                  simpa [i64s] using this)
                go_wp2
                go_roundw
                case rel => exact HF5.out.1
                case measure =>
                  rw [hcum, HF5.out.2, ← HR4'.out]
                  obtain ⟨m, rfl⟩ := HE.out
                  exact settle_down HR3'.out (by simp at hll; omega)
          · have hst : settle c l = (c, l) := by
              cases l with
              | nil => exact settle_nil c
              | cons x m => exact settle_off (fun e => hone ⟨m, by rw [e]⟩)
            have HF := hid (show RefAdded B w y t n (.returned (.int .i64 0)) wo from by
              refine ⟨by rw [HX.out.2], ref_far HR.out HOK.out HR5'.out HR1'.out ?_ ?_ ?_⟩
              · rw [HX.out.1, ← HR4'.out, hst]
              · rw [HX.out.1]; exact HG3.out
              · rw [HX.out.1, ← HR4'.out, hst]; exact HR2'.out)
            by_cases hl0 : l.length = 0
            · have b1 : decide (0 < (l.length : Int)) = false := decide_eq_false (by omega)
              clear hone hst
              go_wp2
              go_ret
              exact HF.out
            · have b1 : decide (0 < (l.length : Int)) = true := decide_eq_true (by omega)
              have hl1 : 0 < l.length := by omega
              obtain ⟨b, off, hao, hlc, _, _, hc⟩ := HR2'.out.rows hl1
              subst hao
              have ck := hc 0 _ (i64s_get hl1)
              simp only [Nat.add_zero] at ck
              have bz : (l.getD 0 0 == 1) = false := beq_eq_false_iff_ne.2 (by
                cases l with
                | nil => simp at hl1
                | cons x m => exact fun e => hone ⟨m, by have : x = 1 := e; rw [this]⟩)
              generalize l.getD 0 0 = z0 at *
              clear hone hst hc hl0
              go_wp2
              go_ret
              exact HF.out
    · obtain rfl : k = t.far.length := by omega
      have HI := hid (show ins d t.far = t.far.take t.far.length ++ d :: t.far.drop t.far.length from by
        obtain ⟨e1, e2⟩ := take_while (p := fun x => decide (x < d)) hk (fun x hx => by simpa using HQ2.out x hx) (fun h => absurd h (Nat.lt_irrefl _))
        rw [ins, e1, e2])
      go_wp2_with (at_builtin; refine wpList_append_in _ rfl (.tmp 79) (.tmp 81) 69 rfl w2.heap.size 3 i0 (.int .i64 0) 1 8 Try.underlying69 hi hz0 hz1 hz2 rfl (by decide) _ _ _ rfl (HQ1.out.alloc _) (fun _ => True) _ 1 [.int .i64 d] rfl (SliceIn.one trivial) (by simp [Value.oneCell']) (by unfold maxLen; omega) (by omega) (by simp; omega) ?_)
      intro v1 w3 hown hgrow _
      have HK3 := hid ((HQ3.out.alloc (.cells #[.int .i64 d] 3)).grown hgrow (fun j hj => .inr ((HQ1.out.lt j hj).1)))
      have HO3 := hid hown
      obtain ⟨bo3, bc3, rfl⟩ := (SliceIn.owned hown).form
      have hb3 := HK3.out.blk HB2.out (by simp)
      have c13 := blk_cell hb3 1
      simp at c13
      have hs33 := HK3.out.size
      have hyl3 := lt_of_block hb3
      obtain ⟨xv, hxv, hT⟩ := slice_from (HV2.out.kept HK3.out (fun _ _ _ => by simp)) (k := t.far.length) hk
      have hsl := hxv w3
      have HT := hid hT
      clear hxv hT
      clear hown hgrow hb3 c1
      go_wp2_with (at_builtin; refine wpList_append_in _ rfl (.tmp 83) (.tmp 89) 69 rfl w2.heap.size 3 i0 (.int .i64 0) 1 8 Try.underlying69 hi hz0 hz1 hz2 rfl (by decide) _ _ _ rfl HO3.out B _ (t.far.length - t.far.length) _ rfl HT.out (by rw [i64s, ← List.map_drop]; exact i64s_one _) (by unfold maxLen; omega) (by omega) (by omega) ?_)
      intro v2 w4 hown hgrow _
      have HF4 := hid (show RGoing w y (settle t.cum (ins d t.far)) vd (w4.setCell ⟨y, 1, none⟩ v2) from by
        have hk4 : Kept [] w w4 := HK.out.tr (HK3.out.grown hgrow (fun j hj => .inr ((HO3.out.lt j hj).1)))
        have hb4 := hk4.blk HG1.out (by simp)
        have hk5 : Kept [y] w (w4.setCell ⟨y, 1, none⟩ v2) := (hk4.mono (T := [y]) (by simp)).setCell (.inl (by simp)) _
        refine ⟨t.cum, ins d t.far, v2, blk_set hb4 1 _, ?_, HRI.out, rfl, hk5⟩
        have hl : (ins d t.far).length = t.far.length + 1 + (t.far.length - t.far.length) := by rw [HI.out]; simp
        rw [hl, HI.out]
        have := owned_low (c := w.heap.size) (ownsRow_kept hown (S := [y]) ((Kept.refl [y] w4).setCell (p := ⟨y, 1, none⟩) (.inl (by simp)) v2) (fun j hj => by
          have := (hown.lt j hj).1
          simp; omega)) (by omega)
        have e0 : List.drop t.far.length (List.map (Value.int .i64) t.far) = [] := by simp
        simpa [i64s, e0] using this)
      have hb4 := (HK3.out.grown hgrow (fun j hj => .inr ((HO3.out.lt j hj).1))).blk HB2.out (by simp)
      have c14 := blk_cell hb4 1
      have f14 := blk_free hb4
      have hyl4 := lt_of_block hb4
      simp at c14
      obtain ⟨bo4, bc4, rfl⟩ := (SliceIn.owned hown).form
      clear hown hgrow hb4
      go_wp2_with fail
      go_loopw [109] (fun _ wr => RGoing w y (settle t.cum (ins d t.far)) vd wr) (fun _ wr => (((settle t.cum (ins d t.far)).1 - cumOf wr y) % 4294967296).toNat)
      case atStart => exact HF4.out
      case round =>
        obtain ⟨wo, rfl⟩ : ∃ wo : World, wo = wr := ⟨_, rfl⟩
        obtain ⟨c, l, vfr, r1, r2, r3, r4, r5⟩ := hrel
        obtain ⟨lo, lc, rfl⟩ := r2.form
        have e0 := blk_cell r1 0
        have e1 := blk_cell r1 1
        simp at e0 e1
        have hcum := cumOf_eq e0
        have hll := rising_short r3 (by omega)
        have hylo := lt_of_block r1
        have fo := blk_free r1
        have HR1' := hid r1
        have HR2' := hid r2
        have HR3' := hid r3
        have HR4' := hid r4
        have HR5' := hid r5
        have hso := r5.size
        clear r1 r2 r3 r4 r5
        by_cases hone : ∃ m, l = 1 :: m
        · have HE := hid hone
          have hl0 : 0 < l.length := by obtain ⟨m, rfl⟩ := hone; simp
          have hg0 : l.getD 0 0 = 1 := by obtain ⟨m, rfl⟩ := hone; rfl
          obtain ⟨b, off, hao, hlc, _, _, hc⟩ := HR2'.out.rows hl0
          subst hao
          have HCC := hid hc
          have ck := hc 0 _ (i64s_get hl0)
          rw [hg0] at ck
          simp only [Nat.add_zero] at ck
          have b1 : decide (0 < (l.length : Int)) = true := decide_eq_true (by omega)
          have HS3 := hid (show Shifted l 1 (.slice (some ⟨wo.heap.size, 0, none⟩) 0 0) wo (wo.alloc (.cells #[] 3)) from
            ⟨by have := World.ownsRow_made (e := 3) (size := 1) (base := wo.heap.size) wo #[] 0 (Nat.le_refl _) (Nat.zero_le _) rfl
                have e : (l.take 1).drop 1 = [] := by simp
                rw [e]; simpa [i64s] using this, (Kept.refl _ _).alloc _⟩)
          clear hone hc hg0
          go_wp2_with fail
          go_loopw [10, 11] (fun v i wl => ∃ j : Nat, 1 ≤ j ∧ j ≤ l.length ∧ i = .int .i64 j ∧ Shifted l j v wo wl) (fun v i wl => l.length - (intOf i).toNat)
          case atStart => exact ⟨1, Nat.le_refl _, hl0, rfl, HS3.out⟩
          case round =>
            obtain ⟨j, hj1, hj2, rfl, s1, s2⟩ := hrel
            obtain ⟨ro, rc, rfl⟩ := (SliceIn.owned s1).form
            have HS1 := hid s1
            have HS2 := hid s2
            have hbw := s2.blk HR1'.out (by simp)
            have hbw1 := blk_cell hbw 1
            have hbw0 := blk_cell hbw 0
            have fw := blk_free hbw
            simp at hbw1 hbw0
            have hylw := lt_of_block hbw
            have hsw := s2.size
            clear s1 s2 hbw
            by_cases hjl : j < l.length
            · have cj := (HS2.out.cell (HCC.out j _ (i64s_get hjl)) (by simp))
              have hzr := HR3'.out.2 _ (getD_mem hjl)
              have HZJ := hid (show l.getD j 0 = l[j] from by simp [List.getD, hjl])
              generalize hzz2 : l.getD j 0 = zj at *
              have HZZ2 := hid hzz2
              clear hzz2
              go_wp2_with (at_builtin; refine wpList_append_in _ rfl (.tmp 120) (.tmp 129) 69 rfl wo.heap.size 3 i0 (.int .i64 0) 1 8 Try.underlying69 hi hz0 hz1 hz2 rfl (by decide) _ _ _ rfl (HS1.out.alloc _) (fun _ => True) _ 1 [.int .i64 (zj - 1)] rfl (SliceIn.one trivial) (by simp [Value.oneCell']) (by unfold maxLen; omega) (by omega) (by simp; omega) ?_)
              intro v' w5 hown hgrow _
              have HN5 := hid (show Shifted l (j + 1) v' wo w5 from by
                refine ⟨?_, (HS2.out.alloc _).grown hgrow (fun i hi => .inr ((HS1.out.lt i hi).1))⟩
                have e : (l.take (j + 1)).drop 1 = (l.take j).drop 1 ++ [zj] := by
                  rw [List.take_succ_eq_append_getElem hjl, List.drop_append_of_le_length (by simp; omega), ← HZJ.out]
                rw [e, show j + 1 - 1 = j by omega]
                simpa [i64s] using hown)
              clear hown hgrow
              go_wp2
              go_roundw
              case rel => exact ⟨j + 1, by omega, by omega, by go_num, HN5.out⟩
              case measure => simp [intOf]; omega
            · obtain rfl : j = l.length := by omega
              have HF5 := hid (show RGoing w y (settle t.cum (ins d t.far)) vd ((wr.setCell ⟨y, 1, none⟩ (.slice ro (l.length - 1) rc)).setCell ⟨y, 0, none⟩ (.int .u32 ((c + 1) % 4294967296))) ∧
                  cumOf ((wr.setCell ⟨y, 1, none⟩ (.slice ro (l.length - 1) rc)).setCell ⟨y, 0, none⟩ (.int .u32 ((c + 1) % 4294967296))) y = (c + 1) % 4294967296 from by
                obtain ⟨m, rfl⟩ := HE.out
                have hbw := HS2.out.blk HR1'.out (by simp)
                have hset := blk_set (blk_set hbw 1 (.slice ro ((1 :: m).length - 1) rc)) 0 (.int .u32 ((c + 1) % 4294967296))
                have hkk : Kept [y] wr ((wr.setCell ⟨y, 1, none⟩ (.slice ro ((1 :: m).length - 1) rc)).setCell ⟨y, 0, none⟩ (.int .u32 ((c + 1) % 4294967296))) :=
                  ((Kept.refl _ _).setCell (p := ⟨y, 1, none⟩) (.inl (by simp)) _).setCell (p := ⟨y, 0, none⟩) (.inl (by simp)) _
                refine ⟨⟨(c + 1) % 4294967296, m.map (· - 1), _, hset, ?_, rising_down HR3'.out, by rw [← HR4'.out, settle_one], (HR5'.out.tr (HS2.out.mono (by simp))).tr hkk⟩, cumOf_eq (k := .u32) (by rw [blk_cell hset]; rfl)⟩
                have := owned_low (c := w.heap.size) (ownsRow_kept HS1.out hkk (fun i hi => by
                  have := (HS1.out.lt i hi).1
                  simp; omega)) (by omega)
                simpa [i64s] using this)
              go_wp2
              go_roundw
              case rel => exact HF5.out.1
              case measure =>
                rw [hcum, HF5.out.2, ← HR4'.out]
                obtain ⟨m, rfl⟩ := HE.out
                exact settle_down HR3'.out (by simp at hll; omega)
        · have hst : settle c l = (c, l) := by
            cases l with
            | nil => exact settle_nil c
            | cons x m => exact settle_off (fun e => hone ⟨m, by rw [e]⟩)
          have HF := hid (show RefAdded B w y t n (.returned (.int .i64 0)) wo from by
            refine ⟨by rw [HX.out.2], ref_far HR.out HOK.out HR5'.out HR1'.out ?_ ?_ ?_⟩
            · rw [HX.out.1, ← HR4'.out, hst]
            · rw [HX.out.1]; exact HG3.out
            · rw [HX.out.1, ← HR4'.out, hst]; exact HR2'.out)
          by_cases hl0 : l.length = 0
          · have b1 : decide (0 < (l.length : Int)) = false := decide_eq_false (by omega)
            clear hone hst
            go_wp2
            go_ret
            exact HF.out
          · have b1 : decide (0 < (l.length : Int)) = true := decide_eq_true (by omega)
            have hl1 : 0 < l.length := by omega
            obtain ⟨b, off, hao, hlc, _, _, hc⟩ := HR2'.out.rows hl1
            subst hao
            have ck := hc 0 _ (i64s_get hl1)
            simp only [Nat.add_zero] at ck
            have bz : (l.getD 0 0 == 1) = false := beq_eq_false_iff_ne.2 (by
              cases l with
              | nil => simp at hl1
              | cons x m => exact fun e => hone ⟨m, by have : x = 1 := e; rw [this]⟩)
            generalize l.getD 0 0 = z0 at *
            clear hone hst hc hl0
            go_wp2
            go_ret
            exact HF.out

theorem RefAdd_any {B : Nat → Prop} {w : World} {y : Nat} {t : T} (h : Ref B w y t) {n : Int} (hn : 0 ≤ n ∧ n < 4294967296) :
    Calls Try.prog 35 #[.pointer (some ⟨y, 0, none⟩), .int .u32 n] w (RefAdded B w y t n) := by
  by_cases hh : t.has n = true
  · exact RefAdd_known h hn hh
  · by_cases hf : 256 < aheadBy 32 t.cum n
    · exact RefAdd_far h hn hh hf
    · exact RefAdd_new h hn hh hf

end Go.Proofs.Ythdcodjdecnniaa
