/-
  The law GapsShifts: what it returns.
-/
import Derived.Test.YthdcodjdecnniaaTwo
import Derived.Deep.RegionHeld3
namespace Go.Proofs.Ythdcodjdecnniaa
open Go.RowKit

/-- s is t, gone on by 'by'. -/
structure Sh (g : Int) (t s : T) : Prop where
  cum : s.cum = (t.cum + g) % 4294967296
  far : s.far = t.far
  dups : s.dups.length = t.dups.length

theorem ahead_sh {c x g : Int} : aheadBy 32 ((c + g) % 4294967296) ((x + g) % 4294967296) = aheadBy 32 c x := by
  have hm : mOf 32 = 4294967296 := rfl
  have e : ((x + g) % 4294967296 - (c + g) % 4294967296) % 4294967296 = (x - c) % 4294967296 := by omega
  simp only [aheadBy, hm, e]

theorem settle_shN (g : Int) : ∀ (n : Nat) (c : Int) (l : List Int), l.length = n → (settle ((c + g) % 4294967296) l).1 = ((settle c l).1 + g) % 4294967296 ∧ (settle ((c + g) % 4294967296) l).2 = (settle c l).2
  | 0, c, [], _ => by simp [settle_nil]
  | n + 1, c, x :: l, hn => by
    by_cases hx : x = 1
    · subst hx
      rw [settle_one, settle_one]
      have ih := settle_shN g n ((c + 1) % 4294967296) (l.map (· - 1)) (by simpa using hn)
      have e : (((c + 1) % 4294967296 + g) % 4294967296) = ((c + g) % 4294967296 + 1) % 4294967296 := by omega
      rwa [e] at ih
    · rw [settle_off hx, settle_off hx]
      exact ⟨rfl, rfl⟩
theorem settle_sh1 (g c : Int) (l : List Int) : (settle ((c + g) % 4294967296) l).1 = ((settle c l).1 + g) % 4294967296 ∧ (settle ((c + g) % 4294967296) l).2 = (settle c l).2 := settle_shN g _ c l rfl

theorem Sh.has {g x : Int} {t s : T} (h : Sh g t s) : s.has ((x + g) % 4294967296) = t.has x := by
  rw [T.has, T.has, h.cum, h.far, ahead_sh]
theorem Sh.addE {g x : Int} {t s : T} (h : Sh g t s) : s.addE ((x + g) % 4294967296) = t.addE x := by
  rw [T.addE, T.addE, h.has, h.cum, ahead_sh]
theorem Sh.add {g x : Int} {t s : T} (h : Sh g t s) : Sh g (t.add x) (s.add ((x + g) % 4294967296)) := by
  have h1 := h.cum
  have h2 := h.far
  have h3 := h.dups
  unfold T.add
  rw [h.has]
  by_cases ha : t.has x = true
  · simp only [ha, ↓reduceIte]
    refine ⟨h1, h2, ?_⟩
    rw [h3]
    split
    · simp [h3]
    · exact h3
  · simp only [ha, ↓reduceIte, Bool.false_eq_true]
    rw [h.cum, ahead_sh]
    by_cases hb : 256 < aheadBy 32 t.cum x
    · simp only [hb, ↓reduceIte]; exact ⟨h1, h2, h3⟩
    · simp only [hb, ↓reduceIte]
      obtain ⟨e1, e2⟩ := settle_sh1 g t.cum (ins (aheadBy 32 t.cum x) t.far)
      rw [h2]
      exact ⟨e1, e2, h3⟩
theorem Sh.new (f g : Int) : Sh ((g - f) % 4294967296) (T.new f) (T.new g) := ⟨by simp only [T.new]; omega, rfl, rfl⟩
theorem Sh.top {g : Int} {t s : T} (h : Sh g t s) : s.top = (t.top + g) % 4294967296 := by
  rw [T.top, T.top, h.cum, h.far]; omega

/-- Where the loop stands. -/
def ShiftedW (w0 : World) (y : Nat) (g : Int) (wr : World) : Prop := ∃ t s, Duo w0 wr w0.heap.size y t s ∧ Sh g t s

set_option maxRecDepth 100000 in
set_option maxHeartbeats 8000000 in
theorem shifts_any {C : Nat → Prop} {w : World} {first oth : Int} {lv : Value} {ds : List (Int × Bool)} (hl : SliceIn C w 2 lv ds.length (deedsV ds)) (hd : ∀ d ∈ ds, -32768 ≤ d.1 ∧ d.1 ≤ 32767) :
    Calls Try.prog 6 #[.int .u32 first, .int .u32 oth, lv] w fun e w' => e = .returned (.bool true) ∧ Kept [] w w' := by
  have HL := hid hl
  have HD := hid hd
  obtain ⟨ao, cap, rfl⟩ := hl.form
  clear hl hd
  go_enter Try.func6, Try.ntmps6
  go_wp2_with fail
  refine (New_any first _).mono ?_
  rintro e w1 ⟨rfl, ht1, hk1⟩
  have HT1 := hid ht1
  have HK1 := hid hk1
  clear ht1 hk1
  go_wp2_with fail
  refine (New_any oth _).mono ?_
  rintro e w2 ⟨rfl, ht2, hk2⟩
  have HDU := hid (duo_new HT1.out HK1.out ht2 hk2)
  clear ht2 hk2
  generalize hyy : w1.heap.size = y at *
  clear hyy
  have HS0 := hid (show ShiftedW w y ((oth - first) % 4294967296) w2 from ⟨_, _, HDU.out, Sh.new first oth⟩)
  go_wp2_with fail
  have HG := hid (show (oth - first) % 4294967296 = (oth - first) % 4294967296 from rfl)
  generalize hgg : (oth - first) % 4294967296 = g at *
  go_loopw [10] (fun i wr => ∃ k : Nat, k ≤ ds.length ∧ k ≤ 300 ∧ i = .int .i64 k ∧ ShiftedW w y g wr) (fun i wr => 300 - (intOf i).toNat)
  case atStart => exact ⟨0, Nat.zero_le _, by omega, rfl, HS0.out⟩
  case round =>
    obtain ⟨k, hk, hk300, rfl, t, s, hdu, hsh⟩ := hrel
    have HDD := hid hdu
    have HSH := hid hsh
    have hkd := hdu.kept
    clear hdu hsh
    by_cases hlt : k < ds.length
    · by_cases hlt3 : k < 300
      · have b3 : decide ((k : Int) < 300) = true := decide_eq_true (by omega)
        obtain ⟨b, off, hao, _, _, _, hc⟩ := (HL.out.kept hkd (fun _ _ _ => by simp)).rows (by omega)
        have HCW := hid (show ∀ j u, (deedsV ds)[j]? = some u → w.cell? ⟨b, off + j, none⟩ = some u from by
          obtain ⟨b', off', e, _, _, _, h⟩ := HL.out.rows (by omega)
          rw [hao] at e; cases e; exact h)
        subst hao
        obtain ⟨g0, _⟩ := deeds_get hlt
        have c0 := hc _ _ g0
        rw [Nat.mul_comm 2 k] at c0
        have HC0 := hid (show wr.drew.cell? ⟨b, off + k * 2, none⟩ = _ from c0)
        have hab := HD.out _ (List.getElem_mem hlt)
        have C0W := HCW.out (k * 2) _ (by rw [Nat.mul_comm]; exact g0)
        clear hc g0 c0
        generalize ds[k].1 = a at *
        have CW := hid (show w.cell? ⟨b, off + k * 2, none⟩ = some (.int .i16 a) from C0W)
        have hgm := HG.out
        have hbv : IntKind.u32.wrap a = a % 4294967296 := by rw [IntKind.wrap_u32]
        have hu1 : IntKind.u32.wrap (first + a % 4294967296) = (first + a) % 4294967296 := by rw [IntKind.wrap_u32]; omega
        have hu2 : IntKind.u32.wrap (oth + a % 4294967296) = ((first + a) % 4294967296 + g) % 4294967296 := by rw [IntKind.wrap_u32]; omega
        have hn : 0 ≤ (first + a) % 4294967296 ∧ (first + a) % 4294967296 < 4294967296 := by omega
        clear hgm
        generalize (first + a) % 4294967296 = n at *
        have HSN := hid (show Sh g (t.add n) (s.add ((n + g) % 4294967296)) from HSH.out.add)
        have HE := hid (HSH.out.addE (x := n))
        have HDr := hid (HDD.out.kept0 ((Kept.refl [] wr).drew))
        generalize hm : (n + g) % 4294967296 = m at *
        have hmm : 0 ≤ m ∧ m < 4294967296 := by omega
        have HM := hid hm
        have hu3 : IntKind.u32.wrap ((t.add n).cum + g) = ((t.add n).cum + g) % 4294967296 := by rw [IntKind.wrap_u32]
        have hu4 : IntKind.u32.wrap ((t.add n).top + g) = ((t.add n).top + g) % 4294967296 := by rw [IntKind.wrap_u32]
        clear hm hkd
        go_wp2_with fail
        go_region_held3 (fun w' => w'.cell? ⟨b, off + k * 2, none⟩ = some (.int .i16 a)) (first | assumption | (exact HC0.out) | (exact hd3.kept.cell CW.out (by simp)) | (exact hd4.kept.cell CW.out (by simp)) | (exact hd5.kept.cell CW.out (by simp)) | (exact hd6.kept.cell CW.out (by simp)))
          (first
            | (go_at_call_of 14 (w.heap.size); refine (HDr.out.add hn).mono ?_; rintro e w3 ⟨rfl, hd3⟩)
            | (go_at_call_of 14 (y); refine (hd3.swap.add hmm).mono ?_; rintro e w4 ⟨rfl, hd4⟩; rw [HE.out])
            | (go_at_call_of 15 (w.heap.size); refine hd4.swap.cum.mono ?_; rintro e wq ⟨rfl, rfl⟩)
            | (go_at_call_of 15 (y); refine hd4.cum.mono ?_; rintro e wq ⟨rfl, rfl⟩; rw [HSN.out.cum])
            | (go_at_call_of 16 (w.heap.size); refine hd4.swap.top.mono ?_; rintro e w5 ⟨rfl, hd5⟩)
            | (go_at_call_of 16 (y); refine hd5.swap.top.mono ?_; rintro e w6 ⟨rfl, hd6⟩; rw [HSN.out.top]))
        have HF := hid (show ShiftedW w y g w6 from ⟨_, _, hd6.swap, HSN.out⟩)
        clear hd3 hd4 hd5 hd6
        go_wp2
        go_roundw
        case rel => exact ⟨k + 1, by omega, by omega, by go_num, HF.out⟩
        case measure => simp [intOf]; omega
      · have b3 : decide ((k : Int) < 300) = false := decide_eq_false (by omega)
        have hfar := HSH.out.far
        go_wp2_with fail
        refine (live_any _).mono ?_
        rintro e w3 ⟨rfl, hk3⟩
        have HA := hid (HDD.out.kept0 hk3)
        clear hk3 hkd
        go_wp2_with fail
        refine HA.out.blocks.mono ?_
        rintro e w6 ⟨b1, rfl, hb1, hk6⟩
        have HA := hid (HA.out.kept0 hk6)
        have HB1 := hid (SliceIn.owned hb1)
        clear hb1 hk6
        go_wp2_with fail
        refine HA.out.swap.blocks.mono ?_
        rintro e w7 ⟨b2, rfl, hb2, hk7⟩
        have HK := hid (HA.out.kept0 hk7).kept
        have HB1 := hid (HB1.out.kept hk7 (fun _ _ _ => by simp))
        rw [hfar] at hb2
        have HB2 := hid (SliceIn.owned hb2)
        clear hb2 hk7 hfar
        go_wp2_with fail
        refine (SameB_any HB1.out HB2.out (by simp [blocksOf]; omega)).mono ?_
        rintro e w8 ⟨rfl, hk8⟩
        have HK := hid (HK.out.tr hk8)
        clear hk8
        go_wp2
        go_ret
        exact ⟨rfl, HK.out⟩
    · have hfar := HSH.out.far
      go_wp2_with fail
      refine (live_any _).mono ?_
      rintro e w3 ⟨rfl, hk3⟩
      have HA := hid (HDD.out.kept0 hk3)
      clear hk3 hkd
      go_wp2_with fail
      refine HA.out.blocks.mono ?_
      rintro e w6 ⟨b1, rfl, hb1, hk6⟩
      have HA := hid (HA.out.kept0 hk6)
      have HB1 := hid (SliceIn.owned hb1)
      clear hb1 hk6
      go_wp2_with fail
      refine HA.out.swap.blocks.mono ?_
      rintro e w7 ⟨b2, rfl, hb2, hk7⟩
      have HK := hid (HA.out.kept0 hk7).kept
      have HB1 := hid (HB1.out.kept hk7 (fun _ _ _ => by simp))
      rw [hfar] at hb2
      have HB2 := hid (SliceIn.owned hb2)
      clear hb2 hk7 hfar
      go_wp2_with fail
      refine (SameB_any HB1.out HB2.out (by simp [blocksOf]; omega)).mono ?_
      rintro e w8 ⟨rfl, hk8⟩
      have HK := hid (HK.out.tr hk8)
      clear hk8
      go_wp2
      go_ret
      exact ⟨rfl, HK.out⟩

end Go.Proofs.Ythdcodjdecnniaa
