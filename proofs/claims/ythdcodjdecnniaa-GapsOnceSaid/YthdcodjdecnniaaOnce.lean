/-
  The law GapsOnce: what it returns.
-/
import Derived.Test.YthdcodjdecnniaaBig
import Derived.Test.YthdcodjdecnniaaSets
namespace Go.Proofs.Ythdcodjdecnniaa
open Go.RowKit

/-- The row that says what was taken. -/
def Marks (w : World) (b : Nat) (A : List Int) : Prop := ∃ cs, w.heap[b]? = some (.cells cs 46 (0, 0)) ∧ ∀ j : Nat, j < 65536 → cs[j]? = some (.bool (decide ((j : Int) ∈ A)))

def Onced (w : World) (x b : Nat) (first : Int) (wr : World) : Prop :=
  ∃ o t A c, Track wr x o t ∧ Inv first A c t ∧ Marks wr b A ∧ w.heap.size ≤ x ∧ w.heap.size ≤ b ∧ x ≠ b ∧ (∀ k, o = some k → w.heap.size ≤ k ∧ k ≠ b) ∧ Kept [] w wr

theorem has_ahead1 {t : T} (h : t.ok) : t.has ((t.cum + 1) % 4294967296) = decide ((1 : Int) ∈ t.far) := by
  have hm : mOf 32 = 4294967296 := rfl
  have h0 := h.cum0
  have hc := h.cum1
  have e : aheadBy 32 t.cum ((t.cum + 1) % 4294967296) = 1 := by
    have e : ((t.cum + 1) % 4294967296 - t.cum) % 4294967296 = 1 := by omega
    simp only [aheadBy, hm, e]
    split <;> omega
  rw [T.has, e]
  simp
theorem once_ahead {first c : Int} {A : List Int} {t s : T} (h : Inv first A c t) {A' : List Int} {k : Nat} (h' : Inv first A' (c + k) s) : aheadBy 32 t.cum s.cum = k := by
  have hm : mOf 32 = 4294967296 := rfl
  have h1 := h'.le
  have h0 := h.c0
  have e : ((first - 1 + (c + k)) % 4294967296 - (first - 1 + c) % 4294967296) % 4294967296 = k := by omega
  simp only [aheadBy, hm, h.cum, h'.cum, e]
  split <;> omega
theorem ahead_same (c : Int) : aheadBy 32 c c = 0 := by
  have hm : mOf 32 = 4294967296 := rfl
  simp [aheadBy, hm]
theorem has_cum (t : T) : t.has t.cum = true := by simp [T.has, ahead_same]
theorem has_next {t : T} (h : t.ok) : t.has ((t.cum + 1) % 4294967296) = false := by
  rw [has_ahead1 h]
  exact decide_eq_false (fun hm => by have := h.far.2 _ hm; omega)

theorem Marks.kept {S : List Nat} {w w' : World} {b : Nat} {A : List Int} (h : Marks w b A) (hk : Kept S w w') (hb : b ∉ S) : Marks w' b A := by
  obtain ⟨cs, h1, h2⟩ := h
  exact ⟨cs, hk.blk h1 hb, h2⟩
theorem Marks.put {w : World} {b : Nat} {A A' : List Int} (h : Marks w b A) {i : Nat} {v : Bool} (hA : ∀ j : Nat, j < 65536 → j ≠ i → ((j : Int) ∈ A ↔ (j : Int) ∈ A')) (hv : v = decide ((i : Int) ∈ A')) : Marks (w.setCell ⟨b, i, none⟩ (.bool v)) b A' := by
  obtain ⟨cs, h1, h2⟩ := h
  refine ⟨_, blk_set h1 i _, fun j hj => ?_⟩
  by_cases e : j = i
  · subst e
    have : j < cs.size := (Array.getElem?_eq_some_iff.1 (h2 j hj)).1
    rw [Array.getElem?_setIfInBounds_self_of_lt this, hv]
  · rw [Array.getElem?_setIfInBounds_ne (fun h => e h.symm), h2 j hj]
    simp only [hA j hj e]

section
attribute [-go_sem] Instr.alloc
set_option maxRecDepth 100000 in
set_option maxHeartbeats 2000000 in
theorem once_any {C : Nat → Prop} {w : World} {first : Int} {lv : Value} {ds : List (Int × Bool)} (hl : SliceIn C w 2 lv ds.length (deedsV ds)) (hd : ∀ d ∈ ds, -32768 ≤ d.1 ∧ d.1 ≤ 32767) :
    Calls Try.prog 7 #[.int .u32 first, lv] w fun e w' => e = .returned (.bool true) ∧ Kept [] w w' := by
  have HL := hid hl
  have HD := hid hd
  obtain ⟨ao, cap, rfl⟩ := hl.form
  clear hl hd
  go_enter Try.func7, Try.ntmps7
  go_wp2_with fail
  refine (New_any first _).mono ?_
  rintro e w1 ⟨rfl, ht1, hk1⟩
  have HT1 := hid ht1
  have HK1 := hid hk1
  have hal := alloc46 w1
  have HS := hid (show Onced w w.heap.size w1.heap.size first (w1.alloc (.cells z46 46 (0, 0))) from by
    have hx := ht1.lt
    exact ⟨none, T.new first, [], 0, ht1.kept ((Kept.refl [] w1).alloc _) (by simp) (by simp), Inv.new first, ⟨z46, blk_new _ _, fun j hj => by rw [z46_get hj]; simp⟩, Nat.le_refl _, hk1.size, by omega, by simp, hk1.alloc _⟩)
  clear ht1 hk1
  go_wp2_with fail
  go_loopw [7] (fun i wr => ∃ k : Nat, k ≤ ds.length ∧ k ≤ 300 ∧ i = .int .i64 k ∧ Onced w w.heap.size w1.heap.size first wr) (fun i wr => 300 - (intOf i).toNat)
  case atStart => exact ⟨0, Nat.zero_le _, by omega, rfl, HS.out⟩
  case round =>
    obtain ⟨k, hk, hk300, rfl, o, t, A, c, ht, hinv, hmk, hx0, hb0, hxb, ho, hkk⟩ := hrel
    have HT := hid ht
    have HINV := hid hinv
    have HM := hid hmk
    have HO := hid ho
    have HKO := hid hkk
    have HBL := hid (show w1.heap.size < wr.heap.size from by obtain ⟨_, h, _⟩ := hmk; exact lt_of_block h)
    clear ht hinv hmk ho hkk hal
    generalize hbb : w1.heap.size = bb at *
    clear hbb
    by_cases hlt : k < ds.length
    · by_cases hlt3 : k < 300
      · have b3 : decide ((k : Int) < 300) = true := decide_eq_true (by omega)
        obtain ⟨b, off, hao, _, _, _, hc⟩ := (HL.out.kept HKO.out (fun _ _ _ => by simp)).rows (by omega)
        have hbd : b < w.heap.size := by
          obtain ⟨b', off', e, _, _, h, _⟩ := HL.out.rows (by omega)
          rw [hao] at e; cases e; exact h
        have HDB := hid hbd
        subst hao
        obtain ⟨g0, _⟩ := deeds_get hlt
        have c0 := hc _ _ g0
        rw [Nat.mul_comm 2 k] at c0
        have HC0 := hid c0
        have hab := HD.out _ (List.getElem_mem hlt)
        clear hc g0
        generalize ds[k].1 = a at *
        have hu : IntKind.u32.wrap a = a % 4294967296 := by rw [IntKind.wrap_u32]
        have hu2 : (first + a % 4294967296) % 4294967296 = (first + a) % 4294967296 := by omega
        obtain ⟨j, hja⟩ : ∃ j : Nat, a % 65536 = (j : Int) := ⟨(a % 65536).toNat, by omega⟩
        have hj : j < 65536 := by omega
        have hu3 : IntKind.u16.wrap a = (j : Int) := by rw [IntKind.wrap_u16, hja]
        have hn : 0 ≤ (first + a) % 4294967296 ∧ (first + a) % 4294967296 < 4294967296 := by omega
        by_cases hneg : a < 0
        · have htk : decide ((j : Int) ∈ A) = false := decide_eq_false (fun hm => by have := HINV.out.lim _ hm; omega)
          obtain ⟨hE, hi'⟩ := HINV.out.known (a := a) (by omega) (.inl hneg) hn
          have HVAL := hid (show false = decide ((j : Int) ∈ A) from htk.symm)
          have HI' := hid hi'
          clear hi'
          generalize (first + a) % 4294967296 = n at *
          have hzz : True := trivial
          go_wp2_with fail
          refine (Cum_any HT.out).mono ?_
          rintro e wq ⟨rfl, rfl⟩
          go_wp2_with fail
          refine (Add_any HT.out hn).mono ?_
          rintro e w3 ⟨rfl, o', ht3, hk3, ho3⟩
          have HT3 := hid ht3
          have HM3 := hid (HM.out.kept hk3 (by simp only [List.mem_cons, Option.mem_toList, not_or]; exact ⟨fun e => hxb e.symm, fun e => (HO.out _ e).2 rfl⟩))
          have HO3 := hid (show ∀ k, o' = some k → w.heap.size ≤ k ∧ k ≠ bb from fun k hk => by
            rcases ho3 with e | e
            · exact HO.out k (e ▸ hk)
            · exact ⟨Nat.le_trans HKO.out.size (e k hk), by have := e k hk; have := HBL.out; omega⟩)
          have HK3 := hid (kept_own HKO.out hx0 (fun k hk => (HO.out k hk).1) hk3)
          have z0 := hk3.cell HC0.out (by simp only [List.mem_cons, Option.mem_toList, not_or]; exact ⟨fun e => by have := HDB.out; omega, fun e => by have := (HO.out _ e).1; have := HDB.out; omega⟩)
          obtain ⟨cs, hcs, hcj⟩ := HM3.out
          have m0 := (blk_cell hcs j).trans (hcj j hj)
          have mf := blk_free hcs
          have hbl3 := lt_of_block hcs
          rw [htk] at m0
          clear ht3 hk3 ho3 hcs hcj c0
          go_wp2_with fail
          have HM4 := hid (HM3.out.put (i := j) (v := false) (A' := A) (fun _ _ _ => Iff.rfl) HVAL.out)
          have HT4 := hid (HT3.out.kept (S := [bb]) ((Kept.refl _ _).setCell (p := ⟨bb, j, none⟩) (.inl (by simp)) (.bool false)) (by simpa using hxb) (fun k hk => by simpa using (HO3.out k hk).2))
          have HK4 := hid (HK3.out.trans (T := [bb]) ((Kept.refl _ _).setCell (p := ⟨bb, j, none⟩) (.inl (by simp)) (.bool false)) (fun z hz => by simp at hz; subst hz; exact .inr hb0))
          have HB1 := hid (show 0 ≤ t.cum ∧ t.cum < 4294967296 from ⟨HINV.out.ok.cum0, HINV.out.ok.cum1⟩)
          have HB2 := hid (show 0 ≤ (t.add n).cum ∧ (t.add n).cum < 4294967296 from ⟨HI'.out.ok.cum0, HI'.out.ok.cum1⟩)
          refine (Cum_any HT4.out).mono ?_
          rintro e wq ⟨rfl, rfl⟩
          go_wp2_with fail
          refine (RefAhead_any 32 t.cum (t.add n).cum _ HB1.out HB2.out).mono ?_
          rintro e w5 ⟨rfl, hk5⟩
          have HT5 := hid (HT4.out.kept hk5 (by simp) (by simp))
          have HM5 := hid (HM4.out.kept hk5 (by simp))
          have HK5 := hid (HK4.out.tr hk5)
          have hw := wrong32 [t.cum, (t.add n).cum]
          have hah : aheadBy 32 t.cum (t.add n).cum = 0 := by
            have := once_ahead HINV.out (k := 0) (by simpa using HI'.out)
            simpa using this
          clear hk5 m0 mf
          have HH1 := hid (has_cum (t.add n))
          have HH2 := hid (has_next HI'.out.ok)
          have HB3 := hid (show 0 ≤ ((t.add n).cum + 1) % 4294967296 ∧ ((t.add n).cum + 1) % 4294967296 < 4294967296 by omega)
          go_wp2_with fail
          refine (Cum_any HT5.out).mono ?_
          rintro e wq ⟨rfl, rfl⟩
          go_wp2_with fail
          refine (Has_any HT5.out HB2.out).mono ?_
          rintro e w6 ⟨rfl, hk6⟩
          have HT6 := hid (HT5.out.kept hk6 (by simp) (by simp))
          have HM6 := hid (HM5.out.kept hk6 (by simp))
          have HK6 := hid (HK5.out.tr hk6)
          have h1 := HH1.out
          clear hk6
          go_wp2_with fail
          refine (Cum_any HT6.out).mono ?_
          rintro e wq ⟨rfl, rfl⟩
          go_wp2_with fail
          refine (Has_any HT6.out HB3.out).mono ?_
          rintro e w7 ⟨rfl, hk7⟩
          have HT7 := hid (HT6.out.kept hk7 (by simp) (by simp))
          have HM7 := hid (HM6.out.kept hk7 (by simp))
          have HK7 := hid (HK6.out.tr hk7)
          have h2 := HH2.out
          clear hk7
          go_wp2
          go_roundw
          case rel => exact ⟨k + 1, by omega, by omega, by go_num, o', _, _, _, HT7.out, HI'.out, HM7.out, hx0, hb0, hxb, HO3.out, HK7.out⟩
          case measure => simp [intOf]; omega
        · have hja' : (j : Int) = a := by omega
          by_cases hmem : a ∈ A
          · have htk : decide ((j : Int) ∈ A) = true := decide_eq_true (by rw [hja']; exact hmem)
            obtain ⟨hE, hi'⟩ := HINV.out.known (a := a) (by omega) (.inr hmem) hn
            have HVAL := hid (show true = decide ((j : Int) ∈ A) from htk.symm)
            have HI' := hid hi'
            clear hi' hja' hmem
            generalize (first + a) % 4294967296 = n at *
            have hzz : True := trivial
            go_wp2_with fail
            refine (Cum_any HT.out).mono ?_
            rintro e wq ⟨rfl, rfl⟩
            go_wp2_with fail
            refine (Add_any HT.out hn).mono ?_
            rintro e w3 ⟨rfl, o', ht3, hk3, ho3⟩
            have HT3 := hid ht3
            have HM3 := hid (HM.out.kept hk3 (by simp only [List.mem_cons, Option.mem_toList, not_or]; exact ⟨fun e => hxb e.symm, fun e => (HO.out _ e).2 rfl⟩))
            have HO3 := hid (show ∀ k, o' = some k → w.heap.size ≤ k ∧ k ≠ bb from fun k hk => by
              rcases ho3 with e | e
              · exact HO.out k (e ▸ hk)
              · exact ⟨Nat.le_trans HKO.out.size (e k hk), by have := e k hk; have := HBL.out; omega⟩)
            have HK3 := hid (kept_own HKO.out hx0 (fun k hk => (HO.out k hk).1) hk3)
            have z0 := hk3.cell HC0.out (by simp only [List.mem_cons, Option.mem_toList, not_or]; exact ⟨fun e => by have := HDB.out; omega, fun e => by have := (HO.out _ e).1; have := HDB.out; omega⟩)
            obtain ⟨cs, hcs, hcj⟩ := HM3.out
            have m0 := (blk_cell hcs j).trans (hcj j hj)
            have mf := blk_free hcs
            have hbl3 := lt_of_block hcs
            rw [htk] at m0
            clear ht3 hk3 ho3 hcs hcj c0
            go_wp2_with fail
            have HM4 := hid (HM3.out.put (i := j) (v := true) (A' := A) (fun _ _ _ => Iff.rfl) HVAL.out)
            have HT4 := hid (HT3.out.kept (S := [bb]) ((Kept.refl _ _).setCell (p := ⟨bb, j, none⟩) (.inl (by simp)) (.bool true)) (by simpa using hxb) (fun k hk => by simpa using (HO3.out k hk).2))
            have HK4 := hid (HK3.out.trans (T := [bb]) ((Kept.refl _ _).setCell (p := ⟨bb, j, none⟩) (.inl (by simp)) (.bool true)) (fun z hz => by simp at hz; subst hz; exact .inr hb0))
            have HB1 := hid (show 0 ≤ t.cum ∧ t.cum < 4294967296 from ⟨HINV.out.ok.cum0, HINV.out.ok.cum1⟩)
            have HB2 := hid (show 0 ≤ (t.add n).cum ∧ (t.add n).cum < 4294967296 from ⟨HI'.out.ok.cum0, HI'.out.ok.cum1⟩)
            refine (Cum_any HT4.out).mono ?_
            rintro e wq ⟨rfl, rfl⟩
            go_wp2_with fail
            refine (RefAhead_any 32 t.cum (t.add n).cum _ HB1.out HB2.out).mono ?_
            rintro e w5 ⟨rfl, hk5⟩
            have HT5 := hid (HT4.out.kept hk5 (by simp) (by simp))
            have HM5 := hid (HM4.out.kept hk5 (by simp))
            have HK5 := hid (HK4.out.tr hk5)
            have hw := wrong32 [t.cum, (t.add n).cum]
            have hah : aheadBy 32 t.cum (t.add n).cum = 0 := by
              have := once_ahead HINV.out (k := 0) (by simpa using HI'.out)
              simpa using this
            clear hk5 m0 mf
            have HH1 := hid (has_cum (t.add n))
            have HH2 := hid (has_next HI'.out.ok)
            have HB3 := hid (show 0 ≤ ((t.add n).cum + 1) % 4294967296 ∧ ((t.add n).cum + 1) % 4294967296 < 4294967296 by omega)
            go_wp2_with fail
            refine (Cum_any HT5.out).mono ?_
            rintro e wq ⟨rfl, rfl⟩
            go_wp2_with fail
            refine (Has_any HT5.out HB2.out).mono ?_
            rintro e w6 ⟨rfl, hk6⟩
            have HT6 := hid (HT5.out.kept hk6 (by simp) (by simp))
            have HM6 := hid (HM5.out.kept hk6 (by simp))
            have HK6 := hid (HK5.out.tr hk6)
            have h1 := HH1.out
            clear hk6
            go_wp2_with fail
            refine (Cum_any HT6.out).mono ?_
            rintro e wq ⟨rfl, rfl⟩
            go_wp2_with fail
            refine (Has_any HT6.out HB3.out).mono ?_
            rintro e w7 ⟨rfl, hk7⟩
            have HT7 := hid (HT6.out.kept hk7 (by simp) (by simp))
            have HM7 := hid (HM6.out.kept hk7 (by simp))
            have HK7 := hid (HK6.out.tr hk7)
            have h2 := HH2.out
            clear hk7
            go_wp2
            go_roundw
            case rel => exact ⟨k + 1, by omega, by omega, by go_num, o', _, _, _, HT7.out, HI'.out, HM7.out, hx0, hb0, hxb, HO3.out, HK7.out⟩
            case measure => simp [intOf]; omega
          · have htk : decide ((j : Int) ∈ A) = false := decide_eq_false (by rw [hja']; exact hmem)
            by_cases hfull : 256 < a + 1 - c
            · obtain ⟨hE, hi'⟩ := HINV.out.full (a := a) (by omega) (fun h => h.elim hneg hmem) hfull
              have HVAL := hid (show false = decide ((j : Int) ∈ A) from htk.symm)
              have HI' := hid hi'
              clear hi' hja' hmem hfull
              generalize (first + a) % 4294967296 = n at *
              have hzz : True := trivial
              go_wp2_with fail
              refine (Cum_any HT.out).mono ?_
              rintro e wq ⟨rfl, rfl⟩
              go_wp2_with fail
              refine (Add_any HT.out hn).mono ?_
              rintro e w3 ⟨rfl, o', ht3, hk3, ho3⟩
              have HT3 := hid ht3
              have HM3 := hid (HM.out.kept hk3 (by simp only [List.mem_cons, Option.mem_toList, not_or]; exact ⟨fun e => hxb e.symm, fun e => (HO.out _ e).2 rfl⟩))
              have HO3 := hid (show ∀ k, o' = some k → w.heap.size ≤ k ∧ k ≠ bb from fun k hk => by
                rcases ho3 with e | e
                · exact HO.out k (e ▸ hk)
                · exact ⟨Nat.le_trans HKO.out.size (e k hk), by have := e k hk; have := HBL.out; omega⟩)
              have HK3 := hid (kept_own HKO.out hx0 (fun k hk => (HO.out k hk).1) hk3)
              have z0 := hk3.cell HC0.out (by simp only [List.mem_cons, Option.mem_toList, not_or]; exact ⟨fun e => by have := HDB.out; omega, fun e => by have := (HO.out _ e).1; have := HDB.out; omega⟩)
              obtain ⟨cs, hcs, hcj⟩ := HM3.out
              have m0 := (blk_cell hcs j).trans (hcj j hj)
              have mf := blk_free hcs
              have hbl3 := lt_of_block hcs
              rw [htk] at m0
              clear ht3 hk3 ho3 hcs hcj c0
              go_wp2_with fail
              have HM4 := hid (HM3.out.put (i := j) (v := false) (A' := A) (fun _ _ _ => Iff.rfl) HVAL.out)
              have HT4 := hid (HT3.out.kept (S := [bb]) ((Kept.refl _ _).setCell (p := ⟨bb, j, none⟩) (.inl (by simp)) (.bool false)) (by simpa using hxb) (fun k hk => by simpa using (HO3.out k hk).2))
              have HK4 := hid (HK3.out.trans (T := [bb]) ((Kept.refl _ _).setCell (p := ⟨bb, j, none⟩) (.inl (by simp)) (.bool false)) (fun z hz => by simp at hz; subst hz; exact .inr hb0))
              have HB1 := hid (show 0 ≤ t.cum ∧ t.cum < 4294967296 from ⟨HINV.out.ok.cum0, HINV.out.ok.cum1⟩)
              have HB2 := hid (show 0 ≤ (t.add n).cum ∧ (t.add n).cum < 4294967296 from ⟨HI'.out.ok.cum0, HI'.out.ok.cum1⟩)
              refine (Cum_any HT4.out).mono ?_
              rintro e wq ⟨rfl, rfl⟩
              go_wp2_with fail
              refine (RefAhead_any 32 t.cum (t.add n).cum _ HB1.out HB2.out).mono ?_
              rintro e w5 ⟨rfl, hk5⟩
              have HT5 := hid (HT4.out.kept hk5 (by simp) (by simp))
              have HM5 := hid (HM4.out.kept hk5 (by simp))
              have HK5 := hid (HK4.out.tr hk5)
              have hw := wrong32 [t.cum, (t.add n).cum]
              have hah : aheadBy 32 t.cum (t.add n).cum = 0 := by
                have := once_ahead HINV.out (k := 0) (by simpa using HI'.out)
                simpa using this
              clear hk5 m0 mf
              have HH1 := hid (has_cum (t.add n))
              have HH2 := hid (has_next HI'.out.ok)
              have HB3 := hid (show 0 ≤ ((t.add n).cum + 1) % 4294967296 ∧ ((t.add n).cum + 1) % 4294967296 < 4294967296 by omega)
              go_wp2_with fail
              refine (Cum_any HT5.out).mono ?_
              rintro e wq ⟨rfl, rfl⟩
              go_wp2_with fail
              refine (Has_any HT5.out HB2.out).mono ?_
              rintro e w6 ⟨rfl, hk6⟩
              have HT6 := hid (HT5.out.kept hk6 (by simp) (by simp))
              have HM6 := hid (HM5.out.kept hk6 (by simp))
              have HK6 := hid (HK5.out.tr hk6)
              have h1 := HH1.out
              clear hk6
              go_wp2_with fail
              refine (Cum_any HT6.out).mono ?_
              rintro e wq ⟨rfl, rfl⟩
              go_wp2_with fail
              refine (Has_any HT6.out HB3.out).mono ?_
              rintro e w7 ⟨rfl, hk7⟩
              have HT7 := hid (HT6.out.kept hk7 (by simp) (by simp))
              have HM7 := hid (HM6.out.kept hk7 (by simp))
              have HK7 := hid (HK6.out.tr hk7)
              have h2 := HH2.out
              clear hk7
              go_wp2
              go_roundw
              case rel => exact ⟨k + 1, by omega, by omega, by go_num, o', _, _, _, HT7.out, HI'.out, HM7.out, hx0, hb0, hxb, HO3.out, HK7.out⟩
              case measure => simp [intOf]; omega
            · obtain ⟨hE, kk, hi'⟩ := HINV.out.taken (a := a) (by omega) (fun h => h.elim hneg hmem) hfull
              have HVAL := hid (show true = decide ((j : Int) ∈ a :: A) from by rw [hja']; simp)
              have HJA := hid hja'
              have HI' := hid hi'
              clear hi' hja' hmem hfull
              generalize (first + a) % 4294967296 = n at *
              have hzz : True := trivial
              go_wp2_with fail
              refine (Cum_any HT.out).mono ?_
              rintro e wq ⟨rfl, rfl⟩
              go_wp2_with fail
              refine (Add_any HT.out hn).mono ?_
              rintro e w3 ⟨rfl, o', ht3, hk3, ho3⟩
              have HT3 := hid ht3
              have HM3 := hid (HM.out.kept hk3 (by simp only [List.mem_cons, Option.mem_toList, not_or]; exact ⟨fun e => hxb e.symm, fun e => (HO.out _ e).2 rfl⟩))
              have HO3 := hid (show ∀ k, o' = some k → w.heap.size ≤ k ∧ k ≠ bb from fun k hk => by
                rcases ho3 with e | e
                · exact HO.out k (e ▸ hk)
                · exact ⟨Nat.le_trans HKO.out.size (e k hk), by have := e k hk; have := HBL.out; omega⟩)
              have HK3 := hid (kept_own HKO.out hx0 (fun k hk => (HO.out k hk).1) hk3)
              have z0 := hk3.cell HC0.out (by simp only [List.mem_cons, Option.mem_toList, not_or]; exact ⟨fun e => by have := HDB.out; omega, fun e => by have := (HO.out _ e).1; have := HDB.out; omega⟩)
              obtain ⟨cs, hcs, hcj⟩ := HM3.out
              have m0 := (blk_cell hcs j).trans (hcj j hj)
              have mf := blk_free hcs
              have hbl3 := lt_of_block hcs
              rw [htk] at m0
              clear ht3 hk3 ho3 hcs hcj c0
              go_wp2_with fail
              have HM4 := hid (HM3.out.put (i := j) (v := true) (A' := a :: A) (fun i _ hi => by rw [List.mem_cons]; exact ⟨.inr, fun h => h.resolve_left (fun e => hi (by have := HJA.out; omega))⟩) HVAL.out)
              have HT4 := hid (HT3.out.kept (S := [bb]) ((Kept.refl _ _).setCell (p := ⟨bb, j, none⟩) (.inl (by simp)) (.bool true)) (by simpa using hxb) (fun k hk => by simpa using (HO3.out k hk).2))
              have HK4 := hid (HK3.out.trans (T := [bb]) ((Kept.refl _ _).setCell (p := ⟨bb, j, none⟩) (.inl (by simp)) (.bool true)) (fun z hz => by simp at hz; subst hz; exact .inr hb0))
              have HB1 := hid (show 0 ≤ t.cum ∧ t.cum < 4294967296 from ⟨HINV.out.ok.cum0, HINV.out.ok.cum1⟩)
              have HB2 := hid (show 0 ≤ (t.add n).cum ∧ (t.add n).cum < 4294967296 from ⟨HI'.out.ok.cum0, HI'.out.ok.cum1⟩)
              refine (Cum_any HT4.out).mono ?_
              rintro e wq ⟨rfl, rfl⟩
              go_wp2_with fail
              refine (RefAhead_any 32 t.cum (t.add n).cum _ HB1.out HB2.out).mono ?_
              rintro e w5 ⟨rfl, hk5⟩
              have HT5 := hid (HT4.out.kept hk5 (by simp) (by simp))
              have HM5 := hid (HM4.out.kept hk5 (by simp))
              have HK5 := hid (HK4.out.tr hk5)
              have hw := wrong32 [t.cum, (t.add n).cum]
              have hah : aheadBy 32 t.cum (t.add n).cum = (kk : Int) := by
                have := once_ahead HINV.out (k := kk) HI'.out
                simpa using this
              clear hk5 m0 mf
              have HH1 := hid (has_cum (t.add n))
              have HH2 := hid (has_next HI'.out.ok)
              have HB3 := hid (show 0 ≤ ((t.add n).cum + 1) % 4294967296 ∧ ((t.add n).cum + 1) % 4294967296 < 4294967296 by omega)
              go_wp2_with fail
              refine (Cum_any HT5.out).mono ?_
              rintro e wq ⟨rfl, rfl⟩
              go_wp2_with fail
              refine (Has_any HT5.out HB2.out).mono ?_
              rintro e w6 ⟨rfl, hk6⟩
              have HT6 := hid (HT5.out.kept hk6 (by simp) (by simp))
              have HM6 := hid (HM5.out.kept hk6 (by simp))
              have HK6 := hid (HK5.out.tr hk6)
              have h1 := HH1.out
              clear hk6
              go_wp2_with fail
              refine (Cum_any HT6.out).mono ?_
              rintro e wq ⟨rfl, rfl⟩
              go_wp2_with fail
              refine (Has_any HT6.out HB3.out).mono ?_
              rintro e w7 ⟨rfl, hk7⟩
              have HT7 := hid (HT6.out.kept hk7 (by simp) (by simp))
              have HM7 := hid (HM6.out.kept hk7 (by simp))
              have HK7 := hid (HK6.out.tr hk7)
              have h2 := HH2.out
              clear hk7
              go_wp2
              go_roundw
              case rel => exact ⟨k + 1, by omega, by omega, by go_num, o', _, _, _, HT7.out, HI'.out, HM7.out, hx0, hb0, hxb, HO3.out, HK7.out⟩
              case measure => simp [intOf]; omega
      · have b3 : decide ((k : Int) < 300) = false := decide_eq_false (by omega)
        go_wp2_with fail
        refine (live_any _).mono ?_
        rintro e w9 ⟨rfl, hk9⟩
        have HK9 := hid (HKO.out.tr hk9)
        clear hk9
        go_wp2
        go_ret
        exact ⟨rfl, HK9.out⟩
    · go_wp2_with fail
      refine (live_any _).mono ?_
      rintro e w9 ⟨rfl, hk9⟩
      have HK9 := hid (HKO.out.tr hk9)
      clear hk9
      go_wp2
      go_ret
      exact ⟨rfl, HK9.out⟩
end

end Go.Proofs.Ythdcodjdecnniaa
