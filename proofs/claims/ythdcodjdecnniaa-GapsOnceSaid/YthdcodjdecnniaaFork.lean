/-
  Fork on a tracker in memory; slices.Clone at []uint32; the reference's Fork.
-/
import Derived.Test.YthdcodjdecnniaaPlay
import Derived.Test.YthdcodjdecnniaaLive
namespace Go.Proofs.Ythdcodjdecnniaa
open Go.RowKit

@[go_sem] theorem eqNil49 (w : World) (a : Option Addr) (n c : Nat) : (binOp .eql 49 (.slice a n c) (.slice none 0 0)).run Try.prog w = .ok (.bool a.isNone) w := Lib.run_eql_slice_nil w 49 22 a n c 0 0 Try.underlying49

def Cloned (w : World) (xs : List Int) (e : Ending) (w' : World) : Prop := ∃ v, e = .returned v ∧ w'.ownsRow w.heap.size 22 1 v xs.length (u32s xs) ∧ Kept [] w w'

set_option maxHeartbeats 400000 in
theorem clone_any {B : Nat → Prop} {w : World} {v : Value} {xs : List Int} (hv : SliceIn B w 1 v xs.length (u32s xs)) (hl : xs.length ≤ 1000) : Calls Try.prog 34 #[v] w (Cloned w xs) := by
  obtain ⟨i0, hi, hz0, hz1, hz2⟩ := info_parts info22
  obtain ⟨ao, cap, rfl, hao⟩ := hv.form0
  have HV := hid hv
  have HK := hid (Kept.refl [] w)
  cases ao with
  | none =>
    have hF : Cloned w xs (.returned (.slice none 0 0)) w := by
      have h0 := (hao rfl).1
      have : xs = [] := List.eq_nil_of_length_eq_zero h0
      subst this
      exact ⟨_, rfl, World.ownsRow_nil _ _ _ _, HK.out⟩
    have HF := hid hF
    clear hv hF hao
    go_enter Try.func34, Try.ntmps34
    go_wp2
    go_ret
    exact HF.out
  | some ad =>
    clear hv hao
    go_enter Try.func34, Try.ntmps34
    go_wp2_with (at_builtin; refine wpList_append_in _ rfl (.tmp 5) (.tmp 6) 49 rfl w.heap.size 22 i0 (.int .u32 0) 1 4 Try.underlying49 hi hz0 hz1 hz2 rfl (by decide) _ 0 [] rfl (World.ownsRow_made w #[] 0 (Nat.le_refl _) (Nat.zero_le _) rfl) B _ xs.length (u32s xs) rfl (HV.out.kept ((Kept.refl [] w).alloc _) (fun _ _ _ h => by cases h)) (u32s_one _) (by unfold maxLen; omega) (by omega) (by simp) ?_)
    intro v' w' hown hgrow _
    have HF := hid (show Cloned w xs (.returned v') w' from ⟨_, rfl, by simpa using hown, ((Kept.refl [] w).alloc _).grown hgrow (fun k h => by cases h; exact .inr (Nat.le_refl _))⟩)
    clear hown hgrow
    go_wp2
    go_ret
    exact HF.out

theorem Cells.one {c : Int} {l : List Int} {L : List Value} {dv : Value} (h : Cells c l L dv) (hd : dv.oneCell' = true) : ∀ v ∈ L, v.oneCell' = true := by
  intro v hv
  obtain ⟨i, hi, rfl⟩ := List.mem_iff_getElem.1 hv
  have hlen := h.len
  have e : L[i]? = some L[i] := List.getElem?_eq_getElem hi
  by_cases h0 : i = 0
  · subst h0
    rw [h.cum] at e
    rw [← Option.some.inj e]; rfl
  · by_cases h1 : i = 1
    · subst h1
      obtain ⟨b, hb⟩ := h.zero
      rw [hb] at e
      rw [← Option.some.inj e]; rfl
    · by_cases h2 : i = 259
      · subst h2
        rw [h.dups] at e
        rw [← Option.some.inj e]; exact hd
      · have := h.held (i - 1) (by omega) (by omega)
        rw [show 1 + (i - 1) = i by omega, e] at this
        rw [Option.some.inj this]; rfl

theorem info60 : (Try.prog.info? 60).map (fun i => i.size) = some 260 := by kernel_rfl

def Forked (w : World) (t : T) (e : Ending) (w' : World) : Prop := ∃ o, e = .returned (.pointer (some ⟨w.heap.size, 0, none⟩)) ∧ Track w' w.heap.size o t ∧ (∀ k, o = some k → w.heap.size ≤ k) ∧ Kept [] w w'

theorem run_load49 (w : World) (a : Addr) (v : Value) (h : w.cell? a = some v) : (loadVar 49 a).run Try.prog w = .ok v w := by
  simp [go_sem, h]
theorem run_store49 (w : World) (b o : Nat) (eo : Option Addr) (n c : Nat) (h : ∃ u, w.cell? ⟨b, o, none⟩ = some u) (hf : w.frozen? ⟨b, o, none⟩ = false) : (storeVar 49 ⟨b, o, none⟩ (.slice eo n c)).run Try.prog w = .ok () (w.setCell ⟨b, o, none⟩ (.slice eo n c)) := by
  obtain ⟨u, hu⟩ := h
  simp [go_sem, hu, hf]
theorem alloc60 (w : World) : (Instr.alloc 60 true (.tuple #[])).run Try.prog w = .ok (.pointer (some ⟨w.heap.size, 0, none⟩)) (w.alloc (.cells (fresh 0).toArray 60 (0, 0))) := by
  kernel_rfl

section
attribute [-go_sem] loadVar storeVar Instr.alloc
set_option maxHeartbeats 1000000 in
theorem Fork_any {w : World} {x : Nat} {o : Option Nat} {t : T} (h : Track w x o t) : Calls Try.prog 24 #[.pointer (some ⟨x, 0, none⟩)] w (Forked w t) := by
  obtain ⟨L, dv, g1, g2, g3, g4⟩ := h.blk
  have hload := run_loadVar_row (P := Try.prog) w x 60 60 L.toArray (0, 0) _ g1 Try.underlying60 rfl (by rw [info60]; simp [g2.len])
  have hxl := lt_of_block g1
  obtain ⟨ao, cap, rfl⟩ := (SliceIn.owned g3).form
  have hone := g2.one rfl
  have hstore : (storeVar 60 ⟨w.heap.size, 0, none⟩ (.agg L.toArray)).run Try.prog (w.alloc (.cells (fresh 0).toArray 60 (0, 0))) = .ok () ((w.alloc (.cells (fresh 0).toArray 60 (0, 0))).setRow w.heap.size L.toArray) :=
    run_storeVar_row (P := Try.prog) _ w.heap.size 60 60 (fresh 0).toArray L.toArray (blk_new w _) (by rw [info60]; simp [g2.len]) (by simp [g2.len, (fresh_cells 0).len]) (by rw [List.all_toArray, List.all_eq_true]; exact hone)
  have hw2b : ((w.alloc (.cells (fresh 0).toArray 60 (0, 0))).setRow w.heap.size L.toArray).heap[w.heap.size]? = some (.cells L.toArray 60 (0, 0)) := setRow_heap _ _ _ _ _ _ (blk_new w _)
  have hw2k : Kept [] w ((w.alloc (.cells (fresh 0).toArray 60 (0, 0))).setRow w.heap.size L.toArray) :=
    ((Kept.refl [] w).alloc _).trans (T := [w.heap.size]) ⟨rfl, rfl, rfl, by simp [World.setRow], fun k hk hne => setRow_other _ _ k _ (by simpa using hne)⟩ (fun z hz => by simp at hz; subst hz; exact .inr (Nat.le_refl _))
  have halloc := alloc60 w
  generalize hW2 : (w.alloc (.cells (fresh 0).toArray 60 (0, 0))).setRow w.heap.size L.toArray = W2 at *
  have hbx := hw2k.blk g1 (by simp)
  have HW2 := hid hw2b
  have HK2 := hid hw2k
  have hload49 : (loadVar 49 ⟨x, 259, none⟩).run Try.prog W2 = .ok (.slice ao t.dups.length cap) W2 := run_load49 W2 _ _ (g2.cell259 hbx)
  have HG2 := hid g2
  have HCL := hid (clone_any (SliceIn.owned (ownsRow_kept g3 hw2k (fun _ _ => by simp))) (by have := h.ok.few; omega))
  have HOK := hid h.ok
  have hsz := hw2k.size
  have hlt2 := lt_of_block hw2b
  clear hone hw2b hw2k hbx g1 g2 g3 g4 hW2 h
  go_enter Try.func24, Try.ntmps24
  go_wp2_with fail
  refine HCL.out.mono ?_
  rintro e w3 ⟨v', rfl, hown, hk3⟩
  have hb3 := hk3.blk HW2.out (by simp)
  obtain ⟨eo, ec, rfl⟩ := (SliceIn.owned hown).form
  have hst := run_store49 w3 w.heap.size 259 eo t.dups.length ec ⟨_, HG2.out.cell259 hb3⟩ (blk_free hb3 259)
  have hF : Forked w t (.returned (.pointer (some ⟨w.heap.size, 0, none⟩))) (w3.setCell ⟨w.heap.size, 259, none⟩ (.slice eo t.dups.length ec)) := by
    have hkk : Kept [w.heap.size] w3 (w3.setCell ⟨w.heap.size, 259, none⟩ (.slice eo t.dups.length ec)) := (Kept.refl _ _).setCell (p := ⟨w.heap.size, 259, none⟩) (.inl (by simp)) _
    have hge : ∀ k, (Value.slice eo t.dups.length ec).ownBlock = some k → W2.heap.size ≤ k := fun k hk => (hown.lt k hk).1
    refine ⟨_, rfl, ⟨HOK.out, ⟨_, _, list_set hb3 259 _, cells_dups HG2.out _, (ownsRow_kept hown hkk (fun k hk => by have := hge k hk; simp; omega)).1 |> fun _ => ownsRow_low (ownsRow_kept hown hkk (fun k hk => by have := hge k hk; simp; omega)) (Nat.zero_le _), rfl⟩, fun e => by have := hge _ e; omega⟩, fun k hk => by have := hge k hk; omega, ?_⟩
    exact (HK2.out.tr hk3).trans hkk (fun z hz => by simp at hz; subst hz; exact .inr (Nat.le_refl _))
  have HF := hid hF
  clear hF hown hk3 hb3
  go_wp2
  go_ret
  exact HF.out
end

end Go.Proofs.Ythdcodjdecnniaa
