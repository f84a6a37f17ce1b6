/-
  Has, Dups, Add on a tracker in memory.
-/
import Derived.Test.YthdcodjdecnniaaTrack
import Derived.Laws.CopyOwn
import Derived.Deep.RegionLaw
namespace Go.Proofs.Ythdcodjdecnniaa
open Go.RowKit

theorem Cells.cellh {w : World} {x : Nat} {L : List Value} {c : Int} {l : List Int} {dv : Value} {f : Nat × Nat} (hc : Cells c l L dv) (h : w.heap[x]? = some (.cells L.toArray 60 f)) {n : Int} (h1 : 1 ≤ n) (h2 : n ≤ 257) :
    w.cell? ⟨x, 1 + n.toNat, none⟩ = some (.bool (decide (n ∈ l))) := by
  rw [list_cell h, hc.held n.toNat (by omega) (by omega)]
  have : ((n.toNat : Nat) : Int) = n := by omega
  rw [this]

theorem Has_any {w : World} {x : Nat} {o : Option Nat} {t : T} (h : Track w x o t) {n : Int} (hn : 0 ≤ n ∧ n < 4294967296) :
    Calls Try.prog 19 #[.pointer (some ⟨x, 0, none⟩), .int .u32 n] w fun e w' => e = .returned (.bool (t.has n)) ∧ Kept [] w w' := by
  have HA := hid (ahead_any h hn)
  have HT := hid h
  have hr := @ahead_range 32 t.cum n rfl
  have HG := hid (show t.has n = (decide (aheadBy 32 t.cum n ≤ 0) || decide (aheadBy 32 t.cum n ∈ t.far)) from rfl)
  have hfar := hid h.ok.far.2
  clear h hn
  generalize aheadBy 32 t.cum n = d at *
  go_enter Try.func19, Try.ntmps19
  go_wp2_with fail
  refine HA.out.mono ?_
  rintro e w1 ⟨rfl, hk⟩
  have HK := hid hk
  have HT1 := hid (HT.out.kept hk (by simp) (by simp))
  clear hk
  by_cases h0 : d ≤ 0
  · have b0 : decide (d ≤ 0) = true := decide_eq_true h0
    go_wp2
    go_ret
    rw [HG.out]
    exact ⟨by simp [h0], HK.out⟩
  · have b0 : decide (d ≤ 0) = false := decide_eq_false h0
    by_cases h1 : d ≤ 256
    · have b1 : decide (d ≤ 256) = true := decide_eq_true h1
      obtain ⟨L, dv, g1, g2, _⟩ := HT1.out.blk
      have ch := g2.cellh g1 (n := d) (by omega) (by omega)
      clear g1 g2
      go_wp2
      go_ret
      rw [HG.out]
      exact ⟨by simp [b0], HK.out⟩
    · have b1 : decide (d ≤ 256) = false := decide_eq_false h1
      have HN := hid (show d ∉ t.far from fun hm => by have := hfar.out d hm; omega)
      go_wp2
      go_ret
      rw [HG.out]
      exact ⟨by have := HN.out; simp [b0, this], HK.out⟩

def Told (w : World) (x : Nat) (o : Option Nat) (t : T) (e : Ending) (w' : World) : Prop :=
  ∃ dv, e = .returned dv ∧ w'.ownsRow 0 22 1 dv t.dups.length (u32s t.dups) ∧ dv.ownBlock = o ∧ Track w' x none t.told ∧ Kept [x] w w'

theorem set_cells {c c' : Int} {l l' : List Int} {L : List Value} {dv dv' : Value} (h : Cells c l L dv) (hl : l' = l) : Cells c' l' ((L.set 0 (.int .u32 c')).set 259 dv') dv' := by
  subst hl
  refine ⟨by simp [h.len], by simp [h.len], fun i h1 h2 => ?_, ?_, by simp [h.len]⟩
  · rw [List.getElem?_set_ne (by omega), List.getElem?_set_ne (by omega)]; exact h.held i h1 h2
  · obtain ⟨b, hb⟩ := h.zero
    exact ⟨b, by rw [List.getElem?_set_ne (by omega), List.getElem?_set_ne (by omega)]; exact hb⟩

theorem list_set {w : World} {x : Nat} {L : List Value} {f : Nat × Nat} (h : w.heap[x]? = some (.cells L.toArray 60 f)) (o : Nat) (u : Value) : (w.setCell ⟨x, o, none⟩ u).heap[x]? = some (.cells (L.set o u).toArray 60 f) := by
  rw [blk_set h]; simp

theorem cells_dups {c : Int} {l : List Int} {L : List Value} {dv : Value} (h : Cells c l L dv) (dv' : Value) : Cells c l (L.set 259 dv') dv' := by
  have := set_cells (c' := c) (dv' := dv') h rfl
  have e : L.set 0 (.int .u32 c) = L := by
    apply List.ext_getElem?
    intro i
    by_cases hi : i = 0
    · subst hi; rw [List.getElem?_set_self (by rw [h.len]; omega), h.cum]
    · rw [List.getElem?_set_ne (by omega)]
  rwa [e] at this

theorem Dups_any {w : World} {x : Nat} {o : Option Nat} {t : T} (h : Track w x o t) : Calls Try.prog 21 #[.pointer (some ⟨x, 0, none⟩)] w (Told w x o t) := by
  have hap := h.apart
  obtain ⟨L, dv, h1, h2, h3, h4⟩ := h.blk
  have hx := lt_of_block h1
  have hk : Kept [x] w (w.setCell ⟨x, 259, none⟩ (.slice none 0 0)) := (Kept.refl _ w).setCell (.inl (by simp)) _
  have HF := hid (show Told w x o t (.returned dv) (w.setCell ⟨x, 259, none⟩ (.slice none 0 0)) from
    ⟨dv, rfl, ownsRow_kept h3 hk (fun k e => by
        have : x ≠ k := fun he => hap (by rw [← h4, e, he])
        simp [Ne.symm this]), h4, ⟨T.told_ok h.ok, ⟨_, _, list_set h1 259 _, cells_dups h2 _, World.ownsRow_nil _ _ _ _, rfl⟩, by simp⟩, hk⟩)
  have c0 := h2.cell259 h1
  have f0 := blk_free h1
  clear h h1 h2 h3 h4 hk hap
  go_enter Try.func21, Try.ntmps21
  go_wp2
  go_ret
  exact HF.out

end Go.Proofs.Ythdcodjdecnniaa
