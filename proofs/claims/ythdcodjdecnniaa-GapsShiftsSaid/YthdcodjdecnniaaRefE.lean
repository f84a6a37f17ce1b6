/-
  The reference's Blocks.
-/
import Derived.Test.YthdcodjdecnniaaRefD
namespace Go.Proofs.Ythdcodjdecnniaa
open Go.RowKit

/-- What Blocks returns. -/
def BlocksTo (w : World) (l : List Int) (e : Ending) (w' : World) : Prop := ∃ v, e = .returned v ∧ SliceIn (w.heap.size ≤ ·) w' 2 v (blocksOf l).length (u16s (blocksOf l)) ∧ Kept [] w w'

theorem SliceIn.first {B : Nat → Prop} {w : World} {cap b off : Nat} {l : List (Int × Int)} (h : SliceIn B w 2 (.slice (some ⟨b, off, none⟩) l.length cap) l.length (u16s l)) (hk : 16 < l.length) :
    SliceIn B w 2 (.slice (some ⟨b, off, none⟩) 16 cap) 16 (u16s (l.take 16)) := by
  obtain ⟨b', off', he, h2, h3, h4, h5⟩ := h.rows (by omega)
  cases he
  have hl : (l.take 16).length = 16 := by simp; omega
  have hu : ∀ m : List (Int × Int), (u16s m).length = m.length * 2 := by
    intro m
    induction m with
    | nil => rfl
    | cons r m ih =>
      have e : u16s (r :: m) = .int .u16 (r.1 % 65536) :: .int .u16 (r.2 % 65536) :: u16s m := rfl
      rw [e]; simp [ih]; omega
  refine ⟨by rw [hu, hl], .inr ⟨b, off, cap, rfl, by omega, h3, h4, fun j u hj => h5 j u ?_⟩⟩
  have e : u16s l = u16s (l.take 16) ++ u16s (l.drop 16) := by
    rw [u16s, u16s, u16s, ← List.flatMap_append, List.take_append_drop]
  rw [e, List.getElem?_append_left (List.getElem?_eq_some_iff.1 hj).1]
  exact hj

set_option maxHeartbeats 400000 in
theorem RefBlocks_any {B : Nat → Prop} {w : World} {y : Nat} {t : T} (h : Ref B w y t) : Calls Try.prog 39 #[.pointer (some ⟨y, 0, none⟩)] w (BlocksTo w t.far) := by
  have HR := hid (RefRuns_any h)
  clear h
  go_enter Try.func39, Try.ntmps39
  go_wp2_with fail
  refine HR.out.mono ?_
  rintro e w1 ⟨v, rfl, hown, hk⟩
  have hS := SliceIn.owned hown
  obtain ⟨ao, cap, rfl⟩ := hS.form
  by_cases hl : 16 < (runsOf t.far).length
  · obtain ⟨b, off, hao, hle, _⟩ := hS.rows (by omega)
    subst hao
    have HF := hid (show BlocksTo w t.far (.returned (.slice (some ⟨b, off, none⟩) 16 cap)) w1 from by
      have e : (blocksOf t.far).length = 16 := by simp [blocksOf]; omega
      refine ⟨_, rfl, ?_, hk⟩
      rw [e]
      exact hS.first hl)
    have hc : 16 ≤ cap := by omega
    have b0 : decide (16 < ((runsOf t.far).length : Int)) = true := decide_eq_true (by omega)
    clear hown hk hS
    go_wp2
    go_ret
    exact HF.out
  · have HF := hid (show BlocksTo w t.far (.returned (.slice ao (runsOf t.far).length cap)) w1 from by
      have e : blocksOf t.far = runsOf t.far := List.take_of_length_le (by omega)
      refine ⟨_, rfl, ?_, hk⟩
      rw [e]; exact hS)
    have b0 : decide (16 < ((runsOf t.far).length : Int)) = false := decide_eq_false (by omega)
    clear hown hk hS
    go_wp2
    go_ret
    exact HF.out

end Go.Proofs.Ythdcodjdecnniaa
