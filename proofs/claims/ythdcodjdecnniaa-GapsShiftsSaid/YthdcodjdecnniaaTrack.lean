/-
  A tracker in memory ('Track'); New, Cum, ahead, Has, Dups: what they do to it.
-/
import Derived.Test.YthdcodjdecnniaaPlain
import Derived.Laws.Tables
namespace Go.Proofs.Ythdcodjdecnniaa
open Go.RowKit

/-- The cells of a tracker. -/
structure Cells (c : Int) (l : List Int) (L : List Value) (dv : Value) : Prop where
  len : L.length = 260
  cum : L[0]? = some (.int .u32 c)
  held : ∀ i : Nat, 1 ≤ i → i ≤ 257 → L[1 + i]? = some (.bool (decide ((i : Int) ∈ l)))
  zero : ∃ b0, L[1]? = some (.bool b0)
  dups : L[259]? = some dv

structure Track (w : World) (x : Nat) (o : Option Nat) (t : T) : Prop where
  ok : t.ok
  blk : ∃ L dv, w.heap[x]? = some (.cells L.toArray 60 (0, 0)) ∧ Cells t.cum t.far L dv ∧ w.ownsRow 0 22 1 dv t.dups.length (u32s t.dups) ∧ dv.ownBlock = o
  apart : o ≠ some x

theorem ownsRow_kept {S : List Nat} {w w' : World} {b : Nat} {e : TypeId} {size n : Nat} {v : Value} {xs : List Value} (h : w.ownsRow b e size v n xs) (hk : Kept S w w') (hS : ∀ k, v.ownBlock = some k → k ∉ S) : w'.ownsRow b e size v n xs := by
  refine ⟨h.1, ?_⟩
  rcases h.2 with h | ⟨g, cap, cur, h1, h2, h3, h4⟩
  · exact .inl h
  · exact .inr ⟨g, cap, cur, h1, h2, hk.blk h3 (hS g (by rw [h1]; rfl)), h4⟩

theorem Track.kept {S : List Nat} {w w' : World} {x : Nat} {o : Option Nat} {t : T} (h : Track w x o t) (hk : Kept S w w') (hx : x ∉ S) (hS : ∀ k, o = some k → k ∉ S) : Track w' x o t := by
  obtain ⟨L, dv, h1, h2, h3, h4⟩ := h.blk
  exact ⟨h.ok, ⟨L, dv, hk.blk h1 hx, h2, ownsRow_kept h3 hk (fun k e => hS k (h4.symm.trans e)), h4⟩, h.apart⟩
theorem Track.lt {w : World} {x : Nat} {o : Option Nat} {t : T} (h : Track w x o t) : x < w.heap.size := by
  obtain ⟨L, dv, h1, _⟩ := h.blk
  exact lt_of_block h1
theorem Track.drewN {w : World} {x : Nat} {o : Option Nat} {t : T} (h : Track w x o t) (n : Nat) : Track (w.drewN n) x o t :=
  h.kept (S := []) ((Kept.refl _ w).drewN n) (by simp) (fun _ _ => by simp)
theorem own_lt {w : World} {b : Nat} {e : TypeId} {size n : Nat} {v : Value} {xs : List Value} (h : w.ownsRow b e size v n xs) : ∀ k, v.ownBlock = some k → k < w.heap.size := by
  intro k hk
  rcases h.2 with ⟨rfl, _⟩ | ⟨g, cap, cur, rfl, h2, h3, h4⟩
  · cases hk
  · cases hk; exact lt_of_block h3
theorem Track.own {w : World} {x : Nat} {o : Option Nat} {t : T} (h : Track w x o t) : ∀ k, o = some k → k < w.heap.size := by
  obtain ⟨L, dv, h1, h2, h3, h4⟩ := h.blk
  intro k hk
  exact own_lt h3 k (h4.trans hk)

section
variable {w : World} {x : Nat} {L : List Value} {c : Int} {l : List Int} {dv : Value} {f : Nat × Nat}
theorem list_cell (h : w.heap[x]? = some (.cells L.toArray 60 f)) (o : Nat) : w.cell? ⟨x, o, none⟩ = L[o]? := by rw [blk_cell h]; simp
theorem Cells.cell0 (hc : Cells c l L dv) (h : w.heap[x]? = some (.cells L.toArray 60 f)) : w.cell? ⟨x, 0, none⟩ = some (.int .u32 c) := (list_cell h 0).trans hc.cum
theorem Cells.cell259 (hc : Cells c l L dv) (h : w.heap[x]? = some (.cells L.toArray 60 f)) : w.cell? ⟨x, 259, none⟩ = some dv := (list_cell h 259).trans hc.dups
end

section
attribute [-go_sem] Instr.build Instr.fill Instr.box
def fresh (c : Int) : List Value := .int .u32 c :: (List.replicate 258 (.bool false) ++ [.slice none 0 0])
@[go_sem] theorem build60 (c : Int) (w : World) : (Instr.build 60 #[(0, .int .u32 c)]).run Try.prog w = .ok (.agg (fresh c).toArray) w := run_build w 60 _ _ (by kernel_rfl)
@[go_sem] theorem box60 (c : Int) (w : World) : (Instr.box 60 (.agg (fresh c).toArray)).run Try.prog w = .ok (.pointer (some ⟨w.heap.size, 0, none⟩)) (w.alloc (.cells (fresh c).toArray 60 (0, 0))) := by
  kernel_rfl

theorem fresh_cells (c : Int) : Cells c [] (fresh c) (.slice none 0 0) where
  len := by
    rw [fresh, List.length_cons, List.length_append, List.length_replicate]
    rfl
  cum := rfl
  held := fun i h1 h2 => by
    have e : 1 + i = i + 1 := by omega
    rw [e]
    show (List.replicate 258 (Value.bool false) ++ [.slice none 0 0])[i]? = _
    rw [List.getElem?_append_left (by rw [List.length_replicate]; omega), List.getElem?_replicate_of_lt (by omega)]
    simp
  zero := ⟨false, rfl⟩
  dups := by rfl

def NewAt (f : Int) (w : World) (e : Ending) (w' : World) : Prop := e = .returned (.pointer (some ⟨w.heap.size, 0, none⟩)) ∧ Track w' w.heap.size none (T.new f) ∧ Kept [] w w'

set_option maxHeartbeats 1000000 in
theorem New_any (f : Int) (w : World) : Calls Try.prog 13 #[.int .u32 f] w (NewAt f w) := by
  have HF := hid (show NewAt f w (.returned (.pointer (some ⟨w.heap.size, 0, none⟩))) (w.alloc (.cells (fresh ((f - 1) % 4294967296)).toArray 60 (0, 0))) from
    ⟨rfl, ⟨T.new_ok f, ⟨_, _, blk_new _ _, fresh_cells _, World.ownsRow_nil _ _ _ _, rfl⟩, by simp⟩, (Kept.refl _ _).alloc _⟩)
  go_enter Try.func13, Try.ntmps13
  go_wp2
  go_ret
  exact HF.out
end

theorem Cum_any {w : World} {x : Nat} {o : Option Nat} {t : T} (h : Track w x o t) : Calls Try.prog 15 #[.pointer (some ⟨x, 0, none⟩)] w fun e w' => e = .returned (.int .u32 t.cum) ∧ w = w' := by
  obtain ⟨L, dv, h1, h2, _⟩ := h.blk
  have c0 := h2.cell0 h1
  clear h h1 h2
  go_enter Try.func15, Try.ntmps15
  go_wp2
  go_ret
  exact ⟨rfl, rfl⟩

theorem wrong32 (xs : List Int) : wrong 32 xs = 0 := by simp [wrong]

theorem ahead_any {w : World} {x : Nat} {o : Option Nat} {t : T} (h : Track w x o t) {n : Int} (hn : 0 ≤ n ∧ n < 4294967296) :
    Calls Try.prog 29 #[.pointer (some ⟨x, 0, none⟩), .int .u32 n] w fun e w' => e = .returned (.int .i64 (aheadBy 32 t.cum n)) ∧ Kept [] w w' := by
  have hA := Ahead_any 32 t.cum n w ⟨h.ok.cum0, h.ok.cum1⟩ hn
  have HA := hid hA
  obtain ⟨L, dv, h1, h2, _⟩ := h.blk
  have c0 := h2.cell0 h1
  clear h h1 h2 hA
  go_enter Try.func29, Try.ntmps29
  go_wp2_with fail
  refine HA.out.mono ?_
  rintro e w1 ⟨rfl, hk⟩
  have HK := hid hk
  clear hk
  have hw := wrong32 [t.cum, n]
  go_wp2
  go_ret
  exact ⟨rfl, HK.out⟩

end Go.Proofs.Ythdcodjdecnniaa
