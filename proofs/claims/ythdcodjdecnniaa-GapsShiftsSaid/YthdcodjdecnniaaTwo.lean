/-
  Two trackers side by side: Add on each.
-/
import Derived.Test.YthdcodjdecnniaaPlay
import Derived.Test.YthdcodjdecnniaaLive
import Derived.Test.YthdcodjdecnniaaSets
namespace Go.Proofs.Ythdcodjdecnniaa
open Go.RowKit

structure Duo (w0 w : World) (x y : Nat) (t s : T) : Prop where
  ex : ∃ o p, Track w x o t ∧ Track w y p s ∧ o ≠ some y ∧ p ≠ some x ∧ (∀ k, o = some k → p ≠ some k) ∧ (∀ k, o = some k → w0.heap.size ≤ k) ∧ (∀ k, p = some k → w0.heap.size ≤ k)
  ne : x ≠ y
  x0 : w0.heap.size ≤ x
  y0 : w0.heap.size ≤ y
  kept : Kept [] w0 w

section
variable {w0 w w' : World} {x y : Nat} {t s : T} {n : Int}
theorem Duo.kept0 (h : Duo w0 w x y t s) (hk : Kept [] w w') : Duo w0 w' x y t s := by
  obtain ⟨⟨o, p, h1, h2, h3⟩, h4, h5, h6, h7⟩ := h
  exact ⟨⟨o, p, h1.kept hk (by simp) (by simp), h2.kept hk (by simp) (by simp), h3⟩, h4, h5, h6, h7.tr hk⟩
theorem Duo.swap (h : Duo w0 w x y t s) : Duo w0 w y x s t := by
  obtain ⟨⟨o, p, h1, h2, h3, h4, h5, h6, h7⟩, h8, h9, h10, h11⟩ := h
  exact ⟨⟨p, o, h2, h1, h4, h3, fun k hp ho => h5 k ho hp, h7, h6⟩, Ne.symm h8, h10, h9, h11⟩

def AddedTo (w0 : World) (x y : Nat) (t s : T) (n : Int) (e : Ending) (w' : World) : Prop := e = .returned (.int .i64 (t.addE n)) ∧ Duo w0 w' x y (t.add n) s

theorem Duo.add (h : Duo w0 w x y t s) (hn : 0 ≤ n ∧ n < 4294967296) : Calls Try.prog 14 #[.pointer (some ⟨x, 0, none⟩), .int .u32 n] w (AddedTo w0 x y t s n) := by
  obtain ⟨⟨o, p, h1, h2, h3, h4, h5, h6, h7⟩, h8, h9, h10, h11⟩ := h
  refine (Add_any h1 hn).mono ?_
  rintro e w' ⟨he, o', r1, r2, r3⟩
  have hy : y ∉ x :: o.toList := by
    simp only [List.mem_cons, Option.mem_toList, not_or]
    exact ⟨fun e => h8 e.symm, h3⟩
  have hp : ∀ k, p = some k → k ∉ x :: o.toList := fun k hk => by
    simp only [List.mem_cons, Option.mem_toList, not_or]
    exact ⟨fun e => h4 (by rw [hk, e]), fun e => h5 k e hk⟩
  refine ⟨he, ⟨⟨o', p, r1, h2.kept r2 hy hp, ?_, h4, ?_, ?_, h7⟩, h8, h9, h10, kept_own h11 h9 h6 r2⟩⟩
  · rcases r3 with e | e
    · rw [e]; exact h3
    · intro he; have := e y he; have := h2.lt; omega
  · intro k hk hpk
    rcases r3 with e | e
    · exact h5 k (e ▸ hk) hpk
    · have := e k hk; have := h2.own k hpk; omega
  · intro k hk
    rcases r3 with e | e
    · exact h6 k (e ▸ hk)
    · exact Nat.le_trans h11.size (e k hk)

theorem Duo.cum (h : Duo w0 w x y t s) : Calls Try.prog 15 #[.pointer (some ⟨x, 0, none⟩)] w fun e w' => e = .returned (.int .u32 t.cum) ∧ w = w' := by
  obtain ⟨⟨o, p, h1, _⟩, _⟩ := h
  exact Cum_any h1
theorem Duo.top (h : Duo w0 w x y t s) : Calls Try.prog 16 #[.pointer (some ⟨x, 0, none⟩)] w fun e w' => e = .returned (.int .u32 t.top) ∧ Duo w0 w' x y t s := by
  have h' := h
  obtain ⟨⟨o, p, h1, _⟩, _⟩ := h
  exact (Top_any h1).mono fun e w' ⟨he, hk⟩ => ⟨he, h'.kept0 hk⟩
theorem Duo.blocks (h : Duo w0 w x y t s) : Calls Try.prog 18 #[.pointer (some ⟨x, 0, none⟩)] w (Blocked w t.far) := by
  obtain ⟨⟨o, p, h1, _⟩, _⟩ := h
  exact Blocks_any h1
end

def DuoNew (w : World) (y : Nat) (f g : Int) (w' : World) : Prop := Duo w w' w.heap.size y (T.new f) (T.new g)

theorem duo_new {w w1 w2 : World} {f g : Int} (h1 : Track w1 w.heap.size none (T.new f)) (k1 : Kept [] w w1) (h2 : Track w2 w1.heap.size none (T.new g)) (k2 : Kept [] w1 w2) : Duo w w2 w.heap.size w1.heap.size (T.new f) (T.new g) := by
  have := h1.lt
  exact ⟨⟨none, none, h1.kept k2 (by simp) (by simp), h2, by simp, by simp, by simp, by simp, by simp⟩, by omega, Nat.le_refl _, k1.size, k1.tr k2⟩

end Go.Proofs.Ythdcodjdecnniaa
