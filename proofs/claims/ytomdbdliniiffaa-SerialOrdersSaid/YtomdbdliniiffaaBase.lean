/-
  Words that the walks of this seat share, over any program: what a call keeps of memory ('Kept'), what a block holds, a slice that reads as a list of cells ('SliceIn'), an append onto a row of the call's own from whatever slice. No condition.
-/
import Derived.Test.YtomdbdliniiffaaRows
import Derived.WalkKit
import Derived.WalkSpells
import Derived.WalkLawsBesides
import Derived.Laws.AppendOwnNone
import Derived.Deep.QuietTactic
import Derived.BigQuiet
namespace Go.Proofs.Ytomdbdliniiffaa
open Go.RowKit

theorem hid {p : Prop} (h : p) : Hid p := h

/-- Of the blocks that lay there, those outside S lie as they lay. -/
structure Kept (S : List Nat) (w w' : World) : Prop where
  os : w'.os = w.os
  tape : w'.tape = w.tape
  output : w'.output = w.output
  size : w.heap.size ≤ w'.heap.size
  block : ∀ k, k < w.heap.size → k ∉ S → w'.heap[k]? = w.heap[k]?

theorem Kept.refl (S : List Nat) (w : World) : Kept S w w := ⟨rfl, rfl, rfl, Nat.le_refl _, fun _ _ _ => rfl⟩

theorem Kept.trans {S T : List Nat} {a b c : World} (h : Kept S a b) (k : Kept T b c) (hT : ∀ x ∈ T, x ∈ S ∨ a.heap.size ≤ x) : Kept S a c :=
  ⟨k.os.trans h.os, k.tape.trans h.tape, k.output.trans h.output, Nat.le_trans h.size k.size, fun i hi hn =>
    (k.block i (Nat.lt_of_lt_of_le hi h.size) (fun hm => (hT i hm).elim hn (fun hle => absurd hi (Nat.not_lt.2 hle)))).trans (h.block i hi hn)⟩

theorem Kept.tr {S : List Nat} {a b c : World} (h : Kept S a b) (k : Kept S b c) : Kept S a c := h.trans k fun _ hx => .inl hx
theorem Kept.tr0 {S : List Nat} {a b c : World} (h : Kept S a b) (k : Kept [] b c) : Kept S a c := h.trans k (fun x hx => by cases hx)
theorem Kept.tr0' {S : List Nat} {a b c : World} (h : Kept [] a b) (k : Kept S b c) : Kept S a c :=
  ⟨k.os.trans h.os, k.tape.trans h.tape, k.output.trans h.output, Nat.le_trans h.size k.size, fun i hi hn =>
    (k.block i (Nat.lt_of_lt_of_le hi h.size) hn).trans (h.block i hi (by simp))⟩

theorem Kept.mono {S T : List Nat} {a b : World} (h : Kept S a b) (hT : ∀ x ∈ S, x ∈ T ∨ a.heap.size ≤ x) : Kept T a b :=
  ⟨h.os, h.tape, h.output, h.size, fun i hi hn => h.block i hi (fun hm => (hT i hm).elim hn (fun hle => absurd hi (Nat.not_lt.2 hle)))⟩

theorem Kept.drew {S : List Nat} {a w : World} (h : Kept S a w) : Kept S a w.drew := ⟨h.os, h.tape, h.output, h.size, h.block⟩
theorem Kept.drewN {S : List Nat} {a w : World} (h : Kept S a w) (n : Nat) : Kept S a (w.drewN n) := ⟨h.os, h.tape, h.output, h.size, h.block⟩

theorem Kept.alloc {S : List Nat} {a w : World} (h : Kept S a w) (o : Obj) : Kept S a (w.alloc o) :=
  h.trans (T := []) ⟨rfl, rfl, rfl, by simp, fun k hk _ => Below.heap_alloc _ _ _ hk⟩ (fun x hx => by cases hx)

theorem Kept.setCell {S : List Nat} {a w : World} (h : Kept S a w) {p : Addr} (hp : p.block ∈ S ∨ a.heap.size ≤ p.block) (u : Value) : Kept S a (w.setCell p u) :=
  h.trans (T := [p.block]) ⟨rfl, rfl, rfl, by simp [World.setCell], fun k _ hn => Below.heap_setCell _ _ _ _ (by simpa using hn)⟩ (fun x hx => by
    rw [List.mem_singleton] at hx; subst hx; exact hp)

theorem Kept.grown {S : List Nat} {a w w' : World} {row : Option Nat} (h : Kept S a w) (hg : w.grownBy w' row) (hr : ∀ k, row = some k → k ∈ S ∨ a.heap.size ≤ k) : Kept S a w' :=
  ⟨hg.os.trans h.os, hg.tape.trans h.tape, hg.output.trans h.output, Nat.le_trans h.size hg.size, fun k hk hn =>
    (hg.block k (Nat.lt_of_lt_of_le hk h.size) (fun e => (hr k e.symm).elim hn (fun hle => absurd hk (Nat.not_lt.2 hle)))).trans (h.block k hk hn)⟩

theorem Kept.below {w w' : World} (h : Kept [] w w') : Below w.heap.size w w' := ⟨h.os, h.tape, h.output, h.size, fun k hk => h.block k hk (by simp)⟩
theorem Kept.ofBelow {w w' : World} (h : Below w.heap.size w w') : Kept [] w w' := ⟨h.os, h.tape, h.output, h.size, fun k hk _ => h.block k hk⟩

theorem Kept.blk {S : List Nat} {w w' : World} (h : Kept S w w') {k : Nat} {o : Obj} (hb : w.heap[k]? = some o) (hn : k ∉ S) : w'.heap[k]? = some o :=
  (h.block k (lt_of_block hb) hn).trans hb

theorem Kept.cell {S : List Nat} {w w' : World} (h : Kept S w w') {p : Addr} {v : Value} (hc : w.cell? p = some v) (hn : p.block ∉ S) : w'.cell? p = some v :=
  (World.cell?_of_block (h.block p.block (World.block_lt_of_cell? w p hc) hn)).trans hc

/-! ### What a block holds -/
section
variable {w : World} {b : Nat} {c : Array Value} {e : TypeId}

theorem blk_cell {f : Nat × Nat} (h : w.heap[b]? = some (.cells c e f)) (o : Nat) : w.cell? ⟨b, o, none⟩ = c[o]? := by simp [World.cell?, h]
theorem blk_free (h : w.heap[b]? = some (.cells c e (0, 0))) (o : Nat) : w.frozen? ⟨b, o, none⟩ = false := by simp [World.frozen?, h]

theorem blk_set {f : Nat × Nat} (h : w.heap[b]? = some (.cells c e f)) (o : Nat) (u : Value) : (w.setCell ⟨b, o, none⟩ u).heap[b]? = some (.cells (c.setIfInBounds o u) e f) := by
  simp only [World.setCell, Array.getElem?_modify, ↓reduceIte, h, Option.map_some]
  rfl

theorem blk_other {o : Obj} {p : Addr} (u : Value) (hne : b ≠ p.block) : w.heap[b]? = some o → (w.setCell p u).heap[b]? = some o := fun h =>
  (Below.heap_setCell w p u b hne).trans h

theorem blk_drewN {o : Obj} (n : Nat) (h : w.heap[b]? = some o) : (w.drewN n).heap[b]? = some o := h
theorem blk_drew {o : Obj} (h : w.heap[b]? = some o) : w.drew.heap[b]? = some o := h
theorem blk_alloc {o : Obj} (x : Obj) (h : w.heap[b]? = some o) : (w.alloc x).heap[b]? = some o := (Below.heap_alloc w x b (lt_of_block h)).trans h
theorem blk_new (w : World) (x : Obj) : (w.alloc x).heap[w.heap.size]? = some x := heap_alloc_new w x
end

/-! ### A slice that reads as a list of cells -/

/-- 'v' is a slice of n elements of 'size' cells each, the cells xs; empty (nil, or of whatever address), or it lies in a block of which B says yes. -/
def SliceIn (B : Nat → Prop) (w : World) (size : Nat) (v : Value) (n : Nat) (xs : List Value) : Prop :=
  xs.length = n * size ∧ ((n = 0 ∧ ∃ ao cap, v = .slice ao 0 cap ∧ (ao = none → cap = 0)) ∨
    ∃ b off cap, v = .slice (some ⟨b, off, none⟩) n cap ∧ n ≤ cap ∧ B b ∧ b < w.heap.size ∧ ∀ j u, xs[j]? = some u → w.cell? ⟨b, off + j, none⟩ = some u)

section
variable {B C : Nat → Prop} {w w' : World} {size n : Nat} {v : Value} {xs : List Value}

theorem SliceIn.mono (h : SliceIn B w size v n xs) (hc : ∀ b, b < w.heap.size → B b → C b) : SliceIn C w size v n xs := by
  refine ⟨h.1, ?_⟩
  rcases h.2 with h | ⟨b, off, cap, h1, h2, h3, h4, h5⟩
  · exact .inl h
  · exact .inr ⟨b, off, cap, h1, h2, hc b h4 h3, h4, h5⟩

theorem SliceIn.carry (h : SliceIn B w size v n xs) (hs : w.heap.size ≤ w'.heap.size) (hc : ∀ b, b < w.heap.size → B b → w'.heap[b]? = w.heap[b]?) : SliceIn B w' size v n xs := by
  refine ⟨h.1, ?_⟩
  rcases h.2 with h | ⟨b, off, cap, h1, h2, h3, h4, h5⟩
  · exact .inl h
  · exact .inr ⟨b, off, cap, h1, h2, h3, Nat.lt_of_lt_of_le h4 hs, fun j u hu => (World.cell?_of_block (a := ⟨b, off + j, none⟩) (hc b h4 h3)).trans (h5 j u hu)⟩

theorem SliceIn.kept {S : List Nat} (h : SliceIn B w size v n xs) (hk : Kept S w w') (hS : ∀ b, b < w.heap.size → B b → b ∉ S) : SliceIn B w' size v n xs :=
  h.carry hk.size fun b hb hB => hk.block b hb (hS b hb hB)

theorem SliceIn.nil (w : World) (size : Nat) : SliceIn B w size (.slice none 0 0) 0 [] := ⟨by simp, .inl ⟨rfl, none, 0, rfl, fun _ => rfl⟩⟩

theorem SliceIn.owned {base : Nat} {e : TypeId} (h : w.ownsRow base e size v n xs) : SliceIn (base ≤ ·) w size v n xs := by
  refine ⟨h.1, ?_⟩
  rcases h.2 with ⟨h2, h3⟩ | ⟨g, cap, cur, hv, hg, hb, hn, hm, hc, ht⟩
  · exact .inl ⟨h3, none, 0, h2, fun _ => rfl⟩
  · refine .inr ⟨g, 0, cap, hv, hn, hg, lt_of_block hb, fun j u hu => ?_⟩
    rw [Nat.zero_add, blk_cell hb]
    rw [← ht, List.getElem?_take] at hu
    split at hu
    · simpa using hu
    · cases hu
end

theorem SliceIn.form0 {B : Nat → Prop} {w : World} {size n : Nat} {v : Value} {xs : List Value} (h : SliceIn B w size v n xs) : ∃ ao cap, v = .slice ao n cap ∧ (ao = none → n = 0 ∧ cap = 0) := by
  rcases h.2 with ⟨h1, ao, cap, h2, h3⟩ | ⟨b, off, cap, h1, _⟩
  · subst h1; exact ⟨ao, cap, h2, fun h => ⟨rfl, h3 h⟩⟩
  · exact ⟨_, cap, h1, fun h => by cases h⟩
theorem SliceIn.form {B : Nat → Prop} {w : World} {size n : Nat} {v : Value} {xs : List Value} (h : SliceIn B w size v n xs) : ∃ ao cap, v = .slice ao n cap :=
  let ⟨ao, cap, h1, _⟩ := h.form0; ⟨ao, cap, h1⟩

theorem SliceIn.rows {B : Nat → Prop} {w : World} {size n cap : Nat} {ao : Option Addr} {xs : List Value} (h : SliceIn B w size (.slice ao n cap) n xs) (hn : 0 < n) :
    ∃ b off, ao = some ⟨b, off, none⟩ ∧ n ≤ cap ∧ B b ∧ b < w.heap.size ∧ ∀ j u, xs[j]? = some u → w.cell? ⟨b, off + j, none⟩ = some u := by
  rcases h.2 with ⟨h1, _⟩ | ⟨b, off, cap', h1, h2, h3, h4, h5⟩
  · omega
  · cases h1; exact ⟨b, off, rfl, h2, h3, h4, h5⟩

/-- A slice of one-cell elements: element j. -/
theorem SliceIn.cell1 {B : Nat → Prop} {w : World} {n : Nat} {xs : List Value} {b off cap : Nat} {v : Value} (h : SliceIn B w 1 v n xs) (hv : v = .slice (some ⟨b, off, none⟩) n cap) :
    ∀ j u, xs[j]? = some u → w.cell? ⟨b, off + j, none⟩ = some u := by
  rcases h.2 with ⟨h2, _⟩ | ⟨b', off', cap', h1, _, _, _, h5⟩
  · intro j u hu
    have h1 := h.1
    have := (List.getElem?_eq_some_iff.1 hu).1
    omega
  · subst hv; cases h1; exact h5

/-- 'append' ONTO A ROW OF THE CALL's OWN, FROM WHATEVER SLICE (nil too). -/
theorem wpList_append_in {P : Program} (w : World) {ops : Array Oper} {rest : List Oper} {o : Oper} {a : Act} {Q : Exit → Act → World → Prop} (hgd : o.guard = none) (s x : Operand) (t : TypeId)
    (ho : o.op = .call { callee := .builtin .append, args := #[s, x], argTypes := #[t, t] })
    (base : Nat) (e : TypeId) (i : TypeInfo) (z : Value) (size bytes : Nat) (ht : P.underlying t = some (.slice e)) (hi : P.info? e = some i) (hz : i.zero = some z)
    (hsize : i.size = size) (hby : i.bytes = bytes) (hzs : z.cells.size = size) (hsz : 0 < size)
    (v : Value) (n : Nat) (xs : List Value) (hs : a.eval s = v) (hown : w.ownsRow base e size v n xs)
    (B : Nat → Prop) (xv : Value) (m : Nat) (news : List Value) (hx : a.eval x = xv) (hin : SliceIn B w size xv m news) (h1 : ∀ u ∈ news, u.oneCell' = true)
    (h63 : n + m ≤ maxLen) (hbytes : (n + m) * bytes ≤ 140737488355328) (hbase : base ≤ w.heap.size)
    (h : ∀ v' w', w'.ownsRow base e size v' (n + m) (xs ++ news) → w.grownBy w' v.ownBlock → (v' = .slice none 0 0 ↔ v = .slice none 0 0 ∧ m = 0) → wpList P ops Q rest (a.put o.dst v') w') : wpList P ops Q (o :: rest) a w := by
  rcases hin.2 with ⟨rfl, ao, cap, rfl, hc0⟩ | ⟨b, off, cap, rfl, _, _, _, hc⟩
  · have hnews : news = [] := List.eq_nil_of_length_eq_zero (by simpa using hin.1)
    subst hnews
    cases ao with
    | none =>
      obtain rfl := hc0 rfl
      refine wpList_append_own_none hgd s x t ho base e i size ht hi v n xs hs hown hx (h v w ?_ (World.grownBy.refl w _) ?_)
      · simpa using hown
      · simp
    | some ad => exact wpList_append_own w hgd s x t ho base e i z size bytes ht hi hz hsize hby hzs hsz v n xs hs hown ad 0 cap [] hx hin.1 (fun j u hu => by simp at hu) h1 h63 hbytes hbase h
  · refine wpList_append_own w hgd s x t ho base e i z size bytes ht hi hz hsize hby hzs hsz v n xs hs hown ⟨b, off, none⟩ m cap news hx hin.1 (fun j u hu => ?_) h1 h63 hbytes hbase h
    have hadd : (⟨b, off, none⟩ : Addr).add j = ⟨b, off + j, none⟩ := by unfold Addr.add; split <;> simp_all
    rw [hadd]
    exact hc j u hu

end Go.Proofs.Ytomdbdliniiffaa
