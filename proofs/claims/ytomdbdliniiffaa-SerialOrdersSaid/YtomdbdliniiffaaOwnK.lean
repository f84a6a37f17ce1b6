/-
  Rows of the call's own: kept, a cell written, appended to inside a region that draws.
-/
import Derived.Test.YtomdbdliniiffaaSmall
import Derived.Deep.RegionLaw
import Derived.Laws.OwnMore
namespace Go.Proofs.Ytomdbdliniiffaa
open Go.RowKit

def Any : Nat → Prop := fun _ => True

theorem ownsRow_kept {S : List Nat} {w w' : World} {b : Nat} {e : TypeId} {size n : Nat} {v : Value} {xs : List Value} (h : w.ownsRow b e size v n xs) (hk : Kept S w w') (hS : ∀ k, v.ownBlock = some k → k ∉ S) : w'.ownsRow b e size v n xs := by
  refine ⟨h.1, ?_⟩
  rcases h.2 with h | ⟨g, cap, cur, h1, h2, h3, h4⟩
  · exact .inl h
  · exact .inr ⟨g, cap, cur, h1, h2, hk.blk h3 (hS g (by rw [h1]; rfl)), h4⟩
theorem own_lt {w : World} {b : Nat} {e : TypeId} {size n : Nat} {v : Value} {xs : List Value} (h : w.ownsRow b e size v n xs) : ∀ k, v.ownBlock = some k → b ≤ k ∧ k < w.heap.size := by
  intro k hk
  rcases h.2 with ⟨rfl, _⟩ | ⟨g, cap, cur, rfl, h2, h3, h4⟩
  · cases hk
  · cases hk; exact ⟨h2, lt_of_block h3⟩
theorem kept_in {w wr w' : World} {e : TypeId} {size n : Nat} {v : Value} {xs : List Value} (hk : Kept [] w wr) (h : wr.ownsRow w.heap.size e size v n xs) (hg : wr.grownBy w' v.ownBlock) : Kept [] w w' := by
  refine hk.grown hg (fun b e => ?_)
  rcases h.2 with ⟨rfl, _⟩ | ⟨g, cap, cur, rfl, h2, _⟩
  · cases e
  · cases e; exact .inr h2
theorem block_in {w : World} {b size : Nat} {cs : Array Value} {t : TypeId} {fr : Nat × Nat} (h : w.heap[b]? = some (.cells cs t fr)) (hs : cs.size = size) : SliceIn Any w size (.slice (some ⟨b, 0, none⟩) 1 1) 1 cs.toList := by
  refine ⟨by simpa using hs, .inr ⟨b, 0, 1, rfl, Nat.le_refl _, trivial, lt_of_block h, fun j u hu => ?_⟩⟩
  rw [Nat.zero_add, blk_cell h, ← Array.getElem?_toList]
  exact hu

theorem own_form {w : World} {b : Nat} {e : TypeId} {size n : Nat} {v : Value} {xs : List Value} (h : w.ownsRow b e size v n xs) (hn : 0 < n) : ∃ g cap, v = .slice (some ⟨g, 0, none⟩) n cap := by
  rcases h.2 with ⟨_, h0⟩ | ⟨g, cap, cur, rfl, _⟩
  · omega
  · exact ⟨g, cap, rfl⟩

theorem own_set {w : World} {b g n cap : Nat} {e : TypeId} {size : Nat} {xs : List Value} (h : w.ownsRow b e size (.slice (some ⟨g, 0, none⟩) n cap) n xs) {i : Nat} {u0 : Value} (hi : xs[i]? = some u0) :
    w.cell? ⟨g, i, none⟩ = some u0 ∧ w.frozen? ⟨g, i, none⟩ = false ∧ b ≤ g ∧ g < w.heap.size ∧ ∀ u, (w.setCell ⟨g, i, none⟩ u).ownsRow b e size (.slice (some ⟨g, 0, none⟩) n cap) n (xs.set i u) := by
  rcases h.2 with ⟨h0, _⟩ | ⟨g', cap', cur, h1, h2, h3, h4, h5, h6, h7⟩
  · cases h0
  · cases h1
    have hil := (List.getElem?_eq_some_iff.1 hi).1
    have hc : cur.toList[i]? = some u0 := by
      have q := hi
      rw [← h7, List.getElem?_take] at q
      split at q
      · exact q
      · cases q
    refine ⟨by rw [blk_cell h3, ← Array.getElem?_toList]; exact hc, blk_free h3 i, h2, lt_of_block h3, fun u => ⟨by rw [List.length_set]; exact h.1, .inr ⟨g, cap, _, rfl, h2, blk_set h3 i u, h4, h5, by simpa using h6, ?_⟩⟩⟩
    rw [Array.toList_setIfInBounds, List.take_set, h7]

/-- 'append' onto a row of the call's own, whatever is appended (nil too), as it runs. -/
theorem run_append_in {P : Program} (w : World) (base : Nat) (t ty e : TypeId) (i : TypeInfo) (z : Value) (size bytes : Nat) (ht : P.underlying t = some (.slice e)) (hi : P.info? e = some i) (hz : i.zero = some z)
    (hsize : i.size = size) (hby : i.bytes = bytes) (hzs : z.cells.size = size) (hsz : 0 < size) (v : Value) (n : Nat) (xs : List Value) (hown : w.ownsRow base e size v n xs)
    (B : Nat → Prop) (xv : Value) (m : Nat) (news : List Value) (hin : SliceIn B w size xv m news) (h1 : ∀ u ∈ news, u.oneCell' = true)
    (h63 : n + m ≤ maxLen) (hbytes : (n + m) * bytes ≤ 140737488355328) (hbase : base ≤ w.heap.size) :
    ∃ v' w', (Builtin.append_ #[t, t] ty #[v, xv]).run P w = .ok v' w' ∧ w'.ownsRow base e size v' (n + m) (xs ++ news) ∧ w.grownBy w' v.ownBlock := by
  rcases hin.2 with ⟨rfl, ao, cap, rfl, hc0⟩ | ⟨b, off, cap, rfl, _, _, _, hc⟩
  · have hnews : news = [] := List.eq_nil_of_length_eq_zero (by simpa using hin.1)
    subst hnews
    cases ao with
    | none =>
      obtain rfl := hc0 rfl
      exact ⟨v, w, run_append_owned_none (P := P) (w := w) base t ty e i size ht hi v n xs hown, by simpa using hown, World.grownBy.refl w _⟩
    | some ad =>
      obtain ⟨v', w', r1, r2, r3, _⟩ := run_append_own (P := P) w base t ty e i z size bytes ht hi hz hsize hby hzs hsz v n xs hown ad 0 cap [] hin.1 (fun j u hu => by simp at hu) h1 h63 hbytes hbase
      exact ⟨v', w', r1, r2, r3⟩
  · obtain ⟨v', w', r1, r2, r3, _⟩ := run_append_own (P := P) w base t ty e i z size bytes ht hi hz hsize hby hzs hsz v n xs hown ⟨b, off, none⟩ m cap news hin.1 (fun j u hu => by
      have hadd : (⟨b, off, none⟩ : Addr).add j = ⟨b, off + j, none⟩ := by unfold Addr.add; split <;> simp_all
      rw [hadd]
      exact hc j u hu) h1 h63 hbytes hbase
    exact ⟨v', w', r1, r2, r3⟩

/-- The same at a step of a region that draws. -/
theorem step_append_in {P : Program} {ops : Array Oper} {o : Oper} {a : Act} {w : World} {K : Act → World → Prop} {Q : Exit → Act → World → Prop} {E : Prop}
    (hgd : o.guard = none) (s x : Operand) (t : TypeId) (ho : o.op = .call { callee := .builtin .append, args := #[s, x], argTypes := #[t, t] })
    (base : Nat) (e : TypeId) (i : TypeInfo) (z : Value) (size bytes : Nat) (ht : P.underlying t = some (.slice e)) (hi : P.info? e = some i) (hz : i.zero = some z)
    (hsize : i.size = size) (hby : i.bytes = bytes) (hzs : z.cells.size = size) (hsz : 0 < size) (v : Value) (n : Nat) (xs : List Value) (hs : a.eval s = v) (hown : w.ownsRow base e size v n xs)
    (B : Nat → Prop) (xv : Value) (m : Nat) (news : List Value) (hx : a.eval x = xv) (hin : SliceIn B w size xv m news) (h1 : ∀ u ∈ news, u.oneCell' = true)
    (h63 : n + m ≤ maxLen) (hbytes : (n + m) * bytes ≤ 140737488355328) (hbase : base ≤ w.heap.size)
    (hK : ∀ v' w', Hid (w'.ownsRow base e size v' (n + m) (xs ++ news)) → Hid (w.grownBy w' v.ownBlock) → K (a.put o.dst v') w') :
    if Region.wanted o (yielded ops a.tmps) = true then Oper.wp P o a w K Q else E := by
  have hw : Region.wanted o (yielded ops a.tmps) = true := by simp [Region.wanted, hgd]
  rw [if_pos hw]
  obtain ⟨v', w', hrun, r1, r2⟩ := run_append_in (P := P) w base t o.type e i z size bytes ht hi hz hsize hby hzs hsz v n xs hown B xv m news hin h1 h63 hbytes hbase
  unfold Oper.wp
  simp [execOp, ho, resolve, invoke, builtin, hs, hx, hrun, Result.andThen]
  exact hK v' w' (hid r1) (hid r2)

end Go.Proofs.Ytomdbdliniiffaa
