/-
  A side in memory, opened for a walk; what 'got' answers, in plain Lean.
-/
import Derived.Test.YtepadejkeokbcaaTold
namespace Go.Proofs.Ytepadejkeokbcaa
open Go.RowKit Go.Maps

theorem boolsV_length (l : List Bool) : (boolsV l).length = l.length := by simp [boolsV]
theorem boolsV_get {l : List Bool} {i : Nat} (h : i < l.length) : (boolsV l)[i]? = some (.bool l[i]) := by simp [boolsV, h]

theorem ownsRow_used {w : World} {uv : Value} {us : List Bool} {i : Nat} (h : w.ownsRow 0 4 1 uv us.length (boolsV us)) (hi : i < us.length) :
    ∃ g cap, uv = .slice (some ⟨g, 0, none⟩) us.length cap ∧ w.cell? ⟨g, i, none⟩ = some (.bool us[i]) ∧ w.frozen? ⟨g, i, none⟩ = false ∧ (∃ cur, w.heap[g]? = some (.cells cur 4 (0, 0))) ∧
      (w.setCell ⟨g, i, none⟩ (.bool true)).ownsRow 0 4 1 uv (us.set i true).length (boolsV (us.set i true)) := by
  rcases h.2 with ⟨_, h0⟩ | ⟨g, cap, cur, h1, h2, h3, h4, h5, h6, h7⟩
  · omega
  · have hc : cur.toList[i]? = some (.bool us[i]) := by
      have := boolsV_get hi
      rw [← h7, List.getElem?_take, if_pos (by omega)] at this
      exact this
    refine ⟨g, cap, h1, ?_, blk_free h3 i, ⟨cur, h3⟩, by simp [boolsV], .inr ⟨g, cap, _, by rw [List.length_set]; exact h1, h2, blk_set h3 i _, by simpa using h4, h5, by simpa using h6, ?_⟩⟩
    · rw [blk_cell h3, ← Array.getElem?_toList]; exact hc
    · rw [Array.toList_setIfInBounds, List.take_set, List.length_set, h7]
      simp [boolsV, List.map_set]

structure Opened (w : World) (O : Owner) (k : Key) (s : Nat) (a : Sd) (so : Option Addr) (sc : Nat) (uo : Option Addr) (uc nb : Nat) : Prop where
  same : a.used.length = a.sent.length
  blk : w.heap[s]? = some (.cells (sideCells (.slice so a.sent.length sc) (.slice uo a.used.length uc) (.map (some nb)) a) 55 (0, 0))
  sent : ∀ i (hi : i < a.sent.length), ∃ g, so = some ⟨g, 0, none⟩ ∧ ∀ j, j < 5 → w.cell? ⟨g, i * 5 + j, none⟩ = a.sent[i].cells[j]?
  used : ∀ i (hi : i < a.used.length), ∃ g, uo = some ⟨g, 0, none⟩ ∧ w.cell? ⟨g, i, none⟩ = some (.bool a.used[i]) ∧ w.frozen? ⟨g, i, none⟩ = false ∧ O g = some (k, 2) ∧ (∃ cur, w.heap[g]? = some (.cells cur 4 (0, 0))) ∧
    SideAt (w.setCell ⟨g, i, none⟩ (.bool true)) O k s { a with used := a.used.set i true }
  next : MapIs Try.prog 38 (Value.int .u16) w nb (nextV a)
  nbo : O nb = some (k, 3)
  count : ∀ w' x, MapIs Try.prog 38 (Value.int .u16) w' nb (fun y => if y = x then some (.int .i64 ((a.next x : Int) + 1)) else nextV a y) → Kept [nb] w w' → SideAt w' O k s { a with next := fun y => if y = x then a.next y + 1 else a.next y }
  flag : ∀ w' (a' : Sd), a'.sent = a.sent → a'.used = a.used → a'.next = a.next → w'.heap[s]? = some (.cells (sideCells (.slice so a.sent.length sc) (.slice uo a.used.length uc) (.map (some nb)) a') 55 (0, 0)) → Kept [s] w w' → SideAt w' O k s a'

theorem SideAt.opened {w : World} {O : Owner} {k : Key} {s : Nat} {a : Sd} (h : SideAt w O k s a) : ∃ so sc uo uc nb, Opened w O k s a so sc uo uc nb := by
  obtain ⟨sv, uv, nb, h1, h2, h3, h4, h5, h6, h7⟩ := h.blk
  obtain ⟨so, sc, rfl⟩ := (SliceIn.owned h2).form
  obtain ⟨uo, uc, rfl⟩ := (SliceIn.owned h4).form
  have hne : ∀ b p q, p ≠ q → O b = some (k, p) → ∀ b', O b' = some (k, q) → b ≠ b' := fun b p q hpq e b' e' hbb => by
    subst hbb; rw [e] at e'; cases e'; exact hpq rfl
  have hun : ∀ (g : Nat), O g = some (k, 2) → ∀ u (w' : World), Kept [g] w w' → w'.ownsRow 0 4 1 (.slice uo a.used.length uc) u.length (boolsV u) → u.length = a.sent.length → SideAt w' O k s { a with used := u } := fun g hg u w' hk ho hl =>
    ⟨h.own, hl, _, _, nb, hk.blk h1 (by simpa using hne s 0 2 (by omega) h.own g hg), ownsRow_kept h2 hk (fun b e => by simpa using hne b 1 2 (by omega) (h3 b e) g hg), h3, ho, h5, h6.kept hk (by simpa using hne nb 3 2 (by omega) h7 g hg), h7⟩
  refine ⟨so, sc, uo, uc, nb, h.len, h1, fun i hi => ?_, fun i hi => ?_, h6, h7, fun w' x hm hk => ?_, fun w' a' e1 e2 e3 hb hk => ?_⟩
  · obtain ⟨b, off, e, _, _, _, hc⟩ := (SliceIn.owned h2).rows (by omega)
    have hoff : off = 0 := by
      subst e
      rcases h2.2 with ⟨e', _⟩ | ⟨g, cap, cur, e', _⟩
      · simp at e'
      · simp at e'; exact e'.1.2
    subst hoff
    refine ⟨b, e, fun j hj => ?_⟩
    have hg := msgsV_get a.sent i hi j hj
    have hlt : j < a.sent[i].cells.length := hj
    rw [List.getElem?_eq_getElem hlt] at hg ⊢
    have := hc _ _ hg
    rwa [Nat.zero_add] at this
  · obtain ⟨g, cap, e, c1, c2, cb, c3⟩ := ownsRow_used h4 hi
    cases e
    have hg := h5 g rfl
    exact ⟨g, rfl, c1, c2, hg, cb, hun g hg _ _ ((Kept.refl _ _).setCell (.inl (by simp)) _) c3 (by rw [List.length_set]; exact h.len)⟩
  · refine ⟨h.own, h.len, _, _, nb, hk.blk h1 (by simpa using hne s 0 3 (by omega) h.own nb h7), ownsRow_kept h2 hk (fun b e => by simpa using hne b 1 3 (by omega) (h3 b e) nb h7), h3, ownsRow_kept h4 hk (fun b e => by simpa using hne b 2 3 (by omega) (h5 b e) nb h7), h5, ?_, h7⟩
    refine (show (fun y => if y = x then some (.int .i64 ((a.next x : Int) + 1)) else nextV a y) = nextV { a with next := fun y => if y = x then a.next y + 1 else a.next y } from ?_) ▸ hm
    funext y
    unfold nextV
    by_cases e : y = x
    · subst e; simp
    · simp [e]
  · exact ⟨h.own, by rw [e1, e2]; exact h.len, _, _, nb, hb, by rw [e1]; exact ownsRow_kept h2 hk (fun b e => by simpa using hne b 1 0 (by omega) (h3 b e) s h.own), h3, by rw [e2]; exact ownsRow_kept h4 hk (fun b e => by simpa using hne b 2 0 (by omega) (h5 b e) s h.own), h5,
      by have := h6.kept hk (by simpa using hne nb 3 0 (by omega) h7 s h.own); unfold nextV at *; rw [e3]; exact this, h7⟩

theorem Opened.kept {w w' : World} {O : Owner} {k : Key} {s : Nat} {a : Sd} {so : Option Addr} {sc : Nat} {uo : Option Addr} {uc nb : Nat} (h : Opened w O k s a so sc uo uc nb) (hs : SideAt w O k s a) (hk : Kept [] w w') : Opened w' O k s a so sc uo uc nb := by
  obtain ⟨so', sc', uo', uc', nb', h'⟩ := (hs.kept hk (by simp) (fun _ _ => rfl) : SideAt w' O k s a).opened
  have e1 := hk.blk h.blk (by simp)
  rw [h'.blk] at e1
  simp [sideCells] at e1
  obtain ⟨⟨rfl, rfl⟩, ⟨rfl, rfl⟩, rfl⟩ := e1
  exact h'

/-! ### In plain Lean -/

def scan (m : Msg) (want : Nat) : List Msg → List Bool → Nat → Nat → Int × Option Nat
  | s :: r, u :: v, n, i =>
    if s.stream ≠ m.stream ∨ s.free ≠ m.free then scan m want r v n (i + 1)
    else if m.free = true then (if u = false ∧ s.alike m = true then (0, some i) else scan m want r v (n + 1) (i + 1))
    else if n = want then (if s.alike m = true then (0, some i) else (4, none)) else scan m want r v (n + 1) (i + 1)
  | _, _, _, _ => (16, none)

theorem scan_step {m : Msg} {want n j : Nat} {S : List Msg} {U : List Bool} (h : j < S.length) (hl : U.length = S.length) : scan m want (S.drop j) (U.drop j) n j =
    if (S[j]).stream ≠ m.stream ∨ (S[j]).free ≠ m.free then scan m want (S.drop (j + 1)) (U.drop (j + 1)) n (j + 1)
    else if m.free = true then (if U[j] = false ∧ (S[j]).alike m = true then (0, some j) else scan m want (S.drop (j + 1)) (U.drop (j + 1)) (n + 1) (j + 1))
    else if n = want then (if (S[j]).alike m = true then (0, some j) else (4, none)) else scan m want (S.drop (j + 1)) (U.drop (j + 1)) (n + 1) (j + 1) := by
  rw [List.drop_eq_getElem_cons h, List.drop_eq_getElem_cons (show j < U.length by omega), scan]
theorem scan_end {m : Msg} {want n j : Nat} {S : List Msg} {U : List Bool} (h : S.length ≤ j) : scan m want (S.drop j) (U.drop j) n j = (16, none) := by
  rw [List.drop_eq_nil_of_le h]
  simp [scan]

def useAt (a : Sd) (i : Nat) : Sd := { a with used := a.used.set i true }
def countAt (a : Sd) (x : Int) : Sd := { a with next := fun y => if y = x then a.next y + 1 else a.next y }
def gotR (c : Key → Sd) (k : Key) (m : Msg) : Int × Option Nat := scan m ((c k).next m.stream) (c k.other).sent (c k.other).used 0 0
def got (c : Key → Sd) (k : Key) (m : Msg) : Key → Sd :=
  match (gotR c k m).2 with
  | none => c
  | some i => if m.free = true then upd c k.other (useAt (c k.other) i) else upd (upd c k.other (useAt (c k.other) i)) k (countAt (c k) m.stream)

end Go.Proofs.Ytepadejkeokbcaa
