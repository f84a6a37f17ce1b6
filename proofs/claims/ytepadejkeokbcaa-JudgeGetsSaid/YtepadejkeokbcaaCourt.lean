/-
  The judge's court in memory ('Court'): a map from keys to sides; each side's blocks are its own.
-/
import Derived.Test.YtepadejkeokbcaaAlike2
namespace Go.Proofs.Ytepadejkeokbcaa
open Go.RowKit Go.Maps

/-- Whose a block is: which side's, and what of it. -/
abbrev Owner := Nat → Option (Key × Nat)

structure Sd where
  sent : List Msg
  used : List Bool
  next : Int → Nat
  came : Bool
  ended : Bool
  shut : Bool
def Sd.new : Sd := ⟨[], [], fun _ => 0, false, false, false⟩

def msgsV (l : List Msg) : List Value := l.flatMap Msg.cells
def boolsV (l : List Bool) : List Value := l.map Value.bool
def nextV (a : Sd) (x : Int) : Option Value := if a.next x = 0 then none else some (.int .i64 (a.next x))

theorem msgsV_length (l : List Msg) : (msgsV l).length = l.length * 5 := by
  induction l with
  | nil => rfl
  | cons m l ih =>
    have e : msgsV (m :: l) = m.cells ++ msgsV l := rfl
    rw [e, List.length_append, ih, List.length_cons]
    have : m.cells.length = 5 := rfl
    omega
theorem msgsV_append (a b : List Msg) : msgsV (a ++ b) = msgsV a ++ msgsV b := by simp [msgsV]
theorem msgsV_get : ∀ (l : List Msg) (k : Nat) (h : k < l.length) (j : Nat), j < 5 → (msgsV l)[k * 5 + j]? = l[k].cells[j]?
  | m :: l, 0, h, j, hj => by
    have e : msgsV (m :: l) = m.cells ++ msgsV l := rfl
    rw [e, List.getElem?_append_left (by show 0 * 5 + j < 5; omega)]
    simp
  | m :: l, k + 1, h, j, hj => by
    have e : msgsV (m :: l) = m.cells ++ msgsV l := rfl
    rw [e, List.getElem?_append_right (by show 5 ≤ (k + 1) * 5 + j; omega)]
    have e2 : (k + 1) * 5 + j - m.cells.length = k * 5 + j := by show (k + 1) * 5 + j - 5 = _; omega
    rw [e2, msgsV_get l k (by simpa using h) j hj]
    simp

structure SideAt (w : World) (O : Owner) (k : Key) (s : Nat) (a : Sd) : Prop where
  own : O s = some (k, 0)
  len : a.used.length = a.sent.length
  blk : ∃ sv uv nb, w.heap[s]? = some (.cells #[sv, uv, .map (some nb), .bool a.came, .bool a.ended, .bool a.shut] 55 (0, 0)) ∧
    w.ownsRow 0 41 5 sv a.sent.length (msgsV a.sent) ∧ (∀ b, sv.ownBlock = some b → O b = some (k, 1)) ∧
    w.ownsRow 0 4 1 uv a.used.length (boolsV a.used) ∧ (∀ b, uv.ownBlock = some b → O b = some (k, 2)) ∧
    MapIs Try.prog 38 (Value.int .u16) w nb (nextV a) ∧ O nb = some (k, 3)

theorem ownsRow_kept {S : List Nat} {w w' : World} {b : Nat} {e : TypeId} {size n : Nat} {v : Value} {xs : List Value} (h : w.ownsRow b e size v n xs) (hk : Kept S w w') (hS : ∀ k, v.ownBlock = some k → k ∉ S) : w'.ownsRow b e size v n xs := by
  refine ⟨h.1, ?_⟩
  rcases h.2 with h | ⟨g, cap, cur, h1, h2, h3, h4⟩
  · exact .inl h
  · exact .inr ⟨g, cap, cur, h1, h2, hk.blk h3 (hS g (by rw [h1]; rfl)), h4⟩
theorem own_lt {w : World} {b : Nat} {e : TypeId} {size n : Nat} {v : Value} {xs : List Value} (h : w.ownsRow b e size v n xs) : ∀ k, v.ownBlock = some k → k < w.heap.size := by
  intro k hk
  rcases h.2 with ⟨rfl, _⟩ | ⟨g, cap, cur, rfl, h2, h3, h4⟩
  · cases hk
  · cases hk; exact lt_of_block h3

theorem SideAt.lt {w : World} {O : Owner} {k : Key} {s : Nat} {a : Sd} (h : SideAt w O k s a) : s < w.heap.size := by
  obtain ⟨sv, uv, nb, h1, _⟩ := h.blk
  exact lt_of_block h1

theorem SideAt.kept {S : List Nat} {w w' : World} {O O' : Owner} {k : Key} {s : Nat} {a : Sd} (h : SideAt w O k s a) (hk : Kept S w w') (hS : ∀ b ∈ S, ∀ p, O b ≠ some (k, p)) (hO : ∀ b, b < w.heap.size → O' b = O b) : SideAt w' O' k s a := by
  have hn : ∀ b p, O b = some (k, p) → b ∉ S := fun b p e hb => hS b hb p e
  have hlt := h.lt
  obtain ⟨sv, uv, nb, h1, h2, h3, h4, h5, h6, h7⟩ := h.blk
  refine ⟨by rw [hO s hlt]; exact h.own, h.len, sv, uv, nb, hk.blk h1 (hn _ _ h.own), ownsRow_kept h2 hk (fun b e => hn _ _ (h3 b e)), fun b e => by rw [hO b (own_lt h2 b e)]; exact h3 b e,
    ownsRow_kept h4 hk (fun b e => hn _ _ (h5 b e)), fun b e => by rw [hO b (own_lt h4 b e)]; exact h5 b e, h6.kept hk (hn _ _ h7), by rw [hO nb h6.lt]; exact h7⟩

def ptr (s : Nat) : Value := .pointer (some ⟨s, 0, none⟩)
def upd {β : Type} (f : Key → β) (k : Key) (b : β) : Key → β := fun x => if x = k then b else f x

structure Court (w0 w : World) (mb : Nat) (c : Key → Sd) (O : Owner) (F : Key → Option Nat) : Prop where
  map : MapIs Try.prog 59 Key.val w mb (fun k => (F k).map ptr)
  side : ∀ k s, F k = some s → SideAt w O k s (c k)
  no : ∀ k, F k = none → c k = Sd.new
  own : ∀ b x, O b = some x → w0.heap.size ≤ b ∧ b ≠ mb
  mb : w0.heap.size ≤ mb
  kept : Kept [] w0 w
  msgs : ∀ k, ∀ m ∈ (c k).sent, m.here w0

section
variable {w0 w w' : World} {mb : Nat} {c : Key → Sd} {O O' : Owner} {F : Key → Option Nat} {k : Key}

/-- What the court does not own has turned. -/
theorem Court.stay (h : Court w0 w mb c O F) (hk : Kept [] w w') : Court w0 w' mb c O F :=
  ⟨h.map.kept hk (by simp), fun k s hs => (h.side k s hs).kept hk (by simp) (fun _ _ => rfl), h.no, h.own, h.mb, h.kept.tr hk, h.msgs⟩

/-- One side has turned. -/
theorem Court.put {S : List Nat} {s : Nat} {a : Sd} (h : Court w0 w mb c O F) (hF : F k = some s) (hk : Kept S w w') (hS : ∀ b ∈ S, ∃ p, O b = some (k, p)) (hO : ∀ b, b < w.heap.size → O' b = O b) (ha : SideAt w' O' k s a) (hm : ∀ m ∈ a.sent, m.here w0) :
    Court w0 w' mb (upd c k a) O' F where
  map := h.map.kept hk (fun hb => by obtain ⟨p, e⟩ := hS mb hb; exact (h.own mb _ e).2 rfl)
  side := fun k' s' e => by
    unfold upd
    by_cases hkk : k' = k
    · subst hkk
      rw [if_pos rfl]
      rw [hF] at e
      cases e
      exact ha
    · rw [if_neg hkk]
      refine (h.side k' s' e).kept hk (fun b hb p e => ?_) hO
      obtain ⟨q, e'⟩ := hS b hb
      rw [e'] at e
      cases e
      exact hkk rfl
  no := fun k' e => by
    unfold upd
    have : k' ≠ k := fun h => by rw [h, hF] at e; cases e
    rw [if_neg this]
    exact h.no k' e
  own := fun b x e => by
    by_cases hb : b < w.heap.size
    · rw [hO b hb] at e; exact h.own b x e
    · have := h.kept.size; have := h.map.lt
      exact ⟨by omega, by omega⟩
  mb := h.mb
  kept := h.kept.trans hk (fun b hb => by obtain ⟨p, e⟩ := hS b hb; exact .inr (h.own b _ e).1)
  msgs := fun k' m hmm => by
    unfold upd at hmm
    split at hmm
    · exact hm m hmm
    · exact h.msgs k' m hmm

/-- A side is made. -/
theorem Court.add {s nb : Nat} (h : Court w0 w mb c O F) (hF : F k = none) (hk : Kept [mb] w w') (hm : MapIs Try.prog 59 Key.val w' mb (fun x => if x = k then some (ptr s) else (F x).map ptr))
    (hnb : MapIs Try.prog 38 (Value.int .u16) w' nb (fun _ => none)) (hs : w'.heap[s]? = some (.cells #[.slice none 0 0, .slice none 0 0, .map (some nb), .bool false, .bool false, .bool false] 55 (0, 0)))
    (h1 : w.heap.size ≤ nb) (h2 : w.heap.size ≤ s) (h3 : nb ≠ s) : ∃ O', Court w0 w' mb c O' (upd F k (some s)) := by
  have hlt := h.map.lt
  have hsz := h.kept.size
  refine ⟨fun b => if b = nb then some (k, 3) else if b = s then some (k, 0) else O b, ⟨?_, ?_, ?_, ?_, h.mb, h.kept.trans hk (fun b hb => by simp at hb; subst hb; exact .inr h.mb), h.msgs⟩⟩
  · refine (show (fun x => if x = k then some (ptr s) else (F x).map ptr) = fun x => (upd F k (some s) x).map ptr from ?_) ▸ hm
    funext x
    unfold upd
    split <;> rfl
  · intro k' s' e
    unfold upd at e
    split at e
    · rename_i e1
      subst e1
      cases e
      rw [h.no k' hF]
      exact ⟨by simp [Ne.symm h3], rfl, _, _, nb, hs, World.ownsRow_nil _ _ _ _, by simp [Value.ownBlock], World.ownsRow_nil _ _ _ _, by simp [Value.ownBlock], (show (fun _ => none) = nextV Sd.new from by funext x; simp [nextV, Sd.new]) ▸ hnb, by simp⟩
    · refine (h.side k' s' e).kept hk (fun b hb p e => ?_) (fun b hb => ?_)
      · simp at hb; subst hb; exact (h.own _ _ e).2 rfl
      · rw [if_neg (by omega), if_neg (by omega)]
  · intro k' e
    unfold upd at e
    split at e
    · cases e
    · exact h.no k' e
  · intro b x e
    by_cases hb : b < w.heap.size
    · rw [if_neg (by omega), if_neg (by omega)] at e
      exact h.own b x e
    · exact ⟨by omega, by omega⟩
end

/-- A court is made. -/
theorem Court.made (w : World) : Court w (w.alloc (.map #[] 0)) w.heap.size (fun _ => Sd.new) (fun _ => none) (fun _ => none) :=
  ⟨MapIs.made w, by simp, by simp, by simp, Nat.le_refl _, (Kept.refl [] w).alloc _, by simp [Sd.new]⟩

end Go.Proofs.Ytepadejkeokbcaa
