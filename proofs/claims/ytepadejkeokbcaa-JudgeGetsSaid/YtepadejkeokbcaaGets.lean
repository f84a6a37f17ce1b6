/-
  In plain Lean: what a side was told, the other one had sent.
-/
import Derived.Test.YtepadejkeokbcaaEnds
namespace Go.Proofs.Ytepadejkeokbcaa

theorem alike_iff {a b : Msg} : a.alike b = true ↔ a.stream = b.stream ∧ a.ppid = b.ppid ∧ a.free = b.free ∧ a.data = b.data := by
  simp [Msg.alike, and_assoc]
theorem alike_of {s m : Msg} (h : s.alike m = true) (x : Msg) : s.alike x = m.alike x := by
  obtain ⟨h1, h2, h3, h4⟩ := alike_iff.1 h
  simp [Msg.alike, h1, h2, h3, h4]

def inRow (x : Int) (s : Msg) : Bool := !s.free && s.stream == x

/-- What 'scan' uses. -/
theorem scan_hit (m : Msg) (want : Nat) : ∀ (S : List Msg) (U : List Bool) (n i : Nat), U.length = S.length → (m.free = false → n ≤ want ∧ ordered m.stream S U (want - n)) →
    ∀ q, (scan m want S U n i).2 = some q → ∃ j, ∃ h : j < S.length, q = i + j ∧ (S[j]).alike m = true ∧ U[j]? = some false ∧ (m.free = false → n + (S.take j).countP (inRow m.stream) = want ∧ inRow m.stream S[j] = true)
  | [], [], n, i, _, _, q, hq => by simp [scan] at hq
  | s :: S, u :: U, n, i, hl, ho, q, hq => by
    have hl' : U.length = S.length := by simpa using hl
    rw [scan] at hq
    by_cases h1 : s.stream ≠ m.stream ∨ s.free ≠ m.free
    · rw [if_pos h1] at hq
      have hnot : m.free = false → ¬ (s.free = false ∧ s.stream = m.stream) := fun hf c => by
        rcases h1 with h | h
        · exact h c.2
        · exact h (by rw [c.1, hf])
      have ho' : m.free = false → n ≤ want ∧ ordered m.stream S U (want - n) := fun hf => by
        obtain ⟨a, b⟩ := ho hf
        refine ⟨a, ?_⟩
        unfold ordered at b
        rwa [if_neg (hnot hf)] at b
      obtain ⟨j, hj, e1, e2, e3, e4⟩ := scan_hit m want S U n (i + 1) hl' ho' q hq
      refine ⟨j + 1, by simpa using hj, by omega, e2, e3, fun hf => ?_⟩
      have hr : inRow m.stream s = false := by
        cases hh : inRow m.stream s
        · rfl
        · exact absurd (by simpa [inRow] using hh) (hnot hf)
      have := e4 hf
      rw [List.take_succ_cons, List.countP_cons_of_neg (by simp [hr])]
      exact this
    · rw [if_neg h1] at hq
      have hst : s.stream = m.stream := Classical.byContradiction fun h => h1 (.inl h)
      have hfr : s.free = m.free := Classical.byContradiction fun h => h1 (.inr h)
      cases hf : m.free with
      | true =>
        rw [if_pos hf] at hq
        by_cases h2 : u = false ∧ s.alike m = true
        · rw [if_pos h2] at hq
          have hq : i = q := Option.some.inj hq
          exact ⟨0, by simp, by omega, h2.2, by simp [h2.1], fun h => by simp at h⟩
        · rw [if_neg h2] at hq
          obtain ⟨j, hj, e1, e2, e3, _⟩ := scan_hit m want S U (n + 1) (i + 1) hl' (fun h => by rw [hf] at h; cases h) q hq
          exact ⟨j + 1, by simpa using hj, by omega, e2, e3, fun h => by simp at h⟩
      | false =>
        rw [if_neg (by simp [hf])] at hq
        have hfs : s.free = false := by rw [hfr, hf]
        have hr : inRow m.stream s = true := by simp [inRow, hfs, hst]
        obtain ⟨hnw, hord⟩ := ho hf
        unfold ordered at hord
        rw [if_pos ⟨hfs, hst⟩] at hord
        by_cases h3 : n = want
        · subst h3
          rw [Nat.sub_self] at hord
          rw [if_pos rfl] at hq
          by_cases ha : s.alike m = true
          · rw [if_pos ha] at hq
            have hq : i = q := Option.some.inj hq
            exact ⟨0, by simp, by omega, ha, by simp [hord.1], fun _ => ⟨by simp, hr⟩⟩
          · rw [if_neg ha] at hq; cases hq
        · rw [if_neg h3] at hq
          obtain ⟨d, hd⟩ : ∃ d, want - n = d + 1 := ⟨want - n - 1, by omega⟩
          rw [hd] at hord
          have hd' : want - (n + 1) = d := by omega
          obtain ⟨j, hj, e1, e2, e3, e4⟩ := scan_hit m want S U (n + 1) (i + 1) hl' (fun _ => ⟨by omega, by rw [hd']; exact hord.2⟩) q hq
          refine ⟨j + 1, by simpa using hj, by omega, e2, e3, fun _ => ?_⟩
          have := e4 hf
          rw [List.take_succ_cons, List.countP_cons_of_pos hr]
          exact ⟨by omega, this.2⟩

/-- How many used ones are alike to x. -/
def usedN (x : Msg) : List Msg → List Bool → Nat
  | s :: S, u :: U => (if u = true ∧ s.alike x = true then 1 else 0) + usedN x S U
  | _, _ => 0
theorem usedN_set (x : Msg) : ∀ (S : List Msg) (U : List Bool) (j : Nat) (h : j < S.length), U[j]? = some false → usedN x S (U.set j true) = usedN x S U + (if (S[j]).alike x = true then 1 else 0)
  | s :: S, u :: U, 0, _, hu => by
    simp only [List.getElem?_cons_zero, Option.some.injEq] at hu
    subst hu
    simp only [List.set_cons_zero, usedN, List.getElem_cons_zero]
    simp
    omega
  | s :: S, u :: U, j + 1, h, hu => by
    simp only [List.set_cons_succ, usedN, List.getElem_cons_succ]
    rw [usedN_set x S U j (by simpa using h) (by simpa using hu)]
    omega
theorem usedN_append (x m : Msg) : ∀ (S : List Msg) (U : List Bool), U.length = S.length → usedN x (S ++ [m]) (U ++ [false]) = usedN x S U
  | [], [], _ => by simp [usedN]
  | s :: S, u :: U, h => by
    simp only [List.cons_append, usedN]
    rw [usedN_append x m S U (by simpa using h)]
theorem usedN_lt (x : Msg) : ∀ (S : List Msg) (U : List Bool) (j : Nat) (h : j < S.length), U[j]? = some false → (S[j]).alike x = true → usedN x S U < S.countP (fun s => s.alike x)
  | s :: S, u :: U, 0, _, hu, ha => by
    simp only [List.getElem?_cons_zero, Option.some.injEq] at hu
    subst hu
    have ha : s.alike x = true := ha
    have hle : ∀ (S : List Msg) (U : List Bool), usedN x S U ≤ S.countP (fun s => s.alike x) := fun S => by
      induction S with
      | nil => intro U; cases U <;> simp [usedN]
      | cons s S ih =>
        intro U
        cases U with
        | nil => simp [usedN]
        | cons u U =>
          have := ih U
          rw [usedN, List.countP_cons]
          split
          · rename_i hc; rw [if_pos hc.2]; omega
          · omega
    have := hle S U
    rw [usedN, List.countP_cons, if_pos ha]
    simp
    omega
  | s :: S, u :: U, j + 1, h, hu, ha => by
    have := usedN_lt x S U j (by simpa using h) (by simpa using hu) (by simpa using ha)
    rw [usedN, List.countP_cons]
    split
    · rename_i hc; rw [if_pos hc.2]; omega
    · omega

def isTold (k : Key) (x : Int) (m : Mark) : Bool := m.is == 2 && (m.of k && inRow x m.msg)
def isSame (k : Key) (x : Msg) (m : Mark) : Bool := m.is == 2 && (m.of k && m.msg.alike x)

/-- How much was told. -/
structure Told2 (L : List Mark) (c : Key → Sd) : Prop where
  next : ∀ k x, (c k).next x = L.countP (isTold k x)
  used : ∀ k x, usedN x (c k.other).sent (c k.other).used = L.countP (isSame k x)

theorem told0 : Told2 [] court0 := ⟨fun _ _ => rfl, fun _ _ => rfl⟩
theorem count_snoc (L : List Mark) (m : Mark) (p : Mark → Bool) : (L ++ [m]).countP p = L.countP p + (if p m = true then 1 else 0) := by
  rw [List.countP_append, List.countP_singleton]

theorem told_step {L : List Mark} {c : Key → Sd} (g : Good L c) (h : Told2 L c) {m : Mark} (h0 : (markR c m).1 = 0) : Told2 (L ++ [m]) (markR c m).2 := by
  have hin : ¬ (m.host < 0 ∨ 1 < m.host) := fun hc => by rw [markR, if_pos hc] at h0; cases h0
  rw [markR_in hin] at h0 ⊢
  have plain : ∀ c' : Key → Sd, m.is ≠ 2 → (∀ k, (c' k).next = (c k).next) → (∀ k x, usedN x (c' k).sent (c' k).used = usedN x (c k).sent (c k).used) → Told2 (L ++ [m]) c' := fun c' h2 e1 e2 =>
    ⟨fun k x => by rw [e1, h.next, count_snoc, if_neg (by simp [isTold, h2]), Nat.add_zero], fun k x => by rw [e2, h.used, count_snoc, if_neg (by simp [isSame, h2]), Nat.add_zero]⟩
  by_cases i1 : m.is = 1
  · rw [markI, if_pos i1] at h0 ⊢
    by_cases hc : (c m.key).shut = true ∨ (c m.key).ended = true
    · rw [if_pos hc] at h0; cases h0
    · rw [if_neg hc]
      refine plain _ (by omega) (fun k => ?_) (fun k x => ?_)
      · show (upd c m.key _ k).next = _
        unfold upd
        split
        · rename_i e; subst e; rfl
        · rfl
      · show usedN x (upd c m.key _ k).sent (upd c m.key _ k).used = _
        unfold upd
        split
        · rename_i e; subst e; exact usedN_append x m.msg _ _ (g.len _)
        · rfl
  · by_cases i2 : m.is = 2
    · rw [markI, if_neg i1, if_pos i2] at h0 ⊢
      dsimp only at h0 ⊢
      have hne : m.key.other ≠ m.key := Key.other_ne
      have hho : m.msg.free = false → 0 ≤ (c m.key).next m.msg.stream ∧ ordered m.msg.stream (c m.key.other).sent (c m.key.other).used ((c m.key).next m.msg.stream - 0) := fun _ => ⟨Nat.zero_le _, by simpa using g.ord m.key m.msg.stream⟩
      have hs := scan_spec m.msg ((c m.key).next m.msg.stream) (c m.key.other).sent (c m.key.other).used 0 0 (g.len _) hho
      unfold got
      cases hq : (gotR c m.key m.msg).2 with
      | none => exact absurd h0 (hs.2.1 hq)
      | some q =>
        obtain ⟨j, hj, ej, hal, huj, _⟩ := scan_hit m.msg ((c m.key).next m.msg.stream) (c m.key.other).sent (c m.key.other).used 0 0 (g.len _) hho q hq
        have ej : q = j := by omega
        subst ej
        have key : ∀ c' : Key → Sd, (∀ k, (c' k).sent = (c k).sent) → (∀ k, (c' k).used = if k = m.key.other then (c m.key.other).used.set q true else (c k).used) → (∀ k x, (c' k).next x = if m.msg.free = false ∧ k = m.key ∧ x = m.msg.stream then (c k).next x + 1 else (c k).next x) → Told2 (L ++ [m]) c' := by
          intro c' a1 a2 a3
          refine ⟨fun k x => ?_, fun k x => ?_⟩
          · rw [a3, h.next, count_snoc]
            by_cases hc : m.msg.free = false ∧ k = m.key ∧ x = m.msg.stream
            · obtain ⟨c1, c2, c3⟩ := hc
              rw [if_pos ⟨c1, c2, c3⟩, if_pos (by simp [isTold, i2, of_key, c2, inRow, c1, c3])]
            · rw [if_neg hc, if_neg, Nat.add_zero]
              intro ht
              simp only [isTold, i2, of_key, inRow, Bool.and_eq_true, decide_eq_true_eq, Bool.not_eq_eq_eq_not, Bool.not_true, beq_iff_eq, true_and] at ht
              exact hc ⟨ht.2.1, ht.1.symm, ht.2.2.symm⟩
          · rw [a1, a2, count_snoc]
            by_cases e : k.other = m.key.other
            · have ek : k = m.key := by rw [← other_other k, e, other_other]
              subst ek
              rw [if_pos rfl, usedN_set x _ _ q hj huj, h.used, alike_of hal]
              congr 1
              simp [isSame, i2, of_key]
            · rw [if_neg e, h.used, if_neg, Nat.add_zero]
              intro ht
              simp only [isSame, of_key, Bool.and_eq_true, decide_eq_true_eq] at ht
              exact e (by rw [ht.2.1])
        dsimp only
        by_cases hfr : m.msg.free = true
        · rw [if_pos hfr]
          refine key _ (fun k => ?_) (fun k => ?_) (fun k x => ?_)
          all_goals unfold upd
          · split
            · rename_i e; subst e; rfl
            · rfl
          · split
            · rfl
            · rfl
          · rw [if_neg (show ¬ (m.msg.free = false ∧ k = m.key ∧ x = m.msg.stream) from fun q => by rw [hfr] at q; cases q.1)]
            split
            · rename_i e; subst e; rfl
            · rfl
        · rw [if_neg hfr]
          have hfr' : m.msg.free = false := by simpa using hfr
          refine key _ (fun k => ?_) (fun k => ?_) (fun k x => ?_)
          all_goals unfold upd
          all_goals by_cases ek : k = m.key
          all_goals first | (subst ek; rw [if_pos rfl]) | (rw [if_neg ek])
          · rfl
          · split
            · rename_i e; subst e; rfl
            · rfl
          · rw [if_neg (Ne.symm hne)]; rfl
          · split
            · rfl
            · rfl
          · show (if x = m.msg.stream then (c m.key).next x + 1 else (c m.key).next x) = _
            by_cases hx : x = m.msg.stream
            · rw [if_pos hx, if_pos ⟨hfr', rfl, hx⟩]
            · rw [if_neg hx, if_neg (fun q => hx q.2.2)]
          · rw [if_neg (show ¬ (m.msg.free = false ∧ k = m.key ∧ x = m.msg.stream) from fun q => ek q.2.1)]
            split
            · rename_i e; subst e; rfl
            · rfl
    · by_cases i3 : m.is = 3
      · rw [markI, if_neg i1, if_neg i2, if_pos i3]
        refine plain _ i2 (fun k => ?_) (fun k x => ?_)
        · show (upd c m.key _ k).next = _
          unfold upd
          split
          · rename_i e; subst e; exact told_next _ _
          · rfl
        · show usedN x (upd c m.key _ k).sent (upd c m.key _ k).used = _
          unfold upd
          split
          · rename_i e; subst e; rw [told_sent, told_used]
          · rfl
      · by_cases i4 : m.is = 4
        · rw [markI, if_neg i1, if_neg i2, if_neg i3, if_pos i4] at h0 ⊢
          by_cases d1 : (c m.key).shut = true
          · rw [if_pos d1] at h0; cases h0
          · rw [if_neg d1] at h0 ⊢
            by_cases d2 : (c m.key).ended = true
            · rw [if_pos d2] at h0; cases h0
            · rw [if_neg d2]
              refine plain _ i2 (fun k => ?_) (fun k x => ?_)
              · show (upd c m.key _ k).next = _
                unfold upd
                split
                · rename_i e; subst e; rfl
                · rfl
              · show usedN x (upd c m.key _ k).sent (upd c m.key _ k).used = _
                unfold upd
                split
                · rename_i e; subst e; rfl
                · rfl
        · rw [markI, if_neg i1, if_neg i2, if_neg i3, if_neg i4] at h0
          cases h0

theorem told_all {L : List Mark} (h : (judgeOf L).2 = 0) : ∀ k, k ≤ L.length → Told2 (L.take k) (courtOf (L.take k))
  | 0, _ => told0
  | k + 1, hk => by
    obtain ⟨g, h0⟩ := good_all h k (by omega)
    rw [courtOf_snoc (by omega), List.take_succ_eq_append_getElem (by omega)]
    exact told_step g (told_all h k (by omega)) h0

/-- What is told at place i. -/
theorem gets_ok {L : List Mark} (h : (judgeOf L).2 = 0) {i : Nat} (hi : i < L.length) (h2 : L[i].is = 2) :
    (L[i].msg.free = true → (L.take i).countP (isSame L[i].key L[i].msg) < (sentR (L.take i) L[i].key.other).countP (fun s => s.alike L[i].msg)) ∧
    (L[i].msg.free = false → ∃ j, ∃ hj : j < (sentR (L.take i) L[i].key.other).length, inRow L[i].msg.stream (sentR (L.take i) L[i].key.other)[j] = true ∧ ((sentR (L.take i) L[i].key.other)[j]).alike L[i].msg = true ∧
      ((sentR (L.take i) L[i].key.other).take j).countP (inRow L[i].msg.stream) = (L.take i).countP (isTold L[i].key L[i].msg.stream)) := by
  obtain ⟨g, h0⟩ := good_all h i hi
  have t := told_all h i (by omega)
  generalize L[i] = m at *
  generalize courtOf (L.take i) = c at *
  have hin : ¬ (m.host < 0 ∨ 1 < m.host) := fun hc => by rw [markR, if_pos hc] at h0; cases h0
  rw [markR_in hin, markI, if_neg (by omega), if_pos h2] at h0
  dsimp only at h0
  have hho : m.msg.free = false → 0 ≤ (c m.key).next m.msg.stream ∧ ordered m.msg.stream (c m.key.other).sent (c m.key.other).used ((c m.key).next m.msg.stream - 0) := fun _ => ⟨Nat.zero_le _, by simpa using g.ord m.key m.msg.stream⟩
  have hs := scan_spec m.msg ((c m.key).next m.msg.stream) (c m.key.other).sent (c m.key.other).used 0 0 (g.len _) hho
  rw [← g.sent, ← t.used, ← t.next]
  cases hq : (gotR c m.key m.msg).2 with
  | none => exact absurd h0 (hs.2.1 hq)
  | some q =>
    obtain ⟨j, hj, ej, hal, huj, hin⟩ := scan_hit m.msg ((c m.key).next m.msg.stream) (c m.key.other).sent (c m.key.other).used 0 0 (g.len _) hho q hq
    refine ⟨fun _ => usedN_lt m.msg _ _ j hj huj hal, fun hf => ⟨j, hj, (hin hf).2, hal, ?_⟩⟩
    have := (hin hf).1
    omega

end Go.Proofs.Ytepadejkeokbcaa
