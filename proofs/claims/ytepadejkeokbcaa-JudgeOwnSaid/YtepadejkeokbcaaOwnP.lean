/-
  In plain Lean: judging looks at what marks say, not where their bytes lie.
-/
import Derived.Test.YtepadejkeokbcaaOwed
namespace Go.Proofs.Ytepadejkeokbcaa

def Msg.bare (m : Msg) : Msg := { m with dv := .slice none 0 0 }
def Mark.bare (m : Mark) : Mark := { m with msg := m.msg.bare }
def Sd.bare (a : Sd) : Sd := { a with sent := a.sent.map Msg.bare }
def bareC (c : Key → Sd) : Key → Sd := fun k => (c k).bare

theorem bare_scan (m : Msg) (want : Nat) : ∀ (S : List Msg) (U : List Bool) (n i : Nat), scan m.bare want (S.map Msg.bare) U n i = scan m want S U n i
  | [], U, n, i => by simp [scan]
  | s :: S, [], n, i => by simp [scan]
  | s :: S, u :: U, n, i => by
    have e1 := bare_scan m want S U n (i + 1)
    have e2 := bare_scan m want S U (n + 1) (i + 1)
    rw [List.map_cons, scan, scan, e1, e2]
    rfl

theorem bare_got (c : Key → Sd) (k : Key) (m : Msg) : gotR (bareC c) k m.bare = gotR c k m :=
  bare_scan m ((c k).next m.stream) (c k.other).sent (c k.other).used 0 0

theorem bare_upd (c : Key → Sd) (k : Key) (a : Sd) : upd (bareC c) k a.bare = bareC (upd c k a) := by
  funext x
  show (if x = k then a.bare else (c x).bare) = (if x = k then a else c x).bare
  split <;> rfl

theorem bare_got2 (c : Key → Sd) (k : Key) (m : Msg) : got (bareC c) k m.bare = bareC (got c k m) := by
  unfold got
  rw [bare_got]
  cases (gotR c k m).2 with
  | none => rfl
  | some i =>
    dsimp only
    by_cases hf : m.free = true
    · rw [if_pos hf, if_pos (show m.bare.free = true from hf), ← bare_upd]
      rfl
    · rw [if_neg hf, if_neg (show ¬ m.bare.free = true from hf), ← bare_upd, ← bare_upd]
      rfl

theorem bare_told (a : Sd) (n : Int) : a.bare.told n = ((a.told n).1, (a.told n).2.bare) := by
  unfold Sd.told
  show (if n < 1 ∨ 5 < n then (2, a.bare) else if a.ended = true ∨ (n = 1 ∧ a.came = true) then (17, a.bare)
    else if n = 1 then (0, { a.bare with came := true }) else if n = 2 ∧ a.came = false then (9, a.bare) else (0, { a.bare with ended := true })) = _
  split
  · rfl
  · split
    · rfl
    · split
      · rfl
      · split <;> rfl

theorem bare_mark (c : Key → Sd) (m : Mark) : markR (bareC c) m.bare = ((markR c m).1, bareC (markR c m).2) := by
  unfold markR
  show (if m.host < 0 ∨ 1 < m.host then (2, bareC c) else markI (bareC c) m.bare m.is) = _
  by_cases h : m.host < 0 ∨ 1 < m.host
  · rw [if_pos h, if_pos h]
  · rw [if_neg h, if_neg h]
    unfold markI
    show (if m.is = 1 then (if (c m.key).shut = true ∨ (c m.key).ended = true then (9, bareC c) else (0, upd (bareC c) m.key ((c m.key).bare.send m.msg.bare)))
      else if m.is = 2 then ((gotR (bareC c) m.key m.msg.bare).1, got (bareC c) m.key m.msg.bare)
      else if m.is = 3 then (((c m.key).bare.told m.notice).1, upd (bareC c) m.key ((c m.key).bare.told m.notice).2)
      else if m.is = 4 then (if (c m.key).shut = true then (17, bareC c) else if (c m.key).ended = true then (9, bareC c) else (0, upd (bareC c) m.key (c m.key).bare.close))
      else (11, bareC c)) = _
    rw [bare_got, bare_got2, bare_told]
    have es : (c m.key).bare.send m.msg.bare = ((c m.key).send m.msg).bare := by simp [Sd.send, Sd.bare]
    have ec : (c m.key).bare.close = ((c m.key).close).bare := rfl
    rw [es, ec, bare_upd, bare_upd, bare_upd]
    split
    · split <;> rfl
    · split
      · rfl
      · split
        · rfl
        · split
          · split
            · rfl
            · split <;> rfl
          · rfl

theorem bare_judge : ∀ (L : List Mark) (c : Key → Sd) (i : Nat), judgeG (bareC c) (L.map Mark.bare) i = judgeG c L i
  | [], c, i => rfl
  | m :: L, c, i => by
    rw [List.map_cons, judgeG, judgeG, bare_mark, bare_judge L]

theorem bare_court : ∀ (L : List Mark) (c : Key → Sd), (L.map Mark.bare).foldl (fun c m => (markR c m).2) (bareC c) = bareC (L.foldl (fun c m => (markR c m).2) c)
  | [], c => rfl
  | m :: L, c => by
    rw [List.map_cons, List.foldl_cons, List.foldl_cons, bare_mark, bare_court L]

theorem judge_bare (L : List Mark) : judgeOf (L.map Mark.bare) = judgeOf L := bare_judge L court0 0
theorem court_bare (L : List Mark) : courtOf (L.map Mark.bare) = bareC (courtOf L) := bare_court L court0
theorem owed_bare (L : List Mark) (k : Key) : owedOf (L.map Mark.bare) k = owedOf L k := by
  unfold owedOf
  rw [judge_bare, court_bare]
  rfl

/-- Lists that say the same are judged alike. -/
theorem judge_same {L K : List Mark} (h : K.map Mark.bare = L.map Mark.bare) : judgeOf K = judgeOf L := by rw [← judge_bare K, h, judge_bare]
theorem owed_same {L K : List Mark} (h : K.map Mark.bare = L.map Mark.bare) (k : Key) : owedOf K k = owedOf L k := by rw [← owed_bare K, h, owed_bare]

end Go.Proofs.Ytepadejkeokbcaa
