/-
  In plain Lean: behind a trace that may be the court is good; the reference answers as the judge does.
-/
import Derived.Test.YtepadejkeokbcaaGood
namespace Go.Proofs.Ytepadejkeokbcaa

/-- Each message told found one that fitted. -/
def Hits (ko : Key) : List Mark → List Msg → Prop
  | [], _ => True
  | x :: L, l => (isGot ko x = true → l.any (fits x.msg) = true) ∧ Hits ko L (leftStep ko l x)

theorem hits_more (ko : Key) : ∀ (L : List Mark) (l e : List Msg), Hits ko L l → L.foldl (leftStep ko) (l ++ e) = L.foldl (leftStep ko) l ++ e ∧ Hits ko L (l ++ e)
  | [], _, _, _ => ⟨rfl, trivial⟩
  | x :: L, l, e, h => by
    have hs : leftStep ko (l ++ e) x = leftStep ko l x ++ e := by
      unfold leftStep
      split
      · rename_i hg
        obtain ⟨a, ha, hp⟩ := List.any_eq_true.1 (h.1 hg)
        exact List.eraseP_append_left hp _ ha
      · rfl
    have ih := hits_more ko L (leftStep ko l x) e h.2
    refine ⟨by simp only [List.foldl_cons]; rw [hs]; exact ih.1, fun hg => ?_, by rw [hs]; exact ih.2⟩
    rw [List.any_append, h.1 hg, Bool.true_or]
theorem hits_snoc (ko : Key) (m : Mark) : ∀ (L : List Mark) (l : List Msg), Hits ko L l → (isGot ko m = true → (L.foldl (leftStep ko) l).any (fits m.msg) = true) → Hits ko (L ++ [m]) l
  | [], _, _, h => ⟨h, trivial⟩
  | _ :: L, _, h, hm => ⟨h.1, hits_snoc ko m L _ h.2 hm⟩

theorem sentR_snoc (L : List Mark) (m : Mark) (k : Key) : sentR (L ++ [m]) k = sentR L k ++ (if isSent k m = true then [m.msg] else []) := by
  unfold sentR
  rw [List.filter_append, List.map_append]
  congr 1
  simp only [List.filter_cons, List.filter_nil]
  split <;> rfl
theorem any_snoc (L : List Mark) (m : Mark) (p : Mark → Bool) : (L ++ [m]).any p = (L.any p || p m) := by rw [List.any_append]; simp

structure Good (L : List Mark) (c : Key → Sd) : Prop where
  host : ∀ x ∈ L, 0 ≤ x.host ∧ x.host ≤ 1
  sent : ∀ k, (c k).sent = sentR L k
  len : ∀ k, (c k).used.length = (c k).sent.length
  left : ∀ k, leftR L k k.other = pick (c k).sent (c k).used
  hits : ∀ k, Hits k.other L (sentR L k)
  ord : ∀ k x, ordered x (c k.other).sent (c k.other).used ((c k).next x)
  ended : ∀ k, (c k).ended = L.any (isEnd k)
  came : ∀ k, (c k).came = L.any (isCame k)
  shut : ∀ k, (c k).shut = L.any (isShut k)

theorem good0 : Good [] court0 := ⟨by simp, fun _ => rfl, fun _ => rfl, fun _ => rfl, fun _ => trivial, fun _ _ => rfl, fun _ => rfl, fun _ => rfl, fun _ => rfl⟩

theorem of_key {m : Mark} {k : Key} : m.of k = decide (m.key = k) := by
  rw [Bool.eq_iff_iff, Mark.of_iff]; simp

/-- The reference answers as the judge does. -/
theorem one_eq {L : List Mark} {c : Key → Sd} (h : Good L c) (m : Mark) : oneR L m = (markR c m).1 := by
  by_cases hh : m.host < 0 ∨ 1 < m.host
  · rw [oneR, if_pos (by omega), markR, if_pos hh]
  · rw [oneR_in (by omega), markR_in hh]
    unfold oneI markI
    rw [← h.ended, ← h.came, ← h.shut]
    split
    · split <;> rfl
    · split
      · have hs := scan_spec m.msg ((c m.key).next m.msg.stream) (c m.key.other).sent (c m.key.other).used 0 0 (h.len _) (fun _ => ⟨Nat.zero_le _, by simpa using h.ord m.key m.msg.stream⟩)
        have hl := h.left m.key.other
        rw [other_other] at hl
        show oneScan m.msg (leftR L m.key.other m.key) = (gotR c m.key m.msg).1
        rw [hl]
        exact hs.1.symm
      · split
        · unfold Sd.told
          by_cases n1 : m.notice < 1 ∨ 5 < m.notice
          · simp [n1]
          · simp only [n1, ↓reduceIte]
            by_cases n2 : (c m.key).ended = true
            · simp [n2]
            · by_cases n3 : m.notice = 1
              · cases (c m.key).came <;> simp [n2, n3]
              · by_cases n4 : m.notice = 2
                · cases (c m.key).came <;> simp [n2, n4]
                · simp [n2, n3, n4]
        · split
          · split
            · rfl
            · split <;> rfl
          · rfl

theorem leftR_snoc (L : List Mark) (m : Mark) (k ko : Key) : leftR (L ++ [m]) k ko = leftStep ko (L.foldl (leftStep ko) (sentR (L ++ [m]) k)) m := by
  rw [leftR, List.foldl_append]; rfl

/-- A mark that neither sends nor is told: the flags alone turn. -/
theorem good_flags {L : List Mark} {c c' : Key → Sd} (h : Good L c) {m : Mark} (hh : 0 ≤ m.host ∧ m.host ≤ 1) (h1 : m.is ≠ 1) (h2 : m.is ≠ 2) (e1 : ∀ k, (c' k).sent = (c k).sent) (e2 : ∀ k, (c' k).used = (c k).used) (e3 : ∀ k, (c' k).next = (c k).next)
    (f1 : ∀ k, (c' k).ended = ((c k).ended || isEnd k m)) (f2 : ∀ k, (c' k).came = ((c k).came || isCame k m)) (f3 : ∀ k, (c' k).shut = ((c k).shut || isShut k m)) : Good (L ++ [m]) c' := by
  have hs : ∀ k, sentR (L ++ [m]) k = sentR L k := fun k => by
    rw [sentR_snoc, if_neg (by simp [isSent, h1]), List.append_nil]
  have hg : ∀ k, isGot k m = false := fun k => by simp [isGot, h2]
  refine ⟨fun x hx => ?_, fun k => by rw [e1, h.sent, hs], fun k => by rw [e1, e2, h.len], fun k => ?_, fun k => ?_, fun k x => by rw [e1, e2, e3]; exact h.ord k x, fun k => by rw [f1, h.ended, any_snoc], fun k => by rw [f2, h.came, any_snoc], fun k => by rw [f3, h.shut, any_snoc]⟩
  · rcases List.mem_append.1 hx with hx | hx
    · exact h.host x hx
    · simp at hx; subst hx; exact hh
  · rw [leftR_snoc, hs, leftStep, if_neg (by simp [hg]), e1, e2]; exact h.left k
  · rw [hs]; exact hits_snoc _ m L _ (h.hits k) (fun q => by rw [hg] at q; cases q)

theorem good_step {L : List Mark} {c : Key → Sd} (h : Good L c) {m : Mark} (h0 : (markR c m).1 = 0) : Good (L ++ [m]) (markR c m).2 := by
  by_cases hh : m.host < 0 ∨ 1 < m.host
  · rw [markR, if_pos hh] at h0; cases h0
  · have hh' : 0 ≤ m.host ∧ m.host ≤ 1 := by omega
    rw [markR_in hh] at h0 ⊢
    have hhost : ∀ x ∈ L ++ [m], 0 ≤ x.host ∧ x.host ≤ 1 := fun x hx => by
      rcases List.mem_append.1 hx with hx | hx
      · exact h.host x hx
      · simp at hx; subst hx; exact hh'
    by_cases i1 : m.is = 1
    · rw [markI, if_pos i1] at h0 ⊢
      by_cases hc : (c m.key).shut = true ∨ (c m.key).ended = true
      · rw [if_pos hc] at h0; cases h0
      · rw [if_neg hc]
        dsimp only
        have hg : ∀ k, isGot k m = false := fun k => by simp [isGot, i1]
        have hf1 : ∀ k, isEnd k m = false := fun k => by simp [isEnd, i1]
        have hf2 : ∀ k, isCame k m = false := fun k => by simp [isCame, i1]
        have hf3 : ∀ k, isShut k m = false := fun k => by simp [isShut, i1]
        have hsn : ∀ k, isSent k m = decide (m.key = k) := fun k => by simp [isSent, i1, of_key]
        have hss : ∀ k, sentR (L ++ [m]) k = sentR L k ++ (if m.key = k then [m.msg] else []) := fun k => by
          rw [sentR_snoc, hsn]; simp
        refine ⟨hhost, fun k => ?_, fun k => ?_, fun k => ?_, fun k => ?_, fun k x => ?_, fun k => ?_, fun k => ?_, fun k => ?_⟩
        · rw [hss]
          unfold upd
          by_cases e : k = m.key
          · subst e; rw [if_pos rfl, if_pos rfl, ← h.sent]; rfl
          · rw [if_neg e, if_neg (Ne.symm e), List.append_nil, h.sent]
        · unfold upd
          by_cases e : k = m.key
          · subst e; rw [if_pos rfl]; simp [Sd.send, h.len]
          · rw [if_neg e, h.len]
        · rw [leftR_snoc, leftStep, if_neg (by simp [hg]), hss]
          rw [(hits_more k.other L (sentR L k) _ (h.hits k)).1]
          have hl := h.left k
          unfold leftR at hl
          rw [hl]
          unfold upd
          by_cases e : k = m.key
          · subst e
            rw [if_pos rfl, if_pos rfl]
            exact (pick_append _ _ _ (h.len _)).symm
          · rw [if_neg e, if_neg (Ne.symm e), List.append_nil]
        · rw [hss]
          exact hits_snoc _ m L _ (hits_more k.other L (sentR L k) _ (h.hits k)).2 (fun q => by rw [hg] at q; cases q)
        · have hn : (upd c m.key ((c m.key).send m.msg) k).next = (c k).next := by
            unfold upd
            split
            · rename_i e; subst e; rfl
            · rfl
          rw [hn]
          have ho := h.ord k x
          unfold upd
          by_cases e : k.other = m.key
          · rw [if_pos e]
            rw [e] at ho
            exact ordered_append x _ _ m.msg _ (h.len _) ho
          · rw [if_neg e]; exact ho
        · rw [any_snoc, hf1, Bool.or_false, ← h.ended]
          unfold upd
          split
          · rename_i e; subst e; rfl
          · rfl
        · rw [any_snoc, hf2, Bool.or_false, ← h.came]
          unfold upd
          split
          · rename_i e; subst e; rfl
          · rfl
        · rw [any_snoc, hf3, Bool.or_false, ← h.shut]
          unfold upd
          split
          · rename_i e; subst e; rfl
          · rfl
    · by_cases i2 : m.is = 2
      · rw [markI, if_neg i1, if_pos i2] at h0 ⊢
        dsimp only at h0 ⊢
        have hs := scan_spec m.msg ((c m.key).next m.msg.stream) (c m.key.other).sent (c m.key.other).used 0 0 (h.len _) (fun _ => ⟨Nat.zero_le _, by simpa using h.ord m.key m.msg.stream⟩)
        have hne : m.key.other ≠ m.key := Key.other_ne
        unfold got
        cases hq : (gotR c m.key m.msg).2 with
        | none => exact absurd h0 (hs.2.1 hq)
        | some q =>
          obtain ⟨j, ej, _, e3, e4, e5, e6⟩ := hs.2.2 q hq
          have ej : q = j := by omega
          subst ej
          rw [Nat.sub_zero] at e5
          have hss : ∀ k, sentR (L ++ [m]) k = sentR L k := fun k => by
            rw [sentR_snoc, if_neg (by simp [isSent, i2]), List.append_nil]
          have hf1 : ∀ k, isEnd k m = false := fun k => by simp [isEnd, i2]
          have hf2 : ∀ k, isCame k m = false := fun k => by simp [isCame, i2]
          have hf3 : ∀ k, isShut k m = false := fun k => by simp [isShut, i2]
          have hgt : ∀ k : Key, isGot k.other m = decide (k = m.key.other) := fun k => by
            simp only [isGot, i2, of_key, beq_self_eq_true, Bool.true_and]
            congr 1
            exact propext ⟨fun e => by rw [e, other_other], fun e => by rw [e, other_other]⟩
          have key : ∀ c' : Key → Sd, (∀ k, (c' k).sent = (c k).sent) → (∀ k, (c' k).used = if k = m.key.other then (c m.key.other).used.set q true else (c k).used) → (∀ k x, (c' k).next x = if m.msg.free = false ∧ k = m.key ∧ x = m.msg.stream then (c k).next x + 1 else (c k).next x) →
              (∀ k, (c' k).ended = (c k).ended) → (∀ k, (c' k).came = (c k).came) → (∀ k, (c' k).shut = (c k).shut) → Good (L ++ [m]) c' := by
            intro c' a1 a2 a3 a4 a5 a6
            refine ⟨hhost, fun k => by rw [a1, hss, h.sent], fun k => ?_, fun k => ?_, fun k => ?_, fun k x => ?_, fun k => by rw [a4, any_snoc, hf1, Bool.or_false, h.ended], fun k => by rw [a5, any_snoc, hf2, Bool.or_false, h.came], fun k => by rw [a6, any_snoc, hf3, Bool.or_false, h.shut]⟩
            · rw [a1, a2]
              split
              · rename_i e; subst e; rw [List.length_set, h.len]
              · exact h.len k
            · rw [leftR_snoc, hss]
              have hl := h.left k
              unfold leftR at hl
              rw [hl, a1, a2, leftStep, hgt]
              by_cases e : k = m.key.other
              · subst e
                simp only [decide_true, ↓reduceIte]
                exact e3.symm
              · simp only [e, decide_false, Bool.false_eq_true, ↓reduceIte]
            · rw [hss]
              refine hits_snoc _ m L _ (h.hits k) (fun hgk => ?_)
              rw [hgt] at hgk
              have e : k = m.key.other := of_decide_eq_true hgk
              subst e
              have hl := h.left m.key.other
              unfold leftR at hl
              rw [hl]
              exact e4
            · rw [a1, a2, a3]
              have ho := h.ord k x
              by_cases e : k.other = m.key.other
              · have ek : k = m.key := by rw [← other_other k, e, other_other]
                subst ek
                rw [if_pos rfl]
                by_cases hx : m.msg.free = false ∧ x = m.msg.stream
                · rw [if_pos ⟨hx.1, rfl, hx.2⟩, hx.2]
                  exact e5 hx.1
                · rw [if_neg (fun q => hx ⟨q.1, q.2.2⟩)]
                  refine e6 x _ ?_ ho
                  by_cases hfr : m.msg.free = true
                  · exact .inl hfr
                  · exact .inr (fun e => hx ⟨by simpa using hfr, e⟩)
              · rw [if_neg e, if_neg (fun q => e (by rw [q.2.1]))]
                exact ho
          dsimp only
          by_cases hfr : m.msg.free = true
          · rw [if_pos hfr]
            refine key _ (fun k => ?_) (fun k => ?_) (fun k x => ?_) (fun k => ?_) (fun k => ?_) (fun k => ?_)
            all_goals unfold upd
            · split
              · rename_i e; subst e; rfl
              · rfl
            · split
              · rfl
              · rfl
            · rw [if_neg (show ¬ (m.msg.free = false ∧ k = m.key ∧ x = m.msg.stream) from fun q => by rw [hfr] at q; cases q.1)]
              split
              · rename_i e; subst e; rfl
              · rfl
            · split
              · rename_i e; subst e; rfl
              · rfl
            · split
              · rename_i e; subst e; rfl
              · rfl
            · split
              · rename_i e; subst e; rfl
              · rfl
          · rw [if_neg hfr]
            have hfr' : m.msg.free = false := by simpa using hfr
            refine key _ (fun k => ?_) (fun k => ?_) (fun k x => ?_) (fun k => ?_) (fun k => ?_) (fun k => ?_)
            all_goals unfold upd
            all_goals by_cases ek : k = m.key
            all_goals first | (subst ek; rw [if_pos rfl]) | (rw [if_neg ek])
            · rfl
            · split
              · rename_i e; subst e; rfl
              · rfl
            · rw [if_neg (Ne.symm hne)]; rfl
            · split
              · rfl
              · rfl
            · show (if x = m.msg.stream then (c m.key).next x + 1 else (c m.key).next x) = _
              by_cases hx : x = m.msg.stream
              · rw [if_pos hx, if_pos ⟨hfr', rfl, hx⟩]
              · rw [if_neg hx, if_neg (fun q => hx q.2.2)]
            · rw [if_neg (show ¬ (m.msg.free = false ∧ k = m.key ∧ x = m.msg.stream) from fun q => ek q.2.1)]
              split
              · rename_i e; subst e; rfl
              · rfl
            · rfl
            · split
              · rename_i e; subst e; rfl
              · rfl
            · rfl
            · split
              · rename_i e; subst e; rfl
              · rfl
            · rfl
            · split
              · rename_i e; subst e; rfl
              · rfl
      · by_cases i3 : m.is = 3
        · rw [markI, if_neg i1, if_neg i2, if_pos i3] at h0 ⊢
          dsimp only at h0 ⊢
          have hsp : ((c m.key).told m.notice).2.ended = ((c m.key).ended || m.notice != 1) ∧ ((c m.key).told m.notice).2.came = ((c m.key).came || m.notice == 1) ∧ ((c m.key).told m.notice).2.shut = (c m.key).shut := by
            revert h0
            unfold Sd.told
            split
            · intro q; cases q
            · split
              · intro q; cases q
              · split
                · rename_i e; intro _; simp [e]
                · split
                  · intro q; cases q
                  · rename_i e _; intro _; simp [e]
          refine good_flags h hh' i1 i2 (fun k => ?_) (fun k => ?_) (fun k => ?_) (fun k => ?_) (fun k => ?_) (fun k => ?_)
          all_goals unfold upd
          all_goals by_cases ek : k = m.key
          all_goals first | (subst ek; rw [if_pos rfl]) | (rw [if_neg ek])
          · exact told_sent _ _
          · exact told_used _ _
          · exact told_next _ _
          · rw [hsp.1]; simp [isEnd, i3, of_key]
          · simp [isEnd, of_key, Ne.symm ek]
          · rw [hsp.2.1]; simp [isCame, i3, of_key]
          · simp [isCame, of_key, Ne.symm ek]
          · rw [hsp.2.2]; simp [isShut, i3]
          · simp [isShut, i3]
        · by_cases i4 : m.is = 4
          · rw [markI, if_neg i1, if_neg i2, if_neg i3, if_pos i4] at h0 ⊢
            by_cases d1 : (c m.key).shut = true
            · rw [if_pos d1] at h0; cases h0
            · rw [if_neg d1] at h0 ⊢
              by_cases d2 : (c m.key).ended = true
              · rw [if_pos d2] at h0; cases h0
              · rw [if_neg d2]
                dsimp only
                refine good_flags h hh' i1 i2 (fun k => ?_) (fun k => ?_) (fun k => ?_) (fun k => ?_) (fun k => ?_) (fun k => ?_)
                all_goals unfold upd
                all_goals by_cases ek : k = m.key
                all_goals first | (subst ek; rw [if_pos rfl]) | (rw [if_neg ek])
                · rfl
                · rfl
                · rfl
                · simp [Sd.close, isEnd, i4]
                · simp [isEnd, i4]
                · simp [Sd.close, isCame, i4]
                · simp [isCame, i4]
                · simp [Sd.close, isShut, i4, of_key]
                · simp [isShut, of_key, Ne.symm ek]
          · rw [markI, if_neg i1, if_neg i2, if_neg i3, if_neg i4] at h0
            cases h0

theorem ref_go (L : List Mark) : ∀ (n j : Nat), n = L.length - j → j ≤ L.length → Good (L.take j) (courtOf (L.take j)) → refG L n j = judgeG (courtOf (L.take j)) (L.drop j) j
  | 0, j, hn, hj, _ => by
    rw [List.drop_eq_nil_of_le (by omega)]; rfl
  | n + 1, j, hn, hj, hg => by
    have hlt : j < L.length := by omega
    rw [refG, List.getElem?_eq_getElem hlt, List.drop_eq_getElem_cons hlt, judgeG]
    simp only [one_eq hg]
    split
    · rfl
    · rename_i h0
      have h0' : (markR (courtOf (L.take j)) L[j]).1 = 0 := Classical.byContradiction h0
      have hg' : Good (L.take (j + 1)) (courtOf (L.take (j + 1))) := by
        rw [courtOf_snoc hlt, List.take_succ_eq_append_getElem hlt]
        exact good_step hg h0'
      rw [ref_go L n (j + 1) (by omega) (by omega) hg', courtOf_snoc hlt]
theorem ref_eq (L : List Mark) : refOf L = judgeOf L := ref_go L L.length 0 (by omega) (Nat.zero_le _) good0

theorem good_go (L : List Mark) : ∀ (n j : Nat), n = L.length - j → j ≤ L.length → Good (L.take j) (courtOf (L.take j)) → (judgeG (courtOf (L.take j)) (L.drop j) j).2 = 0 → Good L (courtOf L)
  | 0, j, hn, hj, hg, _ => by
    rwa [List.take_of_length_le (by omega)] at hg
  | n + 1, j, hn, hj, hg, h => by
    have hlt : j < L.length := by omega
    rw [List.drop_eq_getElem_cons hlt, judgeG] at h
    split at h
    · rename_i h0; exact absurd h h0
    · rename_i h0
      have h0' : (markR (courtOf (L.take j)) L[j]).1 = 0 := Classical.byContradiction h0
      have hg' : Good (L.take (j + 1)) (courtOf (L.take (j + 1))) := by
        rw [courtOf_snoc hlt, List.take_succ_eq_append_getElem hlt]
        exact good_step hg h0'
      rw [← courtOf_snoc hlt] at h
      exact good_go L n (j + 1) (by omega) (by omega) hg' h
/-- A trace that may be has a good court. -/
theorem good_of {L : List Mark} (h : (judgeOf L).2 = 0) : Good L (courtOf L) := good_go L L.length 0 (by omega) (Nat.zero_le _) good0 h

end Go.Proofs.Ytepadejkeokbcaa
