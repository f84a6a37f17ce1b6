/-
  In a region that draws its order: a load may be taken first though a LATE store of the region writes its cell, where that store waits for the load. Over any program. No condition.
-/
import Derived.Test.YtepadejkeokbcaaBase
import Derived.OrdersHeld
namespace Go.Proofs.Ytepadejkeokbcaa
open Go.RowKit

section
variable {P : Program} {ops : Array Oper} {Q : Exit → Act → World → Prop} {md : Region.Mode} {T : List Nat} {S : World → Prop}

/-- None of the late ones has come up. -/
def early (T : List Nat) (l : Array Bool) : Prop := ∀ t ∈ T, l.getD t true = false

/-- Whatever order is picked from here on; S holds behind each operation as long as none of the late ones has come up. -/
def wpLate (P : Program) (md : Region.Mode) (ops : Array Oper) (Q : Exit → Act → World → Prop) (T : List Nat) (S : World → Prop) : Nat → Array Bool → Act → World → Prop
  | 0, l, a, w => Region.ready md ops l = [] ∧ Q .normal a w
  | n + 1, l, a, w => (Region.ready md ops l = [] → Q .normal a w) ∧
      ∀ i ∈ Region.ready md ops l, wpOp P ops Q i (fun b v => (early T (l.setIfInBounds i true) → S v) ∧ wpLate P md ops Q T S n (l.setIfInBounds i true) b v) a w

theorem wpAny_of_late : ∀ (n : Nat) (l : Array Bool) (a : Act) (w : World), wpLate P md ops Q T S n l a w → wpAny P md ops Q n l a w
  | 0, _, _, _, h => h
  | n + 1, _, _, _, h => ⟨h.1, fun i hi => wpOp_mono (fun b v k => wpAny_of_late n _ b v k.2) (h.2 i hi)⟩

/-- Each late one waits for i. -/
def waits (md : Region.Mode) (ops : Array Oper) (T : List Nat) (i : Nat) : Bool := T.all fun t => t != i && (match ops[t]? with | some o => o.after.any (fun e => Region.binds md e && e.on == i) | none => true)

theorem waits_spec {i : Nat} (h : waits md ops T i = true) {t : Nat} (ht : t ∈ T) : t ≠ i ∧ ∀ o, ops[t]? = some o → ∃ e ∈ o.after, Region.binds md e = true ∧ e.on = i := by
  have h1 := List.all_eq_true.1 h t ht
  simp only [Bool.and_eq_true, bne_iff_ne, ne_eq] at h1
  refine ⟨h1.1, fun o ho => ?_⟩
  have h2 := h1.2
  rw [ho] at h2
  obtain ⟨e, he, h3⟩ := Array.any_eq_true'.1 h2
  simp only [Bool.and_eq_true, beq_iff_eq] at h3
  exact ⟨e, he, h3.1, h3.2⟩

theorem wpLate_first {i : Nat} {oi : Oper} {v : Value} (hi : ops[i]? = some oi) (hsel : ∀ (j : Nat) (o : Oper) cs b, ops[j]? = some o → o.op ≠ .select cs b)
    (hQ : ∀ c a w, Q (.panic c) (a.put oi.dst v) w → Q (.panic c) a w) (hw : waits md ops T i = true) :
    ∀ (n : Nat) (l : Array Bool) (a : Act) (w : World),
      (∀ j oj, ops[j]? = some oj → j ≠ i → l.getD j true = false → (∀ e ∈ oj.after, Region.binds md e = true → e.on ≠ i) → oi.apart ops oj = true) →
      i ∈ Region.ready md ops l → YieldsIf P ops S oi v a → S w → early T l →
      wpLate P md ops Q T S n (l.setIfInBounds i true) (a.put oi.dst v) w → wpLate P md ops Q T S (n + 1) l a w := by
  intro n
  induction n with
  | zero =>
    intro l a w _ hr hy hS he H
    refine ⟨fun h => (by rw [h] at hr; cases hr), fun j hj => ?_⟩
    by_cases hji : j = i
    · subst hji; exact hy.wpOp hi hS ⟨fun _ => hS, H⟩
    · have := ready_mono hj hji
      rw [H.1] at this
      cases this
  | succ n ih =>
    intro l a w hfree hr hy hS he H
    refine ⟨fun h => (by rw [h] at hr; cases hr), fun j hj => ?_⟩
    by_cases hji : j = i
    · subst hji; exact hy.wpOp hi hS ⟨fun _ => hS, H⟩
    · have h1 := H.2 j (ready_mono hj hji)
      obtain ⟨hjun, oj, hoj, hall⟩ := mem_ready.1 hj
      have hnot : ∀ e ∈ oj.after, Region.binds md e = true → e.on ≠ i := fun e he' hb heq => by
        have q1 := hall e he' hb
        have q0 := (mem_ready.1 hr).1
        rw [heq] at q1
        rcases Nat.lt_or_ge i l.size with h' | h'
        · simp [h'] at q0 q1; rw [q0] at q1; cases q1
        · simp [Array.getElem?_eq_none h'] at q1
      have hjT : j ∉ T := fun hm => by
        obtain ⟨_, h2⟩ := waits_spec hw hm
        obtain ⟨e, he', hb, hon⟩ := h2 oj hoj
        exact hnot e he' hb hon
      have hearly : ∀ l' : Array Bool, early T l' → early T (l'.setIfInBounds j true) := fun l' h t ht => by
        rw [getD_set_ne true (fun e : j = t => hjT (by rw [e]; exact ht))]; exact h t ht
      have hei : early T (l.setIfInBounds i true) := fun t ht => by
        rw [getD_set_ne true (Ne.symm (waits_spec hw ht).1)]; exact he t ht
      have h2 := wpOp_putIf hoj (hfree j oj hoj hji hjun hnot) (fun cs b => hsel i oi cs b hi) (fun cs b => hsel j oj cs b hoj) hQ hy h1
      have hfree' : ∀ k ok, ops[k]? = some ok → k ≠ i → (l.setIfInBounds j true).getD k true = false →
          (∀ e ∈ ok.after, Region.binds md e = true → e.on ≠ i) → oi.apart ops ok = true := fun k ok hk hki hun hno => by
        refine hfree k ok hk hki ?_ hno
        by_cases hjk : j = k
        · subst hjk; exact hjun
        · rw [getD_set_ne true hjk] at hun; exact hun
      refine wpOp_mono (fun b u k => ?_) h2
      have hSu : S u := k.2.1 (hearly _ hei)
      refine ⟨fun _ => hSu, ih (l.setIfInBounds j true) b u hfree' (ready_mono hr (Ne.symm hji)) k.1 hSu (hearly _ he) ?_⟩
      rw [Array.setIfInBounds_comm _ _ hji]
      exact k.2.2

theorem wpLate_take {i : Nat} {oi : Oper} {v : Value} {n : Nat} {l : Array Bool} {a : Act} {w : World} (hi : ops[i]? = some oi)
    (hs : Region.noSelect ops = true) (hf : Region.free md ops l i = true) (hr : (Region.ready md ops l).contains i = true) (hw : waits md ops T i = true) (he : T.all (fun t => !(l.getD t true)) = true)
    (hQ : ∀ c a w, Q (.panic c) (a.put oi.dst v) w → Q (.panic c) a w) (hS : S w) (hy : YieldsIf P ops S oi v a)
    (h : wpLate P md ops Q T S n (l.setIfInBounds i true) (a.put oi.dst v) w) : wpLate P md ops Q T S (n + 1) l a w :=
  wpLate_first hi (Region.noSelect_spec hs) hQ hw n l a w (Region.free_spec hi hf) (by simpa using hr) hy hS (fun t ht => by simpa using List.all_eq_true.1 he t ht) h

theorem wpLate_first0 {i : Nat} {oi : Oper} {v : Value} (hi : ops[i]? = some oi) (hsel : ∀ (j : Nat) (o : Oper) cs b, ops[j]? = some o → o.op ≠ .select cs b)
    (hQ : ∀ c a w, Q (.panic c) (a.put oi.dst v) w → Q (.panic c) a w) (hiT : i ∉ T) :
    ∀ (n : Nat) (l : Array Bool) (a : Act) (w : World),
      (∀ j oj, ops[j]? = some oj → j ≠ i → l.getD j true = false → (∀ e ∈ oj.after, Region.binds md e = true → e.on ≠ i) → oi.apart ops oj = true) →
      i ∈ Region.ready md ops l → YieldsIf P ops (fun _ => True) oi v a → (early T l → S w) →
      wpLate P md ops Q T S n (l.setIfInBounds i true) (a.put oi.dst v) w → wpLate P md ops Q T S (n + 1) l a w := by
  have hei : ∀ l : Array Bool, early T (l.setIfInBounds i true) → early T l := fun l h t ht => by
    have := h t ht
    rwa [getD_set_ne true (fun e : i = t => hiT (by rw [e]; exact ht))] at this
  have hie : ∀ l : Array Bool, early T l → early T (l.setIfInBounds i true) := fun l h t ht => by
    rw [getD_set_ne true (fun e : i = t => hiT (by rw [e]; exact ht))]; exact h t ht
  intro n
  induction n with
  | zero =>
    intro l a w _ hr hy hS H
    refine ⟨fun h => (by rw [h] at hr; cases hr), fun j hj => ?_⟩
    by_cases hji : j = i
    · subst hji; exact hy.wpOp hi trivial ⟨fun h => hS (hei l h), H⟩
    · have := ready_mono hj hji
      rw [H.1] at this
      cases this
  | succ n ih =>
    intro l a w hfree hr hy hS H
    refine ⟨fun h => (by rw [h] at hr; cases hr), fun j hj => ?_⟩
    by_cases hji : j = i
    · subst hji; exact hy.wpOp hi trivial ⟨fun h => hS (hei l h), H⟩
    · have h1 := H.2 j (ready_mono hj hji)
      obtain ⟨hjun, oj, hoj, hall⟩ := mem_ready.1 hj
      have hnot : ∀ e ∈ oj.after, Region.binds md e = true → e.on ≠ i := fun e he' hb heq => by
        have q1 := hall e he' hb
        have q0 := (mem_ready.1 hr).1
        rw [heq] at q1
        rcases Nat.lt_or_ge i l.size with h' | h'
        · simp [h'] at q0 q1; rw [q0] at q1; cases q1
        · simp [Array.getElem?_eq_none h'] at q1
      have h2 := wpOp_putIf hoj (hfree j oj hoj hji hjun hnot) (fun cs b => hsel i oi cs b hi) (fun cs b => hsel j oj cs b hoj) hQ hy h1
      have hfree' : ∀ k ok, ops[k]? = some ok → k ≠ i → (l.setIfInBounds j true).getD k true = false →
          (∀ e ∈ ok.after, Region.binds md e = true → e.on ≠ i) → oi.apart ops ok = true := fun k ok hk hki hun hno => by
        refine hfree k ok hk hki ?_ hno
        by_cases hjk : j = k
        · subst hjk; exact hjun
        · rw [getD_set_ne true hjk] at hun; exact hun
      refine wpOp_mono (fun b u k => ?_) h2
      have hSu : early T (l.setIfInBounds j true) → S u := fun h => k.2.1 (by
        rw [Array.setIfInBounds_comm _ _ (Ne.symm hji)]
        exact hie _ h)
      refine ⟨hSu, ih (l.setIfInBounds j true) b u hfree' (ready_mono hr (Ne.symm hji)) k.1 hSu ?_⟩
      rw [Array.setIfInBounds_comm _ _ hji]
      exact k.2.2

theorem wpLate_take0 {i : Nat} {oi : Oper} {v : Value} {n : Nat} {l : Array Bool} {a : Act} {w : World} (hi : ops[i]? = some oi)
    (hs : Region.noSelect ops = true) (hf : Region.free md ops l i = true) (hr : (Region.ready md ops l).contains i = true) (hiT : T.contains i = false)
    (hQ : ∀ c a w, Q (.panic c) (a.put oi.dst v) w → Q (.panic c) a w) (hS : early T l → S w) (hy : YieldsIf P ops (fun _ => True) oi v a)
    (h : wpLate P md ops Q T S n (l.setIfInBounds i true) (a.put oi.dst v) w) : wpLate P md ops Q T S (n + 1) l a w :=
  wpLate_first0 hi (Region.noSelect_spec hs) hQ (by simpa using hiT) n l a w (Region.free_spec hi hf) (by simpa using hr) hy hS h

theorem wpLate_done {l : Array Bool} {a : Act} {w : World} (hr : Region.ready md ops l = []) (h : Q .normal a w) : ∀ n, wpLate P md ops Q T S n l a w
  | 0 => ⟨hr, h⟩
  | _ + 1 => ⟨fun _ => h, by rw [hr]; simp⟩

theorem wp_region_late (T : List Nat) (S : World → Prop) {id : Nat} {a : Act} {w : World} (hm : P.follows .mixedOrders = true) (h : wpLate P .any ops Q T S ops.size (Array.replicate ops.size false) a w.drew) : (Code.region id ops true).wp P Q a w :=
  wp_region_any hm (wpAny_of_late _ _ _ _ h)

theorem late_after {l : Array Bool} {w : World} (t : Nat) (ht : t ∈ T) (h : l.getD t true = true) : early T l → S w := fun he => by
  have := he t ht
  rw [h] at this
  cases this

/-- Whichever may come up. -/
def AllLate (P : Program) (md : Region.Mode) (ops : Array Oper) (Q : Exit → Act → World → Prop) (T : List Nat) (S : World → Prop) (n : Nat) (l : Array Bool) (a : Act) (w : World) (rs : List Nat) : Prop :=
  ∀ i ∈ rs, wpOp P ops Q i (fun b v => (early T (l.setIfInBounds i true) → S v) ∧ wpLate P md ops Q T S n (l.setIfInBounds i true) b v) a w
theorem AllLate.nil {n : Nat} {l : Array Bool} {a : Act} {w : World} : AllLate P md ops Q T S n l a w [] := fun _ h => by cases h
theorem AllLate.cons {n : Nat} {l : Array Bool} {a : Act} {w : World} {i : Nat} {o : Oper} {rs : List Nat} (ho : ops[i]? = some o)
    (h : ∀ K : Act → World → Prop, Hid (∀ b v, (early T (l.setIfInBounds i true) → S v) → wpLate P md ops Q T S n (l.setIfInBounds i true) b v → K b v) → if Region.wanted o (yielded ops a.tmps) = true then Oper.wp P o a w K Q else K (a.put o.dst undef) w)
    (hs : AllLate P md ops Q T S n l a w rs) : AllLate P md ops Q T S n l a w (i :: rs) := fun j hj => by
  rcases List.mem_cons.1 hj with rfl | hj
  · exact wpOp_step ho (fun K' hK => h K' (fun b v h1 h2 => hK b v ⟨h1, h2⟩))
  · exact hs j hj
theorem wpLate_all {rs : List Nat} {n : Nat} {l : Array Bool} {a : Act} {w : World} (hr : Region.ready md ops l = rs) (hne : rs ≠ []) (h : AllLate P md ops Q T S n l a w rs) : wpLate P md ops Q T S (n + 1) l a w :=
  ⟨fun h0 => absurd (hr ▸ h0) hne, hr ▸ h⟩
end

end Go.Proofs.Ytepadejkeokbcaa
