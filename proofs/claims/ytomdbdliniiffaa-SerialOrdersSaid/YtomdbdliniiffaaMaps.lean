/-
  A map of the call's own, read as a function of what its keys stand for ('MapIs'); look-up, store, make. Over any program. No condition.
-/
import Derived.Test.YtomdbdliniiffaaBase
import Derived.Maps.OwnOps
namespace Go.Proofs.Ytomdbdliniiffaa
open Go.RowKit Go.Maps
open Go.ChangeMaps (setBlock modify_eq_set)

/-- Block b is a map whose entry at 'enc a' is 'G a'. -/
def MapIs {α : Type} (P : Program) (k : TypeId) (enc : α → Value) (w : World) (b : Nat) (G : α → Option Value) : Prop :=
  ∃ es clock, w.heap[b]? = some (.map es clock) ∧ es.toList.Pairwise (fun e f => e.key ≠ f.key) ∧
    (∀ e ∈ es.toList, ∃ a l, e.key = enc a ∧ keyOf P k (enc a) = some l ∧ G a = some e.val) ∧ (∀ a v, G a = some v → ∃ e ∈ es.toList, e.key = enc a ∧ e.val = v)

section
variable {α : Type} {P : Program} {k : TypeId} {enc : α → Value} {w : World} {b : Nat} {G : α → Option Value}

theorem MapIs.made (w : World) : MapIs P k enc (w.alloc (.map #[] 0)) w.heap.size (fun _ => none) :=
  ⟨#[], 0, (MapKept.heap_alloc w _).1, by simp, by simp, by simp⟩
theorem MapIs.lt (h : MapIs P k enc w b G) : b < w.heap.size := by
  obtain ⟨es, clock, hb, _⟩ := h
  exact (Array.getElem?_eq_some_iff.1 hb).1
theorem MapIs.kept {S : List Nat} {w' : World} (h : MapIs P k enc w b G) (hk : Kept S w w') (hb : b ∉ S) : MapIs P k enc w' b G := by
  obtain ⟨es, clock, h1, h2⟩ := h
  exact ⟨es, clock, hk.blk h1 hb, h2⟩

theorem MapIs.lookup (h : MapIs P k enc w b G) (K : Keyed P k) (hinj : ∀ a a', enc a = enc a' → a = a') {t e : TypeId} (ht : P.underlying t = some (.map k e)) {z : Value} (hz : (zeroValue e).run P w = .ok z w)
    {a : α} {l : Lit} (hkey : keyOf P k (enc a) = some l) : (Instr.lookup t (.map (some b)) (enc a) false).run P w = .ok ((G a).getD z) w := by
  obtain ⟨es, clock, hb, _, h1, h2⟩ := h
  rcases K.find w hkey es.toList (fun e he => by obtain ⟨a, l, e1, e2, _⟩ := h1 e he; exact ⟨l, e1 ▸ e2⟩) with ⟨f1, f2⟩ | ⟨j, e0, f1, f2, f3⟩
  · have hn : G a = none := by
      cases hG : G a with
      | none => rfl
      | some v => obtain ⟨e, he, e1, _⟩ := h2 a v hG; exact absurd e1 (f2 e he)
    simp [Instr.lookup, run_underlying ht, MapKept.run_getObj_map hb, K.check w _ hkey, f1, hz, Result.andThen, hn]
  · obtain ⟨a', l', e1, _, e3⟩ := h1 e0 (List.mem_of_getElem? f2)
    have : a' = a := hinj _ _ (e1.symm.trans f3)
    subst this
    simp [Instr.lookup, run_underlying ht, MapKept.run_getObj_map hb, K.check w _ hkey, f1, Result.andThen, e3]

theorem MapIs.update [DecidableEq α] (h : MapIs P k enc w b G) (K : Keyed P k) (hinj : ∀ a a', enc a = enc a' → a = a') {t e : TypeId} (ht : P.underlying t = some (.map k e)) {a : α} {l : Lit} (hkey : keyOf P k (enc a) = some l) (v : Value) :
    ∃ w', (Instr.mapUpdate t (.map (some b)) (enc a) v).run P w = .ok () w' ∧ MapIs P k enc w' b (fun x => if x = a then some v else G x) ∧ Kept [b] w w' := by
  obtain ⟨es, clock, hb, h0, h1, h2⟩ := h
  have hlt : b < w.heap.size := (Array.getElem?_eq_some_iff.1 hb).1
  have hkept : ∀ o, Kept [b] w (setBlock w b o) := fun o => ⟨rfl, rfl, rfl, by simp [setBlock], fun i _ hi => by
    simp only [List.mem_singleton] at hi
    simp [setBlock, Ne.symm hi]⟩
  have hnew : ∀ o, (setBlock w b o).heap[b]? = some o := fun o => by simp [setBlock, hlt]
  rcases K.find w hkey es.toList (fun e he => by obtain ⟨a, l, e1, e2, _⟩ := h1 e he; exact ⟨l, e1 ▸ e2⟩) with ⟨f1, f2⟩ | ⟨j, e0, f1, f2, f3⟩
  · refine ⟨setBlock w b (.map (es.push ⟨enc a, v, clock⟩) (clock + 1)), ?_, ⟨_, _, hnew _, ?_, ?_, ?_⟩, hkept _⟩
    · simp [Instr.mapUpdate, run_underlying ht, MapKept.run_getObj_map hb, K.check w false hkey, f1, MapKept.run_setObj_map _ hb, Result.andThen, setBlock]
    · rw [Array.toList_push, List.pairwise_append]
      refine ⟨h0, by simp, fun x hx y hy => ?_⟩
      simp only [List.mem_singleton] at hy
      subst hy
      exact f2 x hx
    · intro e he
      simp only [Array.toList_push, List.mem_append, List.mem_singleton] at he
      rcases he with he | rfl
      · obtain ⟨a', l', e1, e2, e3⟩ := h1 e he
        have hne : a' ≠ a := fun h => f2 e he (h ▸ e1)
        exact ⟨a', l', e1, e2, by simp [hne, e3]⟩
      · exact ⟨a, l, rfl, hkey, by simp⟩
    · intro x u hx
      dsimp only at hx
      simp only [Array.toList_push, List.mem_append, List.mem_singleton]
      by_cases hxa : x = a
      · subst hxa
        simp only [if_pos] at hx
        exact ⟨_, .inr rfl, rfl, Option.some.inj hx⟩
      · rw [if_neg hxa] at hx
        obtain ⟨e, he, e1, e2⟩ := h2 x u hx
        exact ⟨e, .inl he, e1, e2⟩
  · have hej : es[j]? = some e0 := by rw [← Array.getElem?_toList]; exact f2
    have hjl : j < es.toList.length := (List.getElem?_eq_some_iff.1 f2).1
    have e1 : (es.modify j fun e => { e with key := enc a, val := v }).toList = es.toList.set j { e0 with key := enc a, val := v } := by
      rw [Array.toList_modify, modify_eq_set _ _ _ _ f2]
    have hold : ∀ i e, es.toList[i]? = some e → i ≠ j → e.key ≠ e0.key := fun i e hi hij => by
      rcases Nat.lt_or_ge i j with h | h
      · exact List.pairwise_iff_getElem.1 h0 i j (List.getElem?_eq_some_iff.1 hi).1 hjl h |> fun q => by
          rwa [(List.getElem?_eq_some_iff.1 hi).2, (List.getElem?_eq_some_iff.1 f2).2] at q
      · exact List.pairwise_iff_getElem.1 h0 j i hjl (List.getElem?_eq_some_iff.1 hi).1 (by omega) |> fun q => by
          rw [(List.getElem?_eq_some_iff.1 hi).2, (List.getElem?_eq_some_iff.1 f2).2] at q
          exact q.symm
    refine ⟨setBlock w b (.map (es.modify j fun e => { e with key := enc a, val := v }) clock), ?_, ⟨_, _, hnew _, ?_, ?_, ?_⟩, hkept _⟩
    · have hst := K.stays w hkey
      simp [Instr.mapUpdate, run_underlying ht, MapKept.run_getObj_map hb, K.check w false hkey, f1, hej, f3, hst, MapKept.run_setObj_map _ hb, Result.andThen, setBlock]
    · rw [e1]
      have : (es.toList.set j { e0 with key := enc a, val := v }).map (·.key) = es.toList.map (·.key) := by
        apply List.ext_getElem?
        intro i
        simp only [List.getElem?_map, List.getElem?_set]
        by_cases hij : j = i
        · subst hij
          rw [if_pos rfl, if_pos hjl, f2]
          simp [f3]
        · simp [hij]
      have h0' := List.pairwise_map.2 h0
      rw [← this] at h0'
      exact List.pairwise_map.1 h0'
    · intro e he
      rw [e1] at he
      obtain ⟨i, hi⟩ := List.mem_iff_getElem?.1 he
      rw [List.getElem?_set] at hi
      split at hi
      · rename_i hij
        subst hij
        simp only [Option.some.injEq] at hi
        subst hi
        exact ⟨a, l, rfl, hkey, by simp⟩
      · rename_i hij
        obtain ⟨a', l', g1, g2, g3⟩ := h1 e (List.mem_of_getElem? hi)
        have hne : a' ≠ a := fun h => hold i e hi (Ne.symm hij) (by rw [g1, f3, h])
        exact ⟨a', l', g1, g2, by simp [hne, g3]⟩
    · intro x u hx
      dsimp only at hx
      rw [e1]
      by_cases hxa : x = a
      · rw [if_pos hxa] at hx
        rw [hxa]
        exact ⟨{ e0 with key := enc a, val := v }, List.mem_iff_getElem?.2 ⟨j, by rw [List.getElem?_set]; simp [show j < es.size from by simpa using hjl]⟩, rfl, Option.some.inj hx⟩
      · rw [if_neg hxa] at hx
        obtain ⟨e, he, g1, g2⟩ := h2 x u hx
        obtain ⟨i, hi⟩ := List.mem_iff_getElem?.1 he
        have hij : j ≠ i := fun h => by
          subst h
          rw [f2] at hi
          cases hi
          exact hxa (hinj _ _ (g1.symm.trans f3))
        exact ⟨e, List.mem_iff_getElem?.2 ⟨i, by rw [List.getElem?_set]; simp [hij, hi]⟩, g1, g2⟩
end

/-- 'm[k] = v' at the operation. -/
theorem wpList_store_map {α : Type} [DecidableEq α] {P : Program} {k : TypeId} {enc : α → Value} {w : World} {b : Nat} {G : α → Option Value} {ops : Array Oper} {rest : List Oper} {o : Oper} {a : Act} {Q : Exit → Act → World → Prop}
    (hg : o.guard = none) (m x v : Operand) (t e : TypeId) (hop : o.op = Op.mapUpdate t m x v) (h : MapIs P k enc w b G) (K : Keyed P k) (hinj : ∀ a a', enc a = enc a' → a = a') (ht : P.underlying t = some (.map k e))
    (hm : a.eval m = .map (some b)) (ka : α) (l : Lit) (hx : a.eval x = enc ka) (hkey : keyOf P k (enc ka) = some l)
    (hK : ∀ w', MapIs P k enc w' b (fun x => if x = ka then some (a.eval v) else G x) → Kept [b] w w' → wpList P ops Q rest (a.put o.dst undef) w') :
    wpList P ops Q (o :: rest) a w := by
  refine wpList_plain hg fun K' hK' => ?_
  obtain ⟨w', hrun, r1, r2⟩ := h.update K hinj ht hkey (a.eval v)
  unfold Oper.wp
  simp [execOp, hop, hm, hx, hrun, Result.andThen]
  exact hK' _ _ (hK w' r1 r2)

end Go.Proofs.Ytomdbdliniiffaa
