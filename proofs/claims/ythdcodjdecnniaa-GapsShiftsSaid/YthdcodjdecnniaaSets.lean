/-
  What a tracker that was handed numbers ahead of a first one holds: a set ('Inv'). Plain Lean.
-/
import Derived.Test.YthdcodjdecnniaaPlain
namespace Go.Proofs.Ythdcodjdecnniaa

/-- A: how far behind the first number what was taken is; c: the first that was not. -/
structure Inv (first : Int) (A : List Int) (c : Int) (t : T) : Prop where
  ok : t.ok
  c0 : 0 ≤ c
  cum : t.cum = (first - 1 + c) % 4294967296
  all : ∀ b, 0 ≤ b → b < c → b ∈ A
  not : c ∉ A
  far : ∀ i, 1 ≤ i → (i ∈ t.far ↔ c - 1 + i ∈ A)
  lim : ∀ a ∈ A, 0 ≤ a ∧ a ≤ 32767

section
variable {first c : Int} {A : List Int} {t : T}

theorem Inv.new (first : Int) : Inv first [] 0 (T.new first) :=
  ⟨T.new_ok first, Int.le_refl _, by simp [T.new], by intro b h1 h2; omega, by simp, by simp [T.new], by simp⟩

theorem Inv.le (h : Inv first A c t) : c ≤ 32768 := by
  by_cases h0 : c ≤ 0
  · omega
  · have := h.lim _ (h.all (c - 1) (by omega) (by omega)); omega

theorem Inv.congr {A' : List Int} (h : Inv first A c t) (e : ∀ a, a ∈ A ↔ a ∈ A') : Inv first A' c t :=
  ⟨h.ok, h.c0, h.cum, fun b h1 h2 => (e b).1 (h.all b h1 h2), fun hm => h.not ((e c).2 hm), fun i hi => (h.far i hi).trans (e _), fun a ha => h.lim a ((e a).2 ha)⟩

theorem Inv.ahead (h : Inv first A c t) {a : Int} (ha : -32768 ≤ a ∧ a ≤ 32767) : aheadBy 32 t.cum ((first + a) % 4294967296) = a + 1 - c := by
  have hm : mOf 32 = 4294967296 := rfl
  have h1 := h.le
  have h0 := h.c0
  have e : ((first + a) % 4294967296 - (first - 1 + c) % 4294967296) % 4294967296 = (a + 1 - c) % 4294967296 := by omega
  simp only [aheadBy, hm, h.cum, e]
  split <;> omega

theorem Inv.has (h : Inv first A c t) {a : Int} (ha : -32768 ≤ a ∧ a ≤ 32767) : t.has ((first + a) % 4294967296) = true ↔ a < 0 ∨ a ∈ A := by
  have h0 := h.c0
  rw [T.has, h.ahead ha, Bool.or_eq_true, decide_eq_true_eq, decide_eq_true_eq]
  constructor
  · rintro (h1 | h1)
    · by_cases hn : a < 0
      · exact .inl hn
      · exact .inr (h.all a (by omega) (by omega))
    · have := h.ok.far.2 _ h1
      have := (h.far _ (by omega)).1 h1
      rw [show c - 1 + (a + 1 - c) = a by omega] at this
      exact .inr this
  · rintro (h1 | h1)
    · exact .inl (by omega)
    · by_cases hc : a + 1 - c ≤ 0
      · exact .inl hc
      · refine .inr ((h.far _ (by omega)).2 ?_)
        rw [show c - 1 + (a + 1 - c) = a by omega]
        exact h1

theorem add_has {x : Int} (h : t.has x = true) : (t.add x).cum = t.cum ∧ (t.add x).far = t.far ∧ t.addE x = 17 := by
  simp [T.add, T.addE, h]
theorem add_full {x : Int} (h : ¬ t.has x = true) (hf : 256 < aheadBy 32 t.cum x) : t.add x = t ∧ t.addE x = 10 := by
  simp [T.add, T.addE, h, hf]
theorem add_new {x : Int} (h : ¬ t.has x = true) (hf : ¬ 256 < aheadBy 32 t.cum x) : (t.add x).cum = (settle t.cum (ins (aheadBy 32 t.cum x) t.far)).1 ∧ (t.add x).far = (settle t.cum (ins (aheadBy 32 t.cum x) t.far)).2 ∧ (t.add x).dups = t.dups ∧ t.addE x = 0 := by
  simp [T.add, T.addE, h, hf]

theorem Inv.known (h : Inv first A c t) {a : Int} (ha : -32768 ≤ a ∧ a ≤ 32767) (hk : a < 0 ∨ a ∈ A) (hfirst : 0 ≤ (first + a) % 4294967296 ∧ (first + a) % 4294967296 < 4294967296) :
    t.addE ((first + a) % 4294967296) = 17 ∧ Inv first A c (t.add ((first + a) % 4294967296)) := by
  obtain ⟨e1, e2, e3⟩ := add_has ((h.has ha).2 hk)
  exact ⟨e3, T.add_ok h.ok hfirst, h.c0, by rw [e1]; exact h.cum, h.all, h.not, by rw [e2]; exact h.far, h.lim⟩

theorem Inv.full (h : Inv first A c t) {a : Int} (ha : -32768 ≤ a ∧ a ≤ 32767) (hk : ¬ (a < 0 ∨ a ∈ A)) (hf : 256 < a + 1 - c) :
    t.addE ((first + a) % 4294967296) = 10 ∧ Inv first A c (t.add ((first + a) % 4294967296)) := by
  obtain ⟨e1, e2⟩ := add_full (fun hh => hk ((h.has ha).1 hh)) (by rw [h.ahead ha]; exact hf)
  exact ⟨e2, by rw [e1]; exact h⟩

theorem Inv.taken (h : Inv first A c t) {a : Int} (ha : -32768 ≤ a ∧ a ≤ 32767) (hk : ¬ (a < 0 ∨ a ∈ A)) (hf : ¬ 256 < a + 1 - c) :
    t.addE ((first + a) % 4294967296) = 0 ∧ ∃ k : Nat, Inv first (a :: A) (c + k) (t.add ((first + a) % 4294967296)) := by
  have hh : ¬ t.has ((first + a) % 4294967296) = true := fun hh => hk ((h.has ha).1 hh)
  obtain ⟨e1, e2, _, e4⟩ := add_new hh (by rw [h.ahead ha]; exact hf)
  refine ⟨e4, ?_⟩
  obtain ⟨h1, h2⟩ := T.has_no hh
  have hr := rising_ins h.ok.far h2 (by omega) (by rw [h.ahead ha]; omega)
  rw [h.ahead ha] at e1 e2 h1 h2 hr
  have hok := T.add_ok h.ok (x := (first + a) % 4294967296) (by omega)
  obtain ⟨⟨k, hk1, s1, s2, s3⟩, s4⟩ := settle_spec _ t.cum (ins (a + 1 - c) t.far) rfl h.ok.cum0 h.ok.cum1 hr
  have hc0 := h.c0
  have hmem : ∀ i : Int, 1 ≤ i → (i ∈ ins (a + 1 - c) t.far ↔ c - 1 + i ∈ a :: A) := by
    intro i hi
    rw [mem_ins, List.mem_cons, h.far i hi]
    exact or_congr ⟨fun e => by omega, fun e => by omega⟩ Iff.rfl
  refine ⟨k, hok, by omega, by rw [e1, s1, h.cum]; omega, fun b h3 h4 => ?_, fun hm => ?_, fun i hi => ?_, fun b hb => ?_⟩
  · by_cases hb : b < c
    · exact List.mem_cons.2 (.inr (h.all b h3 hb))
    · have := (hmem (b - c + 1) (by omega)).1 (s3 _ (by omega) (by omega))
      rwa [show c - 1 + (b - c + 1) = b by omega] at this
  · have h5 := (hmem (1 + k) (by omega)).2 (by rw [show c - 1 + (1 + (k : Int)) = c + k by omega]; exact hm)
    have := s4.2 1 ((s2 1 (by omega)).2 h5)
    omega
  · rw [e2, s2 i (by omega), hmem (i + k) (by omega), show c - 1 + (i + (k : Int)) = c + k - 1 + i by omega]
  · rcases List.mem_cons.1 hb with rfl | hb
    · omega
    · exact h.lim b hb

/-- Numbers within the window. -/
theorem Inv.add (h : Inv first A c t) {a : Int} (ha : 0 ≤ a ∧ a ≤ 255) : ∃ c', Inv first (a :: A) c' (t.add ((first + a) % 4294967296)) := by
  by_cases hk : a < 0 ∨ a ∈ A
  · have := (h.known (a := a) (by omega) hk (by omega)).2
    refine ⟨c, this.congr (fun b => ?_)⟩
    rw [List.mem_cons]
    refine ⟨.inr, ?_⟩
    rintro (rfl | hb)
    · exact hk.resolve_left (by omega)
    · exact hb
  · have h0 := h.c0
    obtain ⟨_, k, h1⟩ := h.taken (a := a) (by omega) hk (by omega)
    exact ⟨_, h1⟩

/-- Two rising lists with the same members are one. -/
theorem pairwise_eq : ∀ {l m : List Int}, l.Pairwise (· < ·) → m.Pairwise (· < ·) → (∀ x, x ∈ l ↔ x ∈ m) → l = m
  | [], [], _, _, _ => rfl
  | [], y :: m, _, _, h => by have := (h y).2 (by simp); cases this
  | x :: l, [], _, _, h => by have := (h x).1 (by simp); cases this
  | x :: l, y :: m, hl, hm, h => by
    obtain ⟨l1, l2⟩ := List.pairwise_cons.1 hl
    obtain ⟨m1, m2⟩ := List.pairwise_cons.1 hm
    have e : x = y := by
      have h1 := (h x).1 (by simp)
      have h2 := (h y).2 (by simp)
      rcases List.mem_cons.1 h1 with e | h1
      · exact e
      · rcases List.mem_cons.1 h2 with e | h2
        · exact e.symm
        · have := m1 x h1; have := l1 y h2; omega
    subst e
    rw [pairwise_eq l2 m2 (fun z => ?_)]
    constructor
    · intro hz
      have := l1 z hz
      rcases List.mem_cons.1 ((h z).1 (by simp [hz])) with e | e
      · omega
      · exact e
    · intro hz
      have := m1 z hz
      rcases List.mem_cons.1 ((h z).2 (by simp [hz])) with e | e
      · omega
      · exact e

theorem Inv.one {c' : Int} {s : T} (h : Inv first A c t) (h' : Inv first A c' s) : s.cum = t.cum ∧ s.far = t.far := by
  have e : c' = c := by
    by_cases h1 : c < c'
    · exact absurd (h'.all c h.c0 h1) h.not
    · by_cases h2 : c' < c
      · exact absurd (h.all c' h'.c0 h2) h'.not
      · omega
  subst e
  refine ⟨by rw [h.cum, h'.cum], pairwise_eq h'.ok.far.1 h.ok.far.1 (fun i => ?_)⟩
  by_cases hi : 1 ≤ i
  · rw [h.far i hi, h'.far i hi]
  · constructor
    · intro hm; have := h'.ok.far.2 i hm; omega
    · intro hm; have := h.ok.far.2 i hm; omega

end

end Go.Proofs.Ythdcodjdecnniaa
