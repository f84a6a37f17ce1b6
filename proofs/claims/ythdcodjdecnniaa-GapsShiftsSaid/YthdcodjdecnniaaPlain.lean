/-
  What a tracker is, in plain Lean: 'T'; taking a number, the runs, the blocks. No program in sight.
-/
import Derived.Test.YthdcodjdecnniaaSer
namespace Go.Proofs.Ythdcodjdecnniaa

structure T where
  cum : Int
  far : List Int
  dups : List Int

/-- What lies ahead is rising, within lo .. 256. -/
def Rising (lo : Int) (l : List Int) : Prop := l.Pairwise (· < ·) ∧ ∀ n ∈ l, lo ≤ n ∧ n ≤ 256

structure T.ok (t : T) : Prop where
  cum0 : 0 ≤ t.cum
  cum1 : t.cum < 4294967296
  far : Rising 2 t.far
  few : t.dups.length ≤ 16
  dup : ∀ x ∈ t.dups, 0 ≤ x ∧ x < 4294967296

def T.has (t : T) (x : Int) : Bool := decide (aheadBy 32 t.cum x ≤ 0) || decide (aheadBy 32 t.cum x ∈ t.far)

def settle : Int → List Int → Int × List Int
  | c, [] => (c, [])
  | c, x :: xs => if x = 1 then settle ((c + 1) % 4294967296) (xs.map (· - 1)) else (c, x :: xs)
termination_by _ l => l.length
decreasing_by simp

def ins (n : Int) (l : List Int) : List Int := l.takeWhile (fun x => decide (x < n)) ++ n :: l.dropWhile (fun x => decide (x < n))

def T.add (t : T) (x : Int) : T :=
  if t.has x = true then { t with dups := if t.dups.length < 16 then t.dups ++ [x] else t.dups }
  else if 256 < aheadBy 32 t.cum x then t
  else { t with cum := (settle t.cum (ins (aheadBy 32 t.cum x) t.far)).1, far := (settle t.cum (ins (aheadBy 32 t.cum x) t.far)).2 }
def T.addE (t : T) (x : Int) : Int := if t.has x = true then 17 else if 256 < aheadBy 32 t.cum x then 10 else 0

def T.new (f : Int) : T := ⟨(f - 1) % 4294967296, [], []⟩
def T.told (t : T) : T := { t with dups := [] }
def topOf (l : List Int) : Int := l.getLastD 0
def T.top (t : T) : Int := (t.cum + topOf t.far) % 4294967296

theorem rising_cons {lo x : Int} {l : List Int} (h : Rising lo (x :: l)) : (∀ y ∈ l, x < y) ∧ Rising lo l ∧ lo ≤ x ∧ x ≤ 256 :=
  ⟨(List.pairwise_cons.1 h.1).1, ⟨(List.pairwise_cons.1 h.1).2, fun n hn => h.2 n (by simp [hn])⟩, h.2 x (by simp)⟩

theorem rising_down {l : List Int} (h : Rising 1 (1 :: l)) : Rising 1 (l.map (· - 1)) := by
  obtain ⟨h1, h2, _⟩ := rising_cons h
  refine ⟨List.Pairwise.map _ (fun a b hab => by omega) h2.1, fun n hn => ?_⟩
  obtain ⟨y, hy, rfl⟩ := List.mem_map.1 hn
  have := h1 y hy; have := h2.2 y hy
  omega

theorem settle_one (c : Int) (l : List Int) : settle c (1 :: l) = settle ((c + 1) % 4294967296) (l.map (· - 1)) := by rw [settle]; simp
theorem settle_off {c x : Int} {l : List Int} (h : x ≠ 1) : settle c (x :: l) = (c, x :: l) := by rw [settle]; simp [h]
theorem settle_nil (c : Int) : settle c [] = (c, []) := by rw [settle]

theorem settle_spec : ∀ (n : Nat) (c : Int) (l : List Int), l.length = n → 0 ≤ c → c < 4294967296 → Rising 1 l →
    (∃ k : Nat, k ≤ l.length ∧ (settle c l).1 = (c + k) % 4294967296 ∧ (∀ i : Int, 0 < i → (i ∈ (settle c l).2 ↔ i + k ∈ l)) ∧ (∀ i : Int, 1 ≤ i → i ≤ k → i ∈ l)) ∧ Rising 2 (settle c l).2
  | n, c, [], _, h0, h1, _ => by
    rw [settle_nil]
    exact ⟨⟨0, by simp, by simp; omega, by simp, by intro i h h'; simp at h'; omega⟩, List.Pairwise.nil, by simp⟩
  | 0, c, x :: l, hn, h0, h1, hr => by simp at hn
  | n + 1, c, x :: l, hn, h0, h1, hr => by
    by_cases hx : x = 1
    · subst hx
      rw [settle_one]
      obtain ⟨⟨k, hk, e1, e2, e3⟩, hr'⟩ := settle_spec n ((c + 1) % 4294967296) (l.map (· - 1)) (by simpa using hn) (by omega) (by omega) (rising_down hr)
      refine ⟨⟨k + 1, by simpa using hk, by rw [e1]; omega, fun i hi => ?_, fun i h1 h2 => ?_⟩, hr'⟩
      · rw [e2 i hi]
        simp only [List.mem_map, List.mem_cons]
        constructor
        · rintro ⟨y, hy, hy2⟩
          refine .inr ?_
          have : y = i + ((k + 1 : Nat) : Int) := by omega
          rwa [← this]
        · rintro (h | h)
          · omega
          · exact ⟨_, h, by omega⟩
      · by_cases hi : i = 1
        · simp [hi]
        · have := e3 (i - 1) (by omega) (by omega)
          obtain ⟨y, hy, hy2⟩ := List.mem_map.1 this
          have : y = i := by omega
          subst this
          simp [hy]
    · rw [settle_off hx]
      obtain ⟨h2, h3, h4⟩ := rising_cons hr
      refine ⟨⟨0, by simp, by simp; omega, by simp, by intro i h h'; omega⟩, hr.1, fun m hm => ?_⟩
      have := hr.2 m hm
      rcases List.mem_cons.1 hm with rfl | hm
      · omega
      · have := h2 m hm; omega

theorem settle_down {c : Int} {l : List Int} (hr : Rising 1 (1 :: l)) (hl : l.length ≤ 1000) :
    (((settle c (1 :: l)).1 - (c + 1) % 4294967296) % 4294967296).toNat < (((settle c (1 :: l)).1 - c) % 4294967296).toNat := by
  rw [settle_one]
  obtain ⟨⟨k, hk, e1, _⟩, _⟩ := settle_spec _ ((c + 1) % 4294967296) (l.map (· - 1)) rfl (by omega) (by omega) (rising_down hr)
  rw [e1]
  simp at hk
  omega

theorem mem_ins {n i : Int} {l : List Int} : i ∈ ins n l ↔ i = n ∨ i ∈ l := by
  unfold ins
  rw [List.mem_append, List.mem_cons]
  have h := List.takeWhile_append_dropWhile (p := fun x => decide (x < n)) (l := l)
  constructor
  · rintro (h1 | h1 | h1)
    · exact .inr (by have := List.mem_append.2 (.inl h1 : _ ∨ i ∈ l.dropWhile (fun x => decide (x < n))); rwa [h] at this)
    · exact .inl h1
    · exact .inr (by have := List.mem_append.2 (.inr h1 : i ∈ l.takeWhile (fun x => decide (x < n)) ∨ _); rwa [h] at this)
  · rintro (h1 | h1)
    · exact .inr (.inl h1)
    · rw [← h, List.mem_append] at h1
      rcases h1 with h1 | h1
      · exact .inl h1
      · exact .inr (.inr h1)

theorem pairwise_ins {n : Int} : ∀ {l : List Int}, l.Pairwise (· < ·) → n ∉ l → (ins n l).Pairwise (· < ·)
  | [], _, _ => by simp [ins]
  | x :: l, h, hn => by
    obtain ⟨h1, h2⟩ := List.pairwise_cons.1 h
    by_cases hx : x < n
    · have e : ins n (x :: l) = x :: ins n l := by simp [ins, hx]
      rw [e, List.pairwise_cons]
      refine ⟨fun y hy => ?_, pairwise_ins h2 (fun hm => hn (by simp [hm]))⟩
      rcases mem_ins.1 hy with rfl | hy
      · exact hx
      · exact h1 y hy
    · have e : ins n (x :: l) = n :: x :: l := by simp [ins, hx]
      rw [e, List.pairwise_cons]
      have hne : x ≠ n := fun h => hn (by simp [h])
      refine ⟨fun y hy => ?_, h⟩
      rcases List.mem_cons.1 hy with rfl | hy
      · omega
      · have := h1 y hy; omega

theorem rising_ins {n : Int} {l : List Int} (h : Rising 2 l) (hn : n ∉ l) (h1 : 1 ≤ n) (h2 : n ≤ 256) : Rising 1 (ins n l) :=
  ⟨pairwise_ins h.1 hn, fun m hm => by
    rcases mem_ins.1 hm with rfl | hm
    · exact ⟨h1, h2⟩
    · have := h.2 m hm; omega⟩

theorem rising_len {lo : Int} : ∀ {l : List Int}, Rising lo l → (l.length : Int) ≤ 257 - lo ∨ l = []
  | [], _ => .inr rfl
  | x :: l, h => by
    obtain ⟨h1, h2, h3, h4⟩ := rising_cons h
    have hr : Rising (lo + 1) l := ⟨h2.1, fun n hn => by have := h1 n hn; have := h2.2 n hn; omega⟩
    rcases rising_len hr with h5 | h5
    · left; simp; omega
    · left; subst h5; simp; omega

theorem rising_short {lo : Int} {l : List Int} (h : Rising lo l) (h0 : 0 ≤ lo) : l.length ≤ 257 := by
  rcases rising_len h with h | h
  · omega
  · subst h; simp

theorem ahead_range {bits a b : Int} (h : bits = 32) : -2147483648 ≤ aheadBy bits a b ∧ aheadBy bits a b < 2147483648 := by
  subst h
  have hm : mOf 32 = 4294967296 := rfl
  simp only [aheadBy, hm]
  split <;> omega

theorem T.has_no {t : T} {x : Int} (h : ¬ t.has x = true) : 0 < aheadBy 32 t.cum x ∧ aheadBy 32 t.cum x ∉ t.far := by
  simp [T.has] at h
  exact h

theorem T.new_ok (f : Int) : (T.new f).ok := ⟨by simp [T.new]; omega, by simp [T.new]; omega, ⟨List.Pairwise.nil, by simp [T.new]⟩, by simp [T.new], by simp [T.new]⟩
theorem T.told_ok {t : T} (h : t.ok) : t.told.ok := ⟨h.cum0, h.cum1, h.far, by simp [T.told], by simp [T.told]⟩

theorem T.add_ok {t : T} (h : t.ok) {x : Int} (hx : 0 ≤ x ∧ x < 4294967296) : (t.add x).ok := by
  unfold T.add
  split
  · refine ⟨h.cum0, h.cum1, h.far, ?_, ?_⟩
    · have := h.few
      split
      · simp; omega
      · simpa using h.few
    · split
      · intro y hy
        rcases List.mem_append.1 hy with hy | hy
        · exact h.dup y hy
        · simp at hy; subst hy; exact hx
      · exact h.dup
  · split
    · exact h
    · rename_i h1 h2
      obtain ⟨h3, h4⟩ := T.has_no h1
      obtain ⟨⟨k, _, e1, _⟩, hr⟩ := settle_spec _ t.cum (ins (aheadBy 32 t.cum x) t.far) rfl h.cum0 h.cum1 (rising_ins h.far h4 (by omega) (by omega))
      exact ⟨by simp only [e1]; omega, by simp only [e1]; omega, hr, h.few, h.dup⟩

end Go.Proofs.Ythdcodjdecnniaa
