/-
  The laws SerialLess, SerialAdds, SerialSteps, SerialOne, SerialShifts: what they return.
-/
import Derived.Test.YtomdbdliniiffaaLive
namespace Go.Proofs.Ytomdbdliniiffaa
open Go.RowKit

set_option maxRecDepth 100000 in
set_option maxHeartbeats 2000000 in
theorem less_any {bits a b : Int} {w : World} (ha : 0 ≤ a ∧ a < 4294967296) (hb : 0 ≤ b ∧ b < 4294967296) : Calls Try.prog 3 #[.int .i64 bits, .int .u32 a, .int .u32 b] w fun e w' => e = .returned (.bool true) ∧ Kept [] w w' := by
  have H1 := hid (show ∀ W, Calls Try.prog 12 #[.int .i64 bits, .int .u32 a, .int .u32 b] W fun e w' => e = .returned (.tuple #[.int .i64 (if wrong bits [a, b] = 0 then aheadBy bits a b else 0), .int .i64 (wrong bits [a, b])]) ∧ Kept [] W w' from fun W => Ahead_any bits a b W ha hb)
  have H2 := hid (show ∀ W, Calls Try.prog 13 #[.int .i64 bits, .int .u32 a, .int .u32 b] W fun e w' => e = .returned (.tuple #[.int .i64 (if wrong bits [a, b] = 0 then aheadBy bits a b else 0), .int .i64 (wrong bits [a, b])]) ∧ Kept [] W w' from fun W => RefAhead_any bits a b W ha hb)
  have H3 := hid (show ∀ W, Calls Try.prog 14 #[.int .i64 bits, .int .u32 a, .int .u32 b] W fun e w' => e = .returned (.tuple #[.bool (if wrong bits [a, b] = 0 then lessB bits a b else false), .int .i64 (wrong bits [a, b])]) ∧ Kept [] W w' from fun W => Less_any bits a b W ha hb)
  have H4 := hid (show ∀ W, Calls Try.prog 15 #[.int .i64 bits, .int .u32 a, .int .u32 b] W fun e w' => e = .returned (.tuple #[.bool (if wrong bits [a, b] = 0 then lessB bits a b else false), .int .i64 (wrong bits [a, b])]) ∧ Kept [] W w' from fun W => RefLess_any bits a b W ha hb)
  generalize (if wrong bits [a, b] = 0 then aheadBy bits a b else 0) = n at *
  generalize (if wrong bits [a, b] = 0 then lessB bits a b else false) = c at *
  generalize wrong bits [a, b] = q at *
  have e1 : (n == n) = true := beq_self_eq_true _
  have e2 : (q == q) = true := beq_self_eq_true _
  have e3 : (c == c) = true := beq_self_eq_true _
  clear ha hb
  go_enter Try.func3, Try.ntmps3
  go_wp2_with fail
  refine (H1.out _).mono ?_
  rintro e w1 ⟨rfl, hk⟩
  have HK1 := hid hk
  clear hk
  go_wp2_with fail
  refine (H2.out _).mono ?_
  rintro e w2 ⟨rfl, hk⟩
  have HK2 := hid (HK1.out.tr hk)
  clear hk
  go_wp2_with fail
  refine (H3.out _).mono ?_
  rintro e w3 ⟨rfl, hk⟩
  have HK3 := hid (HK2.out.tr hk)
  clear hk
  go_wp2_with fail
  refine (H4.out _).mono ?_
  rintro e w4 ⟨rfl, hk⟩
  have HK4 := hid (HK3.out.tr hk)
  clear hk
  go_wp2_with fail
  refine (live_any _).mono ?_
  rintro e w5 ⟨rfl, hk⟩
  have HK5 := hid (HK4.out.tr hk)
  clear hk
  go_wp2
  go_ret
  exact ⟨rfl, HK5.out⟩

set_option maxRecDepth 100000 in
set_option maxHeartbeats 2000000 in
theorem adds_any {bits a n : Int} {w : World} (ha : 0 ≤ a ∧ a < 4294967296) : Calls Try.prog 8 #[.int .i64 bits, .int .u32 a, .int .i64 n] w fun e w' => e = .returned (.bool true) ∧ Kept [] w w' := by
  have H1 := hid (show ∀ W, Calls Try.prog 23 #[.int .i64 bits, .int .u32 a, .int .i64 n] W fun e w' => e = .returned (.tuple #[.int .u32 (if wrong bits [a] = 0 then addBy bits a n else 0), .int .i64 (wrong bits [a])]) ∧ Kept [] W w' from fun W => Add_any bits a n W ha)
  have H2 := hid (show ∀ W, Calls Try.prog 24 #[.int .i64 bits, .int .u32 a, .int .i64 n] W fun e w' => e = .returned (.tuple #[.int .u32 (if wrong bits [a] = 0 then addBy bits a n else 0), .int .i64 (wrong bits [a])]) ∧ Kept [] W w' from fun W => RefAdd_any bits a n W ha)
  generalize (if wrong bits [a] = 0 then addBy bits a n else 0) = r at *
  generalize wrong bits [a] = q at *
  have e1 : (r == r) = true := beq_self_eq_true _
  have e2 : (q == q) = true := beq_self_eq_true _
  clear ha
  go_enter Try.func8, Try.ntmps8
  go_wp2_with fail
  refine (H1.out _).mono ?_
  rintro e w1 ⟨rfl, hk⟩
  have HK1 := hid hk
  clear hk
  go_wp2_with fail
  refine (H2.out _).mono ?_
  rintro e w2 ⟨rfl, hk⟩
  have HK2 := hid (HK1.out.tr hk)
  clear hk
  go_wp2_with fail
  refine (live_any _).mono ?_
  rintro e w3 ⟨rfl, hk⟩
  have HK3 := hid (HK2.out.tr hk)
  clear hk
  go_wp2
  go_ret
  exact ⟨rfl, HK3.out⟩

/-! ### Numbers that fit -/
theorem fit_in (wide : Bool) {x : Int} (hx : 0 ≤ x ∧ x < 4294967296) : 0 ≤ fitX wide x ∧ fitX wide x < mOf (fitB wide) := by
  cases wide
  · have h1 : fitX false x = x % 65536 := rfl
    have h2 : mOf (fitB false) = 65536 := rfl
    rw [h1, h2]; omega
  · exact hx
theorem fit_m (wide : Bool) : mOf (fitB wide) ≤ 4294967296 := by cases wide <;> decide
theorem fit_right (wide : Bool) {l : List Int} (h : ∀ x ∈ l, x < mOf (fitB wide)) : wrong (fitB wide) l = 0 := by
  cases wide
  · have h2 : mOf (fitB false) = 65536 := rfl
    rw [h2] at h
    have hb : fitB false = 16 := rfl
    rw [hb]
    have : l.any (fun x => decide (65536 ≤ x)) = false := by
      rw [List.any_eq_false]
      intro x hx
      have := h x hx
      simp
      omega
    simp [wrong, this]
  · have hb : fitB true = 32 := rfl
    rw [hb]
    simp [wrong]

theorem fitAdd (wide : Bool) {a n : Int} (ha : 0 ≤ a ∧ a < mOf (fitB wide)) (w : World) : Calls Try.prog 23 #[.int .i64 (fitB wide), .int .u32 a, .int .i64 n] w fun e w' => e = .returned (.tuple #[.int .u32 (addBy (fitB wide) a n), .int .i64 0]) ∧ Kept [] w w' := by
  have h := Add_any (fitB wide) a n w ⟨ha.1, by have := fit_m wide; omega⟩
  unfold Added at h
  rw [fit_right wide (by intro x hx; simp at hx; subst hx; exact ha.2), if_pos rfl] at h
  exact h
theorem fitAhead (wide : Bool) {a b : Int} (ha : 0 ≤ a ∧ a < mOf (fitB wide)) (hb : 0 ≤ b ∧ b < mOf (fitB wide)) (w : World) : Calls Try.prog 12 #[.int .i64 (fitB wide), .int .u32 a, .int .u32 b] w fun e w' => e = .returned (.tuple #[.int .i64 (aheadBy (fitB wide) a b), .int .i64 0]) ∧ Kept [] w w' := by
  have h := Ahead_any (fitB wide) a b w ⟨ha.1, by have := fit_m wide; omega⟩ ⟨hb.1, by have := fit_m wide; omega⟩
  unfold Two at h
  rw [fit_right wide (by intro x hx; simp at hx; rcases hx with rfl | rfl <;> first | exact ha.2 | exact hb.2), if_pos rfl] at h
  exact h
theorem fitLess (wide : Bool) {a b : Int} (ha : 0 ≤ a ∧ a < mOf (fitB wide)) (hb : 0 ≤ b ∧ b < mOf (fitB wide)) (w : World) : Calls Try.prog 14 #[.int .i64 (fitB wide), .int .u32 a, .int .u32 b] w fun e w' => e = .returned (.tuple #[.bool (lessB (fitB wide) a b), .int .i64 0]) ∧ Kept [] w w' := by
  have h := Less_any (fitB wide) a b w ⟨ha.1, by have := fit_m wide; omega⟩ ⟨hb.1, by have := fit_m wide; omega⟩
  unfold Lessed at h
  rw [fit_right wide (by intro x hx; simp at hx; rcases hx with rfl | rfl <;> first | exact ha.2 | exact hb.2), if_pos rfl] at h
  exact h

theorem add_add (bits a n m : Int) : addBy bits (addBy bits a n) m = addBy bits a (n + m) := by
  unfold addBy
  rw [Int.emod_add_emod]
  congr 1
  omega
theorem ahead_add32 {x n : Int} (hn : -2147483648 ≤ n ∧ n < 2147483648) : aheadBy 32 x (addBy 32 x n) = n := by
  have hm : mOf 32 = 4294967296 := rfl
  simp only [aheadBy, addBy, hm]
  split <;> omega
theorem ahead_add16 {x n : Int} : aheadBy 16 x (addBy 16 x n) = IntKind.i16.wrap n := by
  have hm : mOf 16 = 65536 := rfl
  simp only [aheadBy, addBy, hm, IntKind.wrap]
  split <;> simp_all [IntKind.signed, IntKind.bits] <;> omega
theorem ahead_shift (bits a b n : Int) : aheadBy bits (addBy bits a n) (addBy bits b n) = aheadBy bits a b := by
  unfold aheadBy addBy
  rcases mOf_cases bits with ⟨_, e⟩ | ⟨_, e⟩ <;> rw [e] <;> split <;> split <;> omega
theorem one_less (wide : Bool) {x y : Int} (hx : 0 ≤ x ∧ x < mOf (fitB wide)) (hy : 0 ≤ y ∧ y < mOf (fitB wide)) :
    (lessB (fitB wide) x y && lessB (fitB wide) y x) = false ∧ ((lessB (fitB wide) x y || lessB (fitB wide) y x) = ((x != y) && (y != addBy (fitB wide) x (mOf (fitB wide) / 2)))) := by
  have key : ∀ p q r s : Prop, [Decidable p] → [Decidable q] → [Decidable r] → [Decidable s] → ¬ (p ∧ q) → ((p ∨ q) ↔ (¬ r ∧ ¬ s)) → (decide p && decide q) = false ∧ ((decide p || decide q) = (!decide r && !decide s)) := by
    intro p q r s _ _ _ _ h1 h2
    by_cases hp : p <;> by_cases hq : q <;> by_cases hr : r <;> by_cases hs : s <;> simp_all
  have hm : mOf (fitB wide) = 65536 ∨ mOf (fitB wide) = 4294967296 := by
    cases wide
    · exact .inl rfl
    · exact .inr rfl
  have h := key (0 < aheadBy (fitB wide) x y) (0 < aheadBy (fitB wide) y x) (x = y) (y = addBy (fitB wide) x (mOf (fitB wide) / 2)) (by
    unfold aheadBy
    generalize mOf (fitB wide) = m at *
    rcases hm with rfl | rfl <;> split <;> split <;> omega) (by
    unfold aheadBy addBy
    generalize mOf (fitB wide) = m at *
    rcases hm with rfl | rfl <;> split <;> split <;> omega)
  refine ⟨h.1, h.2.trans ?_⟩
  congr 1

set_option maxRecDepth 100000 in
set_option maxHeartbeats 4000000 in
theorem shifts_any {a0 b0 n : Int} {wide : Bool} {w : World} (ha : 0 ≤ a0 ∧ a0 < 4294967296) (hb : 0 ≤ b0 ∧ b0 < 4294967296) : Calls Try.prog 11 #[.agg #[.int .u32 a0, .int .u32 b0], .int .i64 n, .bool wide] w fun e w' => e = .returned (.bool true) ∧ Kept [] w w' := by
  have H1 := hid (fun W => fit_any wide a0 W ha)
  have H2 := hid (fun W => fit_any wide b0 W hb)
  have hA := fit_in wide ha
  have hB := fit_in wide hb
  have H3 := hid (fun W => fitAdd wide (n := n) hA W)
  have H4 := hid (fun W => fitAdd wide (n := n) hB W)
  have H5 := hid (fun W => fitLess wide hA hB W)
  have H6 := hid (fun W => fitLess wide (addBy_in (fitB wide) (fitX wide a0) n) (addBy_in (fitB wide) (fitX wide b0) n) W)
  have hsh : lessB (fitB wide) (addBy (fitB wide) (fitX wide a0) n) (addBy (fitB wide) (fitX wide b0) n) = lessB (fitB wide) (fitX wide a0) (fitX wide b0) := by
    unfold lessB
    rw [ahead_shift]
  rw [hsh] at H6
  generalize lessB (fitB wide) (fitX wide a0) (fitX wide b0) = c at *
  have ec : (c == c) = true := beq_self_eq_true _
  generalize addBy (fitB wide) (fitX wide a0) n = x at *
  generalize addBy (fitB wide) (fitX wide b0) n = y at *
  generalize fitX wide a0 = a at *
  generalize fitX wide b0 = b at *
  generalize fitB wide = bits at *
  have HK0 := hid ((Kept.refl [] w).alloc (.cells #[.int .u32 a0, .int .u32 b0] 53))
  clear ha hb hA hB hsh
  go_enter Try.func11, Try.ntmps11
  go_wp2_with fail
  refine (H1.out _).mono ?_
  rintro e w9 ⟨rfl, rfl⟩
  go_wp2_with fail
  refine (H2.out _).mono ?_
  rintro e w9 ⟨rfl, rfl⟩
  go_wp2_with fail
  refine (H3.out _).mono ?_
  rintro e w1 ⟨rfl, hk⟩
  have HK1 := hid (HK0.out.tr hk)
  clear hk
  go_wp2_with fail
  refine (H4.out _).mono ?_
  rintro e w2 ⟨rfl, hk⟩
  have HK2 := hid (HK1.out.tr hk)
  clear hk
  go_wp2_with fail
  refine (H5.out _).mono ?_
  rintro e w3 ⟨rfl, hk⟩
  have HK3 := hid (HK2.out.tr hk)
  clear hk
  go_wp2_with fail
  refine (H6.out _).mono ?_
  rintro e w4 ⟨rfl, hk⟩
  have HK4 := hid (HK3.out.tr hk)
  clear hk
  go_wp2_with fail
  refine (live_any _).mono ?_
  rintro e w5 ⟨rfl, hk⟩
  have HK5 := hid (HK4.out.tr hk)
  clear hk
  go_wp2
  go_ret
  exact ⟨rfl, HK5.out⟩

set_option maxRecDepth 100000 in
set_option maxHeartbeats 4000000 in
theorem one_true {a0 b0 : Int} {w : World} (ha : 0 ≤ a0 ∧ a0 < 4294967296) (hb : 0 ≤ b0 ∧ b0 < 4294967296) : Calls Try.prog 10 #[.int .u32 a0, .int .u32 b0, .bool true] w fun e w' => e = .returned (.bool true) ∧ Kept [] w w' := by
  have H1 := hid (fun W => fit_any true a0 W ha)
  have H2 := hid (fun W => fit_any true b0 W hb)
  have hA := fit_in true ha
  have hB := fit_in true hb
  have H3 := hid (fun W => fitLess true hA hB W)
  have H4 := hid (fun W => fitLess true hB hA W)
  have H5 := hid (fun W => fitAdd true (n := 2147483648) hA W)
  have hone := one_less true hA hB
  rw [show mOf (fitB true) / 2 = 2147483648 from rfl] at hone
  obtain ⟨o1, o2⟩ := hone
  rw [show fitB true = 32 from rfl] at *
  generalize lessB 32 (fitX true a0) (fitX true b0) = p at *
  generalize lessB 32 (fitX true b0) (fitX true a0) = q at *
  generalize addBy 32 (fitX true a0) 2147483648 = h at *
  generalize fitX true a0 = a at *
  generalize fitX true b0 = b at *
  have HO1 := hid o1
  have HO2 := hid o2
  clear ha hb hA hB o1 o2
  go_enter Try.func10, Try.ntmps10
  go_wp2_with fail
  refine (H1.out _).mono ?_
  rintro e w9 ⟨rfl, rfl⟩
  go_wp2_with fail
  refine (H2.out _).mono ?_
  rintro e w9 ⟨rfl, rfl⟩
  go_wp2_with fail
  refine (H3.out _).mono ?_
  rintro e w1 ⟨rfl, hk⟩
  have HK1 := hid hk
  clear hk
  go_wp2_with fail
  refine (H4.out _).mono ?_
  rintro e w2 ⟨rfl, hk⟩
  have HK2 := hid (HK1.out.tr hk)
  clear hk
  go_wp2_with fail
  refine (H5.out _).mono ?_
  rintro e w3 ⟨rfl, hk⟩
  have HK3 := hid (HK2.out.tr hk)
  clear hk
  have o1 := HO1.out
  have o2 := HO2.out
  cases p <;> cases q <;> cases h1 : (a != b) <;> cases h2 : (b != h) <;> rw [h1, h2] at o2 <;> first | (exact absurd o1 (by decide)) | (exact absurd o2 (by decide)) | skip
  all_goals
    go_wp2_with fail
    refine (live_any _).mono ?_
    rintro e w4 ⟨rfl, hk⟩
    have HK4 := hid (HK3.out.tr hk)
    clear hk
    go_wp2
    go_ret
    exact ⟨rfl, HK4.out⟩

set_option maxRecDepth 100000 in
set_option maxHeartbeats 4000000 in
theorem one_false {a0 b0 : Int} {w : World} (ha : 0 ≤ a0 ∧ a0 < 4294967296) (hb : 0 ≤ b0 ∧ b0 < 4294967296) : Calls Try.prog 10 #[.int .u32 a0, .int .u32 b0, .bool false] w fun e w' => e = .returned (.bool true) ∧ Kept [] w w' := by
  have H1 := hid (fun W => fit_any false a0 W ha)
  have H2 := hid (fun W => fit_any false b0 W hb)
  have hA := fit_in false ha
  have hB := fit_in false hb
  have H3 := hid (fun W => fitLess false hA hB W)
  have H4 := hid (fun W => fitLess false hB hA W)
  have H5 := hid (fun W => fitAdd false (n := 32768) hA W)
  have hone := one_less false hA hB
  rw [show mOf (fitB false) / 2 = 32768 from rfl] at hone
  obtain ⟨o1, o2⟩ := hone
  rw [show fitB false = 16 from rfl] at *
  generalize lessB 16 (fitX false a0) (fitX false b0) = p at *
  generalize lessB 16 (fitX false b0) (fitX false a0) = q at *
  generalize addBy 16 (fitX false a0) 32768 = h at *
  generalize fitX false a0 = a at *
  generalize fitX false b0 = b at *
  have HO1 := hid o1
  have HO2 := hid o2
  clear ha hb hA hB o1 o2
  go_enter Try.func10, Try.ntmps10
  go_wp2_with fail
  refine (H1.out _).mono ?_
  rintro e w9 ⟨rfl, rfl⟩
  go_wp2_with fail
  refine (H2.out _).mono ?_
  rintro e w9 ⟨rfl, rfl⟩
  go_wp2_with fail
  refine (H3.out _).mono ?_
  rintro e w1 ⟨rfl, hk⟩
  have HK1 := hid hk
  clear hk
  go_wp2_with fail
  refine (H4.out _).mono ?_
  rintro e w2 ⟨rfl, hk⟩
  have HK2 := hid (HK1.out.tr hk)
  clear hk
  go_wp2_with fail
  refine (H5.out _).mono ?_
  rintro e w3 ⟨rfl, hk⟩
  have HK3 := hid (HK2.out.tr hk)
  clear hk
  have o1 := HO1.out
  have o2 := HO2.out
  cases p <;> cases q <;> cases h1 : (a != b) <;> cases h2 : (b != h) <;> rw [h1, h2] at o2 <;> first | (exact absurd o1 (by decide)) | (exact absurd o2 (by decide)) | skip
  all_goals
    go_wp2_with fail
    refine (live_any _).mono ?_
    rintro e w4 ⟨rfl, hk⟩
    have HK4 := hid (HK3.out.tr hk)
    clear hk
    go_wp2
    go_ret
    exact ⟨rfl, HK4.out⟩

theorem one_any {a0 b0 : Int} {wide : Bool} {w : World} (ha : 0 ≤ a0 ∧ a0 < 4294967296) (hb : 0 ≤ b0 ∧ b0 < 4294967296) : Calls Try.prog 10 #[.int .u32 a0, .int .u32 b0, .bool wide] w fun e w' => e = .returned (.bool true) ∧ Kept [] w w' := by
  cases wide
  · exact one_false ha hb
  · exact one_true ha hb

set_option maxRecDepth 100000 in
set_option maxHeartbeats 4000000 in
theorem steps_true {a0 n0 n1 : Int} {w : World} (ha : 0 ≤ a0 ∧ a0 < 4294967296) (h0 : -2147483648 ≤ n0 ∧ n0 < 2147483648) (h1 : -2147483648 ≤ n1 ∧ n1 < 2147483648) : Calls Try.prog 9 #[.int .u32 a0, .agg #[.int .i32 n0, .int .i32 n1], .bool true] w fun e w' => e = .returned (.bool true) ∧ Kept [] w w' := by
  have H1 := hid (fun W => fit_any true a0 W ha)
  have hA := fit_in true ha
  have hY := addBy_in (fitB true) (fitX true a0) n0
  have H3 := hid (fun W => fitAdd true (n := n0) hA W)
  have H4 := hid (fun W => fitAdd true (n := n1) hY W)
  have H5 := hid (fun W => fitAdd true (n := n0 + n1) hA W)
  have H6 := hid (fun W => fitAhead true hA hY W)
  rw [add_add] at H4
  rw [show fitB true = 32 from rfl] at *
  rw [ahead_add32 h0] at H6
  generalize addBy 32 (fitX true a0) (n0 + n1) = z at *
  generalize addBy 32 (fitX true a0) n0 = y at *
  generalize fitX true a0 = a at *
  have hw0 : IntKind.i64.wrap n0 = n0 := IntWalk.i64_in _ (by omega)
  have hw1 : IntKind.i64.wrap n1 = n1 := IntWalk.i64_in _ (by omega)
  have hw2 : IntKind.i64.wrap (n0 + n1) = n0 + n1 := IntWalk.i64_in _ (by omega)
  have hw3 : wrap64 (n0 + n1) = n0 + n1 := IntWalk.wrap64_in _ (by omega)
  have hw4 : wrap64 n0 = n0 := IntWalk.wrap64_in _ (by omega)
  have hw5 : wrap64 n1 = n1 := IntWalk.wrap64_in _ (by omega)
  have e1 : (z == z) = true := beq_self_eq_true _
  have e2 : (n0 == n0) = true := beq_self_eq_true _
  have HK0 := hid ((Kept.refl [] w).alloc (.cells #[.int .i32 n0, .int .i32 n1] 48))
  have HB0 := hid (blk_new w (.cells #[.int .i32 n0, .int .i32 n1] 48))
  have HC := hid (show ∀ W, Kept [] (w.alloc (.cells #[.int .i32 n0, .int .i32 n1] 48)) W → W.cell? ⟨w.heap.size, 0, none⟩ = some (.int .i32 n0) ∧ W.cell? ⟨w.heap.size, 1, none⟩ = some (.int .i32 n1) from fun W hk => by
    have hb := hk.blk HB0.out (by simp)
    exact ⟨blk_cell hb 0, blk_cell hb 1⟩)
  clear ha hA hY h0 h1
  obtain ⟨c0, c1⟩ := HC.out _ (Kept.refl [] _)
  go_enter Try.func9, Try.ntmps9
  go_wp2_with fail
  refine (H1.out _).mono ?_
  rintro e w9 ⟨rfl, rfl⟩
  go_wp2_with fail
  refine (H3.out _).mono ?_
  rintro e w1 ⟨rfl, hk⟩
  have HK1 := hid hk
  obtain ⟨c0, c1⟩ := HC.out _ HK1.out
  clear hk
  go_wp2_with fail
  refine (H4.out _).mono ?_
  rintro e w2 ⟨rfl, hk⟩
  have HK2 := hid (HK1.out.tr hk)
  obtain ⟨c0, c1⟩ := HC.out _ HK2.out
  clear hk
  go_wp2_with fail
  refine (H5.out _).mono ?_
  rintro e w3 ⟨rfl, hk⟩
  have HK3 := hid (HK2.out.tr hk)
  obtain ⟨c0, c1⟩ := HC.out _ HK3.out
  clear hk
  go_wp2_with fail
  refine (H6.out _).mono ?_
  rintro e w4 ⟨rfl, hk⟩
  have HK4 := hid (HK3.out.tr hk)
  obtain ⟨c0, c1⟩ := HC.out _ HK4.out
  clear hk
  go_wp2_with fail
  refine (live_any _).mono ?_
  rintro e w5 ⟨rfl, hk⟩
  have HK5 := hid (HK4.out.tr hk)
  clear hk
  go_wp2
  go_ret
  exact ⟨rfl, HK0.out.tr HK5.out⟩

set_option maxRecDepth 100000 in
set_option maxHeartbeats 4000000 in
theorem steps_false {a0 n0 n1 : Int} {w : World} (ha : 0 ≤ a0 ∧ a0 < 4294967296) (h0 : -2147483648 ≤ n0 ∧ n0 < 2147483648) (h1 : -2147483648 ≤ n1 ∧ n1 < 2147483648) : Calls Try.prog 9 #[.int .u32 a0, .agg #[.int .i32 n0, .int .i32 n1], .bool false] w fun e w' => e = .returned (.bool true) ∧ Kept [] w w' := by
  have H1 := hid (fun W => fit_any false a0 W ha)
  have hA := fit_in false ha
  have hY := addBy_in (fitB false) (fitX false a0) n0
  have H3 := hid (fun W => fitAdd false (n := n0) hA W)
  have H4 := hid (fun W => fitAdd false (n := n1) hY W)
  have H5 := hid (fun W => fitAdd false (n := n0 + n1) hA W)
  have H6 := hid (fun W => fitAhead false hA hY W)
  rw [add_add] at H4
  rw [show fitB false = 16 from rfl] at *
  rw [ahead_add16] at H6
  generalize addBy 16 (fitX false a0) (n0 + n1) = z at *
  generalize addBy 16 (fitX false a0) n0 = y at *
  generalize fitX false a0 = a at *
  have hw0 : IntKind.i64.wrap n0 = n0 := IntWalk.i64_in _ (by omega)
  have hw1 : IntKind.i64.wrap n1 = n1 := IntWalk.i64_in _ (by omega)
  have hw2 : IntKind.i64.wrap (n0 + n1) = n0 + n1 := IntWalk.i64_in _ (by omega)
  have hw3 : wrap64 (n0 + n1) = n0 + n1 := IntWalk.wrap64_in _ (by omega)
  have hw4 : wrap64 n0 = n0 := IntWalk.wrap64_in _ (by omega)
  have hw5 : wrap64 n1 = n1 := IntWalk.wrap64_in _ (by omega)
  have e1 : (z == z) = true := beq_self_eq_true _
  have hq : -32768 ≤ IntKind.i16.wrap n0 ∧ IntKind.i16.wrap n0 < 32768 := by
    simp only [IntKind.wrap]
    simp [IntKind.signed, IntKind.bits]
    omega
  have hw6 : IntKind.i64.wrap (IntKind.i16.wrap n0) = IntKind.i16.wrap n0 := IntWalk.i64_in _ (by omega)
  have hw7 : wrap64 (IntKind.i16.wrap n0) = IntKind.i16.wrap n0 := IntWalk.wrap64_in _ (by omega)
  have e2 : (IntKind.i16.wrap n0 == IntKind.i16.wrap n0) = true := beq_self_eq_true _
  have HK0 := hid ((Kept.refl [] w).alloc (.cells #[.int .i32 n0, .int .i32 n1] 48))
  have HB0 := hid (blk_new w (.cells #[.int .i32 n0, .int .i32 n1] 48))
  have HC := hid (show ∀ W, Kept [] (w.alloc (.cells #[.int .i32 n0, .int .i32 n1] 48)) W → W.cell? ⟨w.heap.size, 0, none⟩ = some (.int .i32 n0) ∧ W.cell? ⟨w.heap.size, 1, none⟩ = some (.int .i32 n1) from fun W hk => by
    have hb := hk.blk HB0.out (by simp)
    exact ⟨blk_cell hb 0, blk_cell hb 1⟩)
  clear ha hA hY h0 h1
  obtain ⟨c0, c1⟩ := HC.out _ (Kept.refl [] _)
  go_enter Try.func9, Try.ntmps9
  go_wp2_with fail
  refine (H1.out _).mono ?_
  rintro e w9 ⟨rfl, rfl⟩
  go_wp2_with fail
  refine (H3.out _).mono ?_
  rintro e w1 ⟨rfl, hk⟩
  have HK1 := hid hk
  obtain ⟨c0, c1⟩ := HC.out _ HK1.out
  clear hk
  go_wp2_with fail
  refine (H4.out _).mono ?_
  rintro e w2 ⟨rfl, hk⟩
  have HK2 := hid (HK1.out.tr hk)
  obtain ⟨c0, c1⟩ := HC.out _ HK2.out
  clear hk
  go_wp2_with fail
  refine (H5.out _).mono ?_
  rintro e w3 ⟨rfl, hk⟩
  have HK3 := hid (HK2.out.tr hk)
  obtain ⟨c0, c1⟩ := HC.out _ HK3.out
  clear hk
  go_wp2_with fail
  refine (H6.out _).mono ?_
  rintro e w4 ⟨rfl, hk⟩
  have HK4 := hid (HK3.out.tr hk)
  obtain ⟨c0, c1⟩ := HC.out _ HK4.out
  clear hk
  go_wp2_with fail
  refine (live_any _).mono ?_
  rintro e w5 ⟨rfl, hk⟩
  have HK5 := hid (HK4.out.tr hk)
  clear hk
  go_wp2
  go_ret
  exact ⟨rfl, HK0.out.tr HK5.out⟩

theorem steps_any {a0 n0 n1 : Int} {wide : Bool} {w : World} (ha : 0 ≤ a0 ∧ a0 < 4294967296) (h0 : -2147483648 ≤ n0 ∧ n0 < 2147483648) (h1 : -2147483648 ≤ n1 ∧ n1 < 2147483648) : Calls Try.prog 9 #[.int .u32 a0, .agg #[.int .i32 n0, .int .i32 n1], .bool wide] w fun e w' => e = .returned (.bool true) ∧ Kept [] w w' := by
  cases wide
  · exact steps_false ha h0 h1
  · exact steps_true ha h0 h1

end Go.Proofs.Ytomdbdliniiffaa
