/-
  cut, Less, Add, the reference's Less, Add, Same; fit: what they return.
-/
import Derived.Test.YtomdbdliniiffaaPutP
namespace Go.Proofs.Ytomdbdliniiffaa
open Go.RowKit

theorem and16 {x : Int} (h0 : 0 ≤ x) (h1 : x < 4294967296) : Go.bits .and .u32 x 65535 = x % 65536 := by
  have h := bits_mask .u32 32 (by decide) (fun n h0 h1 => by rw [IntKind.wrap_u32]; omega) 16 (by decide) x h0 (by omega)
  simpa using h

theorem cut_any (bits x : Int) (w : World) (hx : 0 ≤ x ∧ x < 4294967296) : Calls Try.prog 32 #[.int .i64 bits, .int .u32 x] w fun e w' => e = .returned (.int .u32 (x % mOf bits)) ∧ w = w' := by
  by_cases h : bits = 16
  · subst h
    have HF := hid (show x % mOf 16 = x % 65536 from rfl)
    have ha := and16 hx.1 hx.2
    go_enter Try.func32, Try.ntmps32
    go_wp2
    go_ret
    exact ⟨by rw [HF.out]; rfl, rfl⟩
  · have b0 : (bits == 16) = false := beq_eq_false_iff_ne.2 h
    have HF := hid (show x % mOf bits = x from by rw [show mOf bits = 4294967296 by simp [mOf, h]]; exact Int.emod_eq_of_lt hx.1 hx.2)
    clear h
    go_enter Try.func32, Try.ntmps32
    go_wp2
    go_ret
    exact ⟨by rw [HF.out]; rfl, rfl⟩

def Lessed (bits a b : Int) (w : World) (e : Ending) (w' : World) : Prop :=
  e = .returned (.tuple #[.bool (if wrong bits [a, b] = 0 then lessB bits a b else false), .int .i64 (wrong bits [a, b])]) ∧ Kept [] w w'

theorem Less_any (bits a b : Int) (w : World) (ha : 0 ≤ a ∧ a < 4294967296) (hb : 0 ≤ b ∧ b < 4294967296) : Calls Try.prog 14 #[.int .i64 bits, .int .u32 a, .int .u32 b] w (Lessed bits a b w) := by
  have hA := Ahead_any bits a b w ha hb
  unfold Two at hA
  have HP := hid (show ∀ w', Kept [] w w' → Lessed bits a b w (.returned (.tuple #[.bool (decide (0 < if wrong bits [a, b] = 0 then aheadBy bits a b else 0)), .int .i64 (wrong bits [a, b])])) w' from fun w' hk => by
    refine ⟨?_, hk⟩
    by_cases h : wrong bits [a, b] = 0
    · simp [h, lessB]
    · simp [h])
  generalize Lessed bits a b w = Post at *
  generalize (if wrong bits [a, b] = 0 then aheadBy bits a b else 0) = n at *
  generalize wrong bits [a, b] = q at *
  have HA := hid hA
  clear hA
  go_enter Try.func14, Try.ntmps14
  go_wp2_with fail
  refine HA.out.mono ?_
  rintro e w1 ⟨rfl, hk⟩
  have HK := hid hk
  clear hk
  go_wp2
  exact HP.out _ HK.out

theorem RefLess_any (bits a b : Int) (w : World) (ha : 0 ≤ a ∧ a < 4294967296) (hb : 0 ≤ b ∧ b < 4294967296) : Calls Try.prog 15 #[.int .i64 bits, .int .u32 a, .int .u32 b] w (Lessed bits a b w) := by
  have hA := RefAhead_any bits a b w ha hb
  unfold Two at hA
  by_cases h : wrong bits [a, b] = 0
  · have HP := hid (show ∀ w', Kept [] w w' → Lessed bits a b w (.returned (.tuple #[.bool (decide (0 < aheadBy bits a b)), .int .i64 0])) w' from fun w' hk => ⟨by simp [h, lessB], hk⟩)
    rw [if_pos h, h] at hA
    generalize Lessed bits a b w = Post at *
    generalize aheadBy bits a b = n at *
    have HA := hid hA
    clear hA h
    go_enter Try.func15, Try.ntmps15
    go_wp2_with fail
    refine HA.out.mono ?_
    rintro e w1 ⟨rfl, hk⟩
    have HK := hid hk
    clear hk
    go_wp2
    exact HP.out _ HK.out
  · have HP := hid (show ∀ w', Kept [] w w' → Lessed bits a b w (.returned (.tuple #[.bool false, .int .i64 (wrong bits [a, b])])) w' from fun w' hk => ⟨by simp [h], hk⟩)
    rw [if_neg h] at hA
    have bq : (wrong bits [a, b] == 0) = false := beq_eq_false_iff_ne.2 h
    generalize Lessed bits a b w = Post at *
    generalize wrong bits [a, b] = q at *
    have HA := hid hA
    clear hA h
    go_enter Try.func15, Try.ntmps15
    go_wp2_with fail
    refine HA.out.mono ?_
    rintro e w1 ⟨rfl, hk⟩
    have HK := hid hk
    clear hk
    go_wp2
    exact HP.out _ HK.out

def Added (bits a n : Int) (w : World) (e : Ending) (w' : World) : Prop :=
  e = .returned (.tuple #[.int .u32 (if wrong bits [a] = 0 then addBy bits a n else 0), .int .i64 (wrong bits [a])]) ∧ Kept [] w w'

theorem Add_any (bits a n : Int) (w : World) (ha : 0 ≤ a ∧ a < 4294967296) : Calls Try.prog 23 #[.int .i64 bits, .int .u32 a, .int .i64 n] w (Added bits a n w) := by
  have hx : ∀ x ∈ [a], 0 ≤ x ∧ x < 4294967296 := by intro x hx; simp at hx; subst hx; exact ha
  have hC := right_any _ bits [a] _ _ (one_in w a 22) hx (by simp)
  have HA := hid ((Kept.refl [] w).alloc (.cells #[.int .u32 a] 22))
  by_cases h : wrong bits [a] = 0
  · have HP := hid (show ∀ w', Kept [] w w' → Added bits a n w (.returned (.tuple #[.int .u32 (addBy bits a n), .int .i64 0])) w' from fun w' hk => ⟨by simp [h], hk⟩)
    have HE := hid (show (a + n) % 4294967296 % mOf bits = addBy bits a n from by
      unfold addBy
      rcases mOf_cases bits with ⟨_, e⟩ | ⟨_, e⟩ <;> rw [e] <;> omega)
    rw [h] at hC
    have HC := hid hC
    have hz0 := Int.emod_nonneg (a + n) (show (4294967296 : Int) ≠ 0 by decide)
    have hz1 := Int.emod_lt_of_pos (a + n) (show (0 : Int) < 4294967296 by decide)
    have HZ := hid (And.intro hz0 hz1)
    generalize Added bits a n w = Post at *
    clear hC h hx ha hz0 hz1
    go_enter Try.func23, Try.ntmps23
    go_wp2_with fail
    refine HC.out.mono ?_
    rintro e w1 ⟨rfl, rfl⟩
    go_wp2_with fail
    refine (cut_any bits _ _ (by have := HZ.out; omega)).mono ?_
    rintro e w1 ⟨rfl, rfl⟩
    go_wp2
    rw [HE.out]
    exact HP.out _ HA.out
  · have HP := hid (show ∀ w', Kept [] w w' → Added bits a n w (.returned (.tuple #[.int .u32 0, .int .i64 (wrong bits [a])])) w' from fun w' hk => ⟨by simp [h], hk⟩)
    have bq : (wrong bits [a] != 0) = true := bne_iff_ne.2 h
    generalize Added bits a n w = Post at *
    generalize wrong bits [a] = q at *
    have HC := hid hC
    clear hC h hx ha
    go_enter Try.func23, Try.ntmps23
    go_wp2_with fail
    refine HC.out.mono ?_
    rintro e w1 ⟨rfl, rfl⟩
    go_wp2
    exact HP.out _ HA.out

theorem RefAdd_any (bits a n : Int) (w : World) (ha : 0 ≤ a ∧ a < 4294967296) : Calls Try.prog 24 #[.int .i64 bits, .int .u32 a, .int .i64 n] w (Added bits a n w) := by
  have hx : ∀ x ∈ [a], 0 ≤ x ∧ x < 4294967296 := by intro x hx; simp at hx; subst hx; exact ha
  have hC := Check_any _ bits [a] _ _ (one_in w a 22) hx (by simp)
  have HA := hid ((Kept.refl [] w).alloc (.cells #[.int .u32 a] 22))
  by_cases h : wrong bits [a] = 0
  · have HP := hid (show ∀ w', Kept [] w w' → Added bits a n w (.returned (.tuple #[.int .u32 (addBy bits a n), .int .i64 0])) w' from fun w' hk => ⟨by simp [h], hk⟩)
    have hin := addBy_in bits a n
    have hm : 0 < mOf bits ∧ mOf bits ≤ 4294967296 := by rcases mOf_cases bits with h | h <;> omega
    have HE := hid (show (a + n % mOf bits) % mOf bits = addBy bits a n from by unfold addBy; rw [Int.add_emod_emod])
    have hm0 := Int.emod_nonneg n (show mOf bits ≠ 0 by omega)
    have hm1 := Int.emod_lt_of_pos n hm.1
    have hwa : IntKind.i64.wrap a = a := IntWalk.i64_in a (by omega)
    have hws : IntKind.i64.wrap (a + n % mOf bits) = a + n % mOf bits := IntWalk.i64_in _ (by omega)
    have hws' : wrap64 (a + n % mOf bits) = a + n % mOf bits := IntWalk.wrap64_in _ (by omega)
    have hwr : (addBy bits a n) % 4294967296 = addBy bits a n := Int.emod_eq_of_lt hin.1 (by omega)
    rw [h] at hC
    have HC := hid hC
    generalize Added bits a n w = Post at *
    clear hC h hx
    go_enter Try.func24, Try.ntmps24
    go_wp2_with fail
    refine HC.out.mono ?_
    rintro e w1 ⟨rfl, hk⟩
    have HK := hid (HA.out.tr hk)
    clear hk
    go_wp2_with fail
    refine (rest_any bits n _).mono ?_
    rintro e w2 ⟨rfl, rfl⟩
    go_wp2_with fail
    refine (rest_any bits (a + n % mOf bits) _).mono ?_
    rintro e w2 ⟨rfl, rfl⟩
    rw [HE.out]
    go_wp2
    exact HP.out _ HK.out
  · have HP := hid (show ∀ w', Kept [] w w' → Added bits a n w (.returned (.tuple #[.int .u32 0, .int .i64 (wrong bits [a])])) w' from fun w' hk => ⟨by simp [h], hk⟩)
    have bq : (wrong bits [a] != 0) = true := bne_iff_ne.2 h
    generalize Added bits a n w = Post at *
    generalize wrong bits [a] = q at *
    have HC := hid hC
    clear hC h hx ha
    go_enter Try.func24, Try.ntmps24
    go_wp2_with fail
    refine HC.out.mono ?_
    rintro e w1 ⟨rfl, hk⟩
    have HK := hid (HA.out.tr hk)
    clear hk
    go_wp2
    exact HP.out _ HK.out

/-- What 'fit' makes of a draw. -/
def fitB (wide : Bool) : Int := if wide = true then 32 else 16
def fitX (wide : Bool) (x : Int) : Int := if wide = true then x else x % 65536
theorem fit_any (wide : Bool) (x : Int) (w : World) (hx : 0 ≤ x ∧ x < 4294967296) : Calls Try.prog 20 #[.bool wide, .int .u32 x] w fun e w' => e = .returned (.tuple #[.int .i64 (fitB wide), .int .u32 (fitX wide x)]) ∧ w = w' := by
  cases wide with
  | true =>
    go_enter Try.func20, Try.ntmps20
    go_wp2
    go_ret2
    exact ⟨rfl, rfl⟩
  | false =>
    have ha := and16 hx.1 hx.2
    go_enter Try.func20, Try.ntmps20
    go_wp2
    go_ret2
    exact ⟨rfl, rfl⟩

set_option maxHeartbeats 1000000 in
theorem Same_any {B C : Nat → Prop} {w : World} {va vb : Value} {xs ys : List Int} (ha : SliceIn B w 1 va xs.length (u32s xs)) (hb : SliceIn C w 1 vb ys.length (u32s ys)) (hl : xs.length ≤ 140737488355328) :
    Calls Try.prog 19 #[va, vb] w fun e w' => e = .returned (.bool (decide (xs = ys))) ∧ Kept [] w w' := by
  have HA := hid ha
  have HB := hid hb
  obtain ⟨ao, ac, rfl⟩ := ha.form
  obtain ⟨bo, bc, rfl⟩ := hb.form
  have HK := hid (Kept.refl [] w)
  clear ha hb
  by_cases hlen : xs.length = ys.length
  · have bl : ((xs.length : Int) != (ys.length : Int)) = false := by rw [hlen]; simp
    go_enter Try.func19, Try.ntmps19
    go_wp2_with fail
    go_loopw [5] (fun i wr => ∃ k : Nat, k ≤ xs.length ∧ i = .int .i64 k ∧ xs.take k = ys.take k ∧ Kept [] w wr) (fun i wr => xs.length - (intOf i).toNat)
    case atStart => exact ⟨0, Nat.zero_le _, rfl, by simp, HK.out⟩
    case round =>
      obtain ⟨k, hk, rfl, he, hkw⟩ := hrel
      have HE := hid he
      have HKW := hid hkw
      have HA' := hid (HA.out.kept hkw (fun _ _ _ => by simp))
      have HB' := hid (HB.out.kept hkw (fun _ _ _ => by simp))
      clear he hkw
      by_cases hlt : k < xs.length
      · obtain ⟨b1, o1, e1, _, _, _, hc1⟩ := HA'.out.rows (by omega)
        obtain ⟨b2, o2, e2, _, _, _, hc2⟩ := HB'.out.rows (by omega)
        subst e1 e2
        have c1 := hc1 k _ (u32s_get hlt)
        have c2 := hc2 k _ (u32s_get (by omega))
        have hlt2 : k < ys.length := by omega
        have HX := hid (show xs.getD k 0 = xs[k] from by simp [List.getD, hlt])
        have HY := hid (show ys.getD k 0 = ys[k] from by simp [List.getD, hlt2])
        clear hc1 hc2
        have hwk : IntKind.i64.wrap ((k : Int) + 1) = (k : Int) + 1 := IntWalk.i64_in _ (by omega)
        generalize hxz : xs.getD k 0 = x at *
        generalize hyz : ys.getD k 0 = y at *
        clear hxz hyz
        by_cases hxy : x = y
        · have bx : (x != y) = false := by simp [hxy]
          have HN := hid (show xs.take (k + 1) = ys.take (k + 1) from by
            rw [List.take_succ_eq_append_getElem hlt, List.take_succ_eq_append_getElem hlt2, HE.out, ← HX.out, ← HY.out, hxy])
          clear hxy
          go_wp2_with fail
          go_quiet (fail)
          go_wp2
          go_roundw
          case rel => exact ⟨k + 1, by omega, by go_num, HN.out, HKW.out.drewN _⟩
          case measure => simp [intOf]; omega
        · have bx : (x != y) = true := by simp [hxy]
          have HN := hid (show decide (xs = ys) = false from decide_eq_false fun e => hxy (by
            have h1 := HX.out
            have h2 := HY.out
            subst e
            rw [h1, h2]))
          clear hxy
          go_wp2_with fail
          go_quiet (fail)
          go_wp2
          go_ret
          exact ⟨by rw [HN.out]; rfl, HKW.out.drewN _⟩
      · obtain rfl : k = xs.length := by omega
        have HN := hid (show decide (xs = ys) = true from decide_eq_true (by
          have h := HE.out
          rwa [List.take_length, hlen, List.take_length] at h))
        go_wp2
        go_ret
        exact ⟨by rw [HN.out]; rfl, HKW.out⟩
  · have bl : ((xs.length : Int) != (ys.length : Int)) = true := by simp; omega
    have HN := hid (show decide (xs = ys) = false from decide_eq_false fun e => hlen (by rw [e]))
    clear hlen
    go_enter Try.func19, Try.ntmps19
    go_wp2
    go_ret
    exact ⟨by rw [HN.out]; rfl, HK.out⟩

end Go.Proofs.Ytomdbdliniiffaa
