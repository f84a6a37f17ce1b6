/-
  serial.right, serial.Ahead; the reference's Round, Check, rest, Ahead, Same: what they return.
-/
import Derived.Test.YtomdbdliniiffaaPush
import Derived.Test.YtomdbdliniiffaaArr
namespace Go.Proofs.Ytomdbdliniiffaa
open Go.RowKit

def u32s (xs : List Int) : List Value := xs.map (Value.int .u32)
theorem u32s_length (xs : List Int) : (u32s xs).length = xs.length := by simp [u32s]
theorem u32s_one (xs : List Int) : ∀ u ∈ u32s xs, u.oneCell' = true := by
  intro u hu
  obtain ⟨_, _, rfl⟩ := List.mem_map.1 hu
  rfl

/-- What is wrong with bits and numbers. -/
def wrong (bits : Int) (xs : List Int) : Int := if bits ≠ 16 ∧ bits ≠ 32 then 2 else if bits = 16 ∧ xs.any (fun x => decide (65536 ≤ x)) = true then 6 else 0

theorem wrong_hit {xs : List Int} {x : Int} (hm : x ∈ xs) (h : 65536 ≤ x) : wrong 16 xs = 6 := by
  have : xs.any (fun x => decide (65536 ≤ x)) = true := List.any_eq_true.2 ⟨x, hm, by simpa using h⟩
  simp [wrong, this]
theorem u32s_get {xs : List Int} {k : Nat} (h : k < xs.length) : (u32s xs)[k]? = some (.int .u32 (xs.getD k 0)) := by simp [u32s, List.getD, h]
theorem getD_mem {xs : List Int} {k : Nat} (h : k < xs.length) : xs.getD k 0 ∈ xs := by simp [List.getD, h]
theorem take_any_succ {xs : List Int} {k : Nat} (h : k < xs.length) (p : Int → Bool) : (xs.take (k + 1)).any p = ((xs.take k).any p || p (xs.getD k 0)) := by
  rw [List.take_succ_eq_append_getElem h, List.any_append]
  simp [List.getD, h]

set_option maxHeartbeats 400000 in
theorem right_any (B : Nat → Prop) (bits : Int) (xs : List Int) (lv : Value) (w : World) (hv : SliceIn B w 1 lv xs.length (u32s xs)) (hx : ∀ x ∈ xs, 0 ≤ x ∧ x < 4294967296) (hl : xs.length ≤ 140737488355328) :
    Calls Try.prog 25 #[.int .i64 bits, lv] w fun e w' => e = .returned (.int .i64 (wrong bits xs)) ∧ w = w' := by
  obtain ⟨ao, cap, rfl⟩ := hv.form
  by_cases h0 : bits = 16
  · subst h0
    have HV := hid hv
    have HX := hid hx
    clear hv hx
    go_enter Try.func25, Try.ntmps25
    go_wp2
    go_loop [15] (fun i => ∃ k : Nat, k ≤ xs.length ∧ i = .int .i64 k ∧ (xs.take k).any (fun x => decide (65536 ≤ x)) = false) (fun i => xs.length - (intOf i).toNat)
    case atStart => exact ⟨0, Nat.zero_le _, rfl, by simp⟩
    case round =>
      obtain ⟨k, hk, rfl, hn⟩ := hrel
      have HN := hid hn
      clear hn
      by_cases hlt : k < xs.length
      · obtain ⟨b, off, hao, _, _, _, hc⟩ := HV.out.rows (by omega)
        subst hao
        have ck := hc k _ (u32s_get hlt)
        have hbd := HX.out _ (getD_mem hlt)
        have HT := hid (take_any_succ hlt (fun x => decide (65536 ≤ x)))
        clear hc
        have HM := hid (getD_mem hlt)
        generalize xs.getD k 0 = x at *
        by_cases hb : 65536 ≤ x
        · have hd : (x / 65536 != 0) = true := by rw [bne_iff_ne]; omega
          have hF := wrong_hit HM.out hb
          have HF := hid hF
          clear hF
          go_wp2
          go_ret
          rw [HF.out]
          exact ⟨rfl, rfl⟩
        · have hd : (x / 65536 != 0) = false := by rw [bne_eq_false_iff_eq]; omega
          go_wp2
          go_round
          case rel => exact ⟨k + 1, by omega, by go_num, by rw [HT.out, HN.out]; simp; omega⟩
          case measure => simp [intOf]; omega
      · obtain rfl : k = xs.length := by omega
        have hF : wrong 16 xs = 0 := by
          have := HN.out
          rw [List.take_length] at this
          simp [wrong, this]
        have HF := hid hF
        clear hF
        go_wp2
        go_ret
        rw [HF.out]
        exact ⟨rfl, rfl⟩
  · by_cases h1 : bits = 32
    · subst h1
      clear hx
      have hF : wrong 32 xs = 0 := by simp [wrong]
      have HF := hid hF
      have HV := hid hv
      clear hF hv h0
      go_enter Try.func25, Try.ntmps25
      go_wp2
      go_loop [15] (fun i => ∃ k : Nat, k ≤ xs.length ∧ i = .int .i64 k) (fun i => xs.length - (intOf i).toNat)
      case atStart => exact ⟨0, Nat.zero_le _, rfl⟩
      case round =>
        obtain ⟨k, hk, rfl⟩ := hrel
        by_cases hlt : k < xs.length
        · obtain ⟨b, off, hao, _, _, _, hc⟩ := HV.out.rows (by omega)
          subst hao
          have ck := hc k _ (u32s_get hlt)
          clear hc
          go_wp2
          go_round
          case rel => exact ⟨k + 1, by omega, by go_num⟩
          case measure => simp [intOf]; omega
        · go_wp2
          go_ret
          rw [HF.out]
          exact ⟨rfl, rfl⟩
    · have hF : wrong bits xs = 2 := by simp [wrong, h0, h1]
      have HF := hid hF
      have b0 : (bits != 16) = true := by rw [bne_iff_ne]; exact h0
      have b1 : (bits != 32) = true := by rw [bne_iff_ne]; exact h1
      clear hF hv hx h0 h1
      go_enter Try.func25, Try.ntmps25
      go_wp2
      go_ret
      rw [HF.out]
      exact ⟨rfl, rfl⟩

def mOf (bits : Int) : Int := if bits = 16 then 65536 else 4294967296

theorem quiet_same {P : Program} {f : FuncId} {args : Array Value} {w : World} {n : Nat} {v : Value}
    (h : Calls P f args (w.drewN n) fun e w' => e = .returned v ∧ w.drewN n = w') : Calls P f args (w.drewN n) fun e w'' => e = .returned v ∧ ∃ m, w'' = w.drewN m :=
  h.mono fun _ _ ⟨he, hm⟩ => ⟨he, n, hm.symm⟩

theorem mOf_cases (bits : Int) : (bits = 16 ∧ mOf bits = 65536) ∨ (bits ≠ 16 ∧ mOf bits = 4294967296) := by
  unfold mOf; split <;> simp_all

theorem Round_any (bits : Int) (w : World) : Calls Try.prog 28 #[.int .i64 bits] w fun e w' => e = .returned (.int .i64 (mOf bits)) ∧ w = w' := by
  by_cases h : bits = 16
  · have HF := hid (show mOf bits = 65536 from by simp [mOf, h])
    have b0 : (bits == 16) = true := beq_iff_eq.2 h
    clear h
    go_enter Try.func28, Try.ntmps28
    go_wp2
    go_ret
    rw [HF.out]
    exact ⟨rfl, rfl⟩
  · have HF := hid (show mOf bits = 4294967296 from by simp [mOf, h])
    have b0 : (bits == 16) = false := beq_eq_false_iff_ne.2 h
    clear h
    go_enter Try.func28, Try.ntmps28
    go_wp2
    go_ret
    rw [HF.out]
    exact ⟨rfl, rfl⟩

theorem rest_eq (bits n : Int) : (n.tmod (mOf bits) < 0 → n.tmod (mOf bits) + mOf bits = n % mOf bits) ∧ (¬ n.tmod (mOf bits) < 0 → n.tmod (mOf bits) = n % mOf bits) ∧ -mOf bits < n.tmod (mOf bits) ∧ n.tmod (mOf bits) < mOf bits := by
  have hm : 0 < mOf bits ∧ mOf bits ≤ 4294967296 := by rcases mOf_cases bits with h | h <;> omega
  generalize mOf bits = m at *
  have h1 := Int.tmod_eq_emod (a := n) (b := m)
  have h2 := Int.emod_nonneg n (show m ≠ 0 by omega)
  have h3 := Int.emod_lt_of_pos n hm.1
  rw [h1]
  split
  · omega
  · have hab : (m.natAbs : Int) = m := by omega
    rw [hab] at *
    omega

theorem rest_any (bits n : Int) (w : World) : Calls Try.prog 27 #[.int .i64 bits, .int .i64 n] w fun e w' => e = .returned (.int .i64 (n % mOf bits)) ∧ w = w' := by
  have hr := rest_eq bits n
  have hm : 0 < mOf bits ∧ mOf bits ≤ 4294967296 := by rcases mOf_cases bits with h | h <;> omega
  obtain ⟨r1, r2, h1, h2⟩ := hr
  by_cases hneg : n.tmod (mOf bits) < 0
  · have hs := r1 hneg
    clear r1 r2
    have b0 : decide (n.tmod (mOf bits) < 0) = true := decide_eq_true hneg
    go_enter Try.func27, Try.ntmps27
    go_wp2_with fail
    refine (Round_any bits _).mono ?_
    rintro e w1 ⟨rfl, rfl⟩
    go_wp2_with fail
    refine (Round_any bits _).mono ?_
    rintro e w1 ⟨rfl, rfl⟩
    go_wp2
    go_ret
    exact ⟨rfl, rfl⟩
  · have hs := r2 hneg
    clear r1 r2
    have b0 : decide (n.tmod (mOf bits) < 0) = false := decide_eq_false hneg
    go_enter Try.func27, Try.ntmps27
    go_wp2_with fail
    refine (Round_any bits _).mono ?_
    rintro e w1 ⟨rfl, rfl⟩
    go_wp2
    go_ret
    exact ⟨rfl, rfl⟩

theorem wrong_no {bits : Int} {xs : List Int} (hb : bits = 16 ∨ bits = 32) (h : xs.any (fun x => decide (mOf bits ≤ x)) = false) : wrong bits xs = 0 := by
  rcases hb with rfl | rfl
  · simp [mOf] at h
    have : (xs.any (fun x => decide (65536 ≤ x))) = false := by
      rw [List.any_eq_false]; intro x hx; simp; have := h x hx; omega
    simp [wrong, this]
  · simp [wrong]
theorem wrong_yes {bits : Int} {xs : List Int} {x : Int} (hx : ∀ x ∈ xs, 0 ≤ x ∧ x < 4294967296) (hb : bits = 16 ∨ bits = 32) (hm : x ∈ xs) (h : mOf bits ≤ x) : wrong bits xs = 6 := by
  rcases hb with rfl | rfl
  · exact wrong_hit hm (by simpa [mOf] using h)
  · have := hx x hm
    simp [mOf] at h
    omega

set_option maxHeartbeats 400000 in
theorem Check16 (B : Nat → Prop) (xs : List Int) (lv : Value) (w : World) (hv : SliceIn B w 1 lv xs.length (u32s xs)) (hx : ∀ x ∈ xs, 0 ≤ x ∧ x < 4294967296) (hl : xs.length ≤ 140737488355328) :
    Calls Try.prog 26 #[.int .i64 16, lv] w fun e w' => e = .returned (.int .i64 (wrong 16 xs)) ∧ Kept [] w w' := by
  obtain ⟨ao, cap, rfl⟩ := hv.form
  have HV := hid hv
  have HX := hid hx
  have HK := hid (Kept.refl [] w)
  have hm : mOf 16 = 65536 := rfl
  clear hv hx
  go_enter Try.func26, Try.ntmps26
  go_wp2
  go_loopw [5] (fun i wr => ∃ k : Nat, k ≤ xs.length ∧ i = .int .i64 k ∧ (xs.take k).any (fun x => decide (mOf 16 ≤ x)) = false ∧ Kept [] w wr) (fun i _ => xs.length - (intOf i).toNat)
  case atStart => exact ⟨0, Nat.zero_le _, rfl, by simp, Kept.refl _ _⟩
  case round =>
    obtain ⟨k, hk, rfl, hn, hkept⟩ := hrel
    have HN := hid hn
    have HK := hid hkept
    have HV := hid (HV.out.kept hkept (by simp))
    clear hn hkept
    by_cases hlt : k < xs.length
    · obtain ⟨b, off, hao, _, _, _, hc⟩ := HV.out.rows (by omega)
      subst hao
      have ck := hc k _ (u32s_get hlt)
      have hbd := HX.out _ (getD_mem hlt)
      have HT := hid (take_any_succ hlt (fun x => decide (mOf 16 ≤ x)))
      clear hc
      have HM := hid (getD_mem hlt)
      generalize xs.getD k 0 = x at *
      have hwx : IntKind.i64.wrap x = x := IntWalk.i64_in x (by omega)
      by_cases hbad : mOf 16 ≤ x
      · have HF := hid (wrong_yes HX.out (by simp) HM.out hbad)
        have b0 : decide (mOf 16 ≤ x) = true := decide_eq_true hbad
        go_wp2_with fail
        go_quiet ((go_at_call 28; exact quiet_same (Round_any _ _)))
        go_wp2
        go_ret
        rw [HF.out]
        exact ⟨rfl, HK.out.drewN _⟩
      · have b0 : decide (mOf 16 ≤ x) = false := decide_eq_false hbad
        go_wp2_with fail
        go_quiet ((go_at_call 28; exact quiet_same (Round_any _ _)))
        go_wp2
        go_roundw
        case rel => exact ⟨k + 1, by omega, by first | rfl | go_num, by rw [HT.out, HN.out, b0]; rfl, HK.out.drewN _⟩
        case measure => simp [intOf]; omega
    · obtain rfl : k = xs.length := by omega
      have HF := hid (wrong_no (bits := 16) (.inl rfl) (by have := HN.out; rwa [List.take_length] at this))
      go_wp2
      go_ret
      rw [HF.out]
      exact ⟨rfl, HK.out⟩

set_option maxHeartbeats 400000 in
theorem Check32 (B : Nat → Prop) (xs : List Int) (lv : Value) (w : World) (hv : SliceIn B w 1 lv xs.length (u32s xs)) (hx : ∀ x ∈ xs, 0 ≤ x ∧ x < 4294967296) (hl : xs.length ≤ 140737488355328) :
    Calls Try.prog 26 #[.int .i64 32, lv] w fun e w' => e = .returned (.int .i64 (wrong 32 xs)) ∧ Kept [] w w' := by
  obtain ⟨ao, cap, rfl⟩ := hv.form
  have HV := hid hv
  have HX := hid hx
  have HK := hid (Kept.refl [] w)
  have hm : mOf 32 = 4294967296 := rfl
  clear hv hx
  go_enter Try.func26, Try.ntmps26
  go_wp2
  go_loopw [5] (fun i wr => ∃ k : Nat, k ≤ xs.length ∧ i = .int .i64 k ∧ (xs.take k).any (fun x => decide (mOf 32 ≤ x)) = false ∧ Kept [] w wr) (fun i _ => xs.length - (intOf i).toNat)
  case atStart => exact ⟨0, Nat.zero_le _, rfl, by simp, Kept.refl _ _⟩
  case round =>
    obtain ⟨k, hk, rfl, hn, hkept⟩ := hrel
    have HN := hid hn
    have HK := hid hkept
    have HV := hid (HV.out.kept hkept (by simp))
    clear hn hkept
    by_cases hlt : k < xs.length
    · obtain ⟨b, off, hao, _, _, _, hc⟩ := HV.out.rows (by omega)
      subst hao
      have ck := hc k _ (u32s_get hlt)
      have hbd := HX.out _ (getD_mem hlt)
      have HT := hid (take_any_succ hlt (fun x => decide (mOf 32 ≤ x)))
      clear hc
      have HM := hid (getD_mem hlt)
      generalize xs.getD k 0 = x at *
      have hwx : IntKind.i64.wrap x = x := IntWalk.i64_in x (by omega)
      by_cases hbad : mOf 32 ≤ x
      · omega
      · have b0 : decide (mOf 32 ≤ x) = false := decide_eq_false hbad
        go_wp2_with fail
        go_quiet ((go_at_call 28; exact quiet_same (Round_any _ _)))
        go_wp2
        go_roundw
        case rel => exact ⟨k + 1, by omega, by first | rfl | go_num, by rw [HT.out, HN.out, b0]; rfl, HK.out.drewN _⟩
        case measure => simp [intOf]; omega
    · obtain rfl : k = xs.length := by omega
      have HF := hid (wrong_no (bits := 32) (.inr rfl) (by have := HN.out; rwa [List.take_length] at this))
      go_wp2
      go_ret
      rw [HF.out]
      exact ⟨rfl, HK.out⟩

theorem Check_any (B : Nat → Prop) (bits : Int) (xs : List Int) (lv : Value) (w : World) (hv : SliceIn B w 1 lv xs.length (u32s xs)) (hx : ∀ x ∈ xs, 0 ≤ x ∧ x < 4294967296) (hl : xs.length ≤ 140737488355328) :
    Calls Try.prog 26 #[.int .i64 bits, lv] w fun e w' => e = .returned (.int .i64 (wrong bits xs)) ∧ Kept [] w w' := by
  by_cases h0 : bits = 16
  · subst h0; exact Check16 B xs lv w hv hx hl
  by_cases h1 : bits = 32
  · subst h1; exact Check32 B xs lv w hv hx hl
  obtain ⟨ao, cap, rfl⟩ := hv.form
  have hF : wrong bits xs = 2 := by simp [wrong, h0, h1]
  have HF := hid hF
  have b0 : (bits != 16) = true := by rw [bne_iff_ne]; omega
  have b1 : (bits != 32) = true := by rw [bne_iff_ne]; omega
  have HK := hid (Kept.refl [] w)
  clear hF hv hx h0 h1
  go_enter Try.func26, Try.ntmps26
  go_wp2
  go_ret
  rw [HF.out]
  exact ⟨rfl, HK.out⟩


/-! ### How far one number is ahead of another -/
def aheadBy (bits a b : Int) : Int := if mOf bits / 2 ≤ (b - a) % mOf bits then (b - a) % mOf bits - mOf bits else (b - a) % mOf bits

def Two (bits a b : Int) (w : World) (r : Int) (e : Ending) (w' : World) : Prop :=
  e = .returned (.tuple #[.int .i64 (if wrong bits [a, b] = 0 then r else 0), .int .i64 (wrong bits [a, b])]) ∧ Kept [] w w'

theorem two_in (w : World) (a b : Int) (t : TypeId) : SliceIn (w.heap.size ≤ ·) (w.alloc (.cells #[.int .u32 a, .int .u32 b] t)) 1 (.slice (some ⟨w.heap.size, 0, none⟩) 2 2) 2 (u32s [a, b]) :=
  ⟨rfl, .inr ⟨w.heap.size, 0, 2, rfl, Nat.le_refl _, Nat.le_refl _, by simp, fun j u hu => by
    rw [Nat.zero_add, blk_cell (blk_new w _)]
    match j, hu with
    | 0, hu => simpa [u32s] using hu
    | 1, hu => simpa [u32s] using hu
    | j + 2, hu => simp [u32s] at hu⟩⟩

theorem one_in (w : World) (a : Int) (t : TypeId) : SliceIn (w.heap.size ≤ ·) (w.alloc (.cells #[.int .u32 a] t)) 1 (.slice (some ⟨w.heap.size, 0, none⟩) 1 1) 1 (u32s [a]) :=
  ⟨rfl, .inr ⟨w.heap.size, 0, 1, rfl, Nat.le_refl _, Nat.le_refl _, by simp, fun j u hu => by
    rw [Nat.zero_add, blk_cell (blk_new w _)]
    match j, hu with
    | 0, hu => simpa [u32s] using hu
    | j + 1, hu => simp [u32s] at hu⟩⟩

set_option maxHeartbeats 400000 in
theorem RefAhead_any (bits a b : Int) (w : World) (ha : 0 ≤ a ∧ a < 4294967296) (hb : 0 ≤ b ∧ b < 4294967296) :
    Calls Try.prog 13 #[.int .i64 bits, .int .u32 a, .int .u32 b] w (Two bits a b w (aheadBy bits a b)) := by
  have hx : ∀ x ∈ [a, b], 0 ≤ x ∧ x < 4294967296 := by intro x hx; simp at hx; rcases hx with rfl | rfl <;> assumption
  have hC := Check_any _ bits [a, b] _ _ (two_in w a b 22) hx (by simp)
  have HX := hid (fun (h0 : ¬ wrong bits [a, b] = 0) w' (hk : Kept [] w w') => show Two bits a b w (aheadBy bits a b) (.returned (.tuple #[.int .i64 0, .int .i64 (wrong bits [a, b])])) w' from
    ⟨by simp [h0], hk⟩)
  have HY := hid (fun (h0 : wrong bits [a, b] = 0) w' (hk : Kept [] w w') => show Two bits a b w (aheadBy bits a b) (.returned (.tuple #[.int .i64 (aheadBy bits a b), .int .i64 0])) w' from
    ⟨by simp [h0], hk⟩)
  have HA := hid ((Kept.refl [] w).alloc (.cells #[.int .u32 a, .int .u32 b] 22))
  have HC := hid hC
  clear hC hx
  go_enter Try.func13, Try.ntmps13
  go_wp2_with fail
  refine HC.out.mono ?_
  rintro e w1 ⟨rfl, hk⟩
  have HK := hid (HA.out.tr hk)
  clear hk
  by_cases h0 : wrong bits [a, b] = 0
  · have b0 : (wrong bits [a, b] != 0) = false := by simp [h0]
    have hwa : IntKind.i64.wrap a = a := IntWalk.i64_in a (by omega)
    have hwb : IntKind.i64.wrap b = b := IntWalk.i64_in b (by omega)
    have HW := hid h0
    have hm : 0 < mOf bits ∧ mOf bits ≤ 4294967296 := by rcases mOf_cases bits with h | h <;> omega
    have hr0 := Int.emod_nonneg (b - a) (show mOf bits ≠ 0 by omega)
    have hr1 := Int.emod_lt_of_pos (b - a) hm.1
    have hq : (mOf bits).tdiv 2 = mOf bits / 2 := Int.tdiv_eq_ediv_of_nonneg (by omega)
    clear h0
    go_wp2_with fail
    refine (rest_any bits (b - a) _).mono ?_
    rintro e w2 ⟨rfl, rfl⟩
    by_cases hge : mOf bits / 2 ≤ (b - a) % mOf bits
    · have b1 : decide (mOf bits / 2 ≤ (b - a) % mOf bits) = true := decide_eq_true hge
      have HE := hid (show aheadBy bits a b = (b - a) % mOf bits - mOf bits from by simp [aheadBy, hge])
      generalize (b - a) % mOf bits = r at *
      go_wp2_with fail
      refine (Round_any bits _).mono ?_
      rintro e w2 ⟨rfl, rfl⟩
      go_wp2_with fail
      refine (Round_any bits _).mono ?_
      rintro e w2 ⟨rfl, rfl⟩
      go_wp2
      go_ret2
      rw [← HE.out]
      exact HY.out HW.out _ HK.out
    · have b1 : decide (mOf bits / 2 ≤ (b - a) % mOf bits) = false := decide_eq_false hge
      have HE := hid (show aheadBy bits a b = (b - a) % mOf bits from by simp [aheadBy, hge])
      generalize (b - a) % mOf bits = r at *
      go_wp2_with fail
      refine (Round_any bits _).mono ?_
      rintro e w2 ⟨rfl, rfl⟩
      go_wp2
      go_ret2
      rw [← HE.out]
      exact HY.out HW.out _ HK.out
  · have b0 : (wrong bits [a, b] != 0) = true := by simp [h0]
    have HW := hid h0
    clear h0
    go_wp2
    go_ret2
    exact HX.out HW.out _ HK.out

theorem ahead_i16 (a b : Int) : wrap64 (IntKind.i16.wrap ((b - a) % 4294967296)) = aheadBy 16 a b := by
  have hm : mOf 16 = 65536 := rfl
  simp only [aheadBy, hm, IntKind.wrap, wrap64]
  split <;> simp_all [IntKind.signed, IntKind.bits] <;> omega
theorem ahead_i32 (bits a b : Int) (h : bits ≠ 16) : wrap64 (wrap32 ((b - a) % 4294967296)) = aheadBy bits a b := by
  have hm : mOf bits = 4294967296 := by simp [mOf, h]
  simp only [aheadBy, hm, wrap32, wrap64]
  split <;> omega

set_option maxHeartbeats 400000 in
theorem Ahead_any (bits a b : Int) (w : World) (ha : 0 ≤ a ∧ a < 4294967296) (hb : 0 ≤ b ∧ b < 4294967296) :
    Calls Try.prog 12 #[.int .i64 bits, .int .u32 a, .int .u32 b] w (Two bits a b w (aheadBy bits a b)) := by
  have hx : ∀ x ∈ [a, b], 0 ≤ x ∧ x < 4294967296 := by intro x hx; simp at hx; rcases hx with rfl | rfl <;> assumption
  have hC := right_any _ bits [a, b] _ _ (two_in w a b 22) hx (by simp)
  have HX := hid (fun (h0 : ¬ wrong bits [a, b] = 0) w' (hk : Kept [] w w') => show Two bits a b w (aheadBy bits a b) (.returned (.tuple #[.int .i64 0, .int .i64 (wrong bits [a, b])])) w' from
    ⟨by simp [h0], hk⟩)
  have HY := hid (fun (h0 : wrong bits [a, b] = 0) w' (hk : Kept [] w w') => show Two bits a b w (aheadBy bits a b) (.returned (.tuple #[.int .i64 (aheadBy bits a b), .int .i64 0])) w' from
    ⟨by simp [h0], hk⟩)
  have HA := hid ((Kept.refl [] w).alloc (.cells #[.int .u32 a, .int .u32 b] 22))
  have HC := hid hC
  clear hC hx
  go_enter Try.func12, Try.ntmps12
  go_wp2_with fail
  refine HC.out.mono ?_
  rintro e w1 ⟨rfl, rfl⟩
  by_cases h0 : wrong bits [a, b] = 0
  · have b0 : (wrong bits [a, b] != 0) = false := by simp [h0]
    have HW := hid h0
    by_cases h16 : bits = 16
    · subst h16
      clear h0
      have HE := hid (ahead_i16 a b)
      go_wp2
      go_ret2
      rw [HE.out]
      exact HY.out HW.out _ HA.out
    · have b1 : (bits == 16) = false := beq_eq_false_iff_ne.2 h16
      clear h0
      have HE := hid (ahead_i32 bits a b h16)
      clear h16
      go_wp2
      go_ret2
      rw [HE.out]
      exact HY.out HW.out _ HA.out
  · have b0 : (wrong bits [a, b] != 0) = true := by simp [h0]
    have HW := hid h0
    clear h0
    go_wp2
    go_ret2
    exact HX.out HW.out _ HA.out

end Go.Proofs.Ytomdbdliniiffaa
