/-
  Same, SameBlocks.
-/
import Derived.Test.YthdcodjdecnniaaBlk
namespace Go.Proofs.Ythdcodjdecnniaa
open Go.RowKit

@[go_sem] theorem eqIn40 (w : World) (a b c d : Int) : (Op.equalIn 10000 40 (.agg #[.int .u16 a, .int .u16 b]) (.agg #[.int .u16 c, .int .u16 d])).run Try.prog w = .ok ([a, b] == [c, d]) w :=
  run_equalIn_ints w 9998 40 39 .u16 2 Try.underlying40 Try.underlying39 (by intro w; kernel_rfl) [a, b] [c, d] rfl rfl

/-- Two slices of numbers: are they the same? -/
theorem Same_any {B C : Nat → Prop} {w : World} {va vb : Value} {xs ys : List Int} (ha : SliceIn B w 1 va xs.length (u32s xs)) (hb : SliceIn C w 1 vb ys.length (u32s ys)) (hl : xs.length ≤ 1000000) :
    Calls Try.prog 23 #[va, vb] w fun e w' => e = .returned (.bool (decide (xs = ys))) ∧ Kept [] w w' := by
  have HA := hid ha
  have HB := hid hb
  obtain ⟨ao, ac, rfl⟩ := ha.form
  obtain ⟨bo, bc, rfl⟩ := hb.form
  have HK := hid (Kept.refl [] w)
  clear ha hb
  by_cases hlen : xs.length = ys.length
  · have bl : ((xs.length : Int) != (ys.length : Int)) = false := by rw [hlen]; simp
    go_enter Try.func23, Try.ntmps23
    go_wp2_with fail
    go_loopw [5] (fun i wr => ∃ k : Nat, k ≤ xs.length ∧ i = .int .i64 k ∧ xs.take k = ys.take k ∧ Kept [] w wr) (fun i wr => xs.length - (intOf i).toNat)
    case atStart => exact ⟨0, Nat.zero_le _, rfl, by simp, HK.out⟩
    case round =>
      obtain ⟨k, hk, rfl, he, hkw⟩ := hrel
      have HE := hid he
      have HKW := hid hkw
      have HA' := hid (HA.out.kept hkw (fun _ _ _ => by simp))
      have HB' := hid (HB.out.kept hkw (fun _ _ _ => by simp))
      clear he hkw
      by_cases hlt : k < xs.length
      · obtain ⟨b1, o1, e1, _, _, _, hc1⟩ := HA'.out.rows (by omega)
        obtain ⟨b2, o2, e2, _, _, _, hc2⟩ := HB'.out.rows (by omega)
        subst e1 e2
        have c1 := hc1 k _ (u32s_get hlt)
        have c2 := hc2 k _ (u32s_get (by omega))
        have hlt2 : k < ys.length := by omega
        have HX := hid (show xs.getD k 0 = xs[k] from by simp [List.getD, hlt])
        have HY := hid (show ys.getD k 0 = ys[k] from by simp [List.getD, hlt2])
        clear hc1 hc2
        generalize hxz : xs.getD k 0 = x at *
        generalize hyz : ys.getD k 0 = y at *
        clear hxz hyz
        by_cases hxy : x = y
        · have bx : (x != y) = false := by simp [hxy]
          have HN := hid (show xs.take (k + 1) = ys.take (k + 1) from by
            rw [List.take_succ_eq_append_getElem hlt, List.take_succ_eq_append_getElem hlt2, HE.out, ← HX.out, ← HY.out, hxy])
          clear hxy
          go_wp2_with fail
          go_quiet (fail)
          go_wp2
          go_roundw
          case rel => exact ⟨k + 1, by omega, by go_num, HN.out, HKW.out.drewN _⟩
          case measure => simp [intOf]; omega
        · have bx : (x != y) = true := by simpa using hxy
          have HN := hid (show decide (xs = ys) = false from decide_eq_false (fun h => hxy (by rw [HX.out, HY.out]; subst h; rfl)))
          clear hxy
          go_wp2_with fail
          go_quiet (fail)
          go_wp2
          go_ret
          rw [HN.out]
          exact ⟨rfl, HKW.out.drewN _⟩
      · have HN := hid (show decide (xs = ys) = true from decide_eq_true (by
          have := HE.out
          rwa [List.take_of_length_le (by omega), List.take_of_length_le (by omega)] at this))
        go_wp2
        go_ret
        rw [HN.out]
        exact ⟨rfl, HKW.out⟩
  · have bl : ((xs.length : Int) != (ys.length : Int)) = true := by simpa using fun h => hlen (by omega)
    have HN := hid (show decide (xs = ys) = false from decide_eq_false (fun h => hlen (by rw [h])))
    clear hlen
    go_enter Try.func23, Try.ntmps23
    go_wp2
    go_ret
    rw [HN.out]
    exact ⟨rfl, HK.out⟩

theorem u16s_get {l : List (Int × Int)} {k : Nat} (h : k < l.length) : (u16s l)[2 * k]? = some (.int .u16 (l[k].1 % 65536)) ∧ (u16s l)[2 * k + 1]? = some (.int .u16 (l[k].2 % 65536)) := by
  induction l generalizing k with
  | nil => simp at h
  | cons r l ih =>
    have e : u16s (r :: l) = .int .u16 (r.1 % 65536) :: .int .u16 (r.2 % 65536) :: u16s l := rfl
    cases k with
    | zero => rw [e]; exact ⟨rfl, rfl⟩
    | succ k =>
      have := ih (k := k) (by simpa using h)
      rw [e, show 2 * (k + 1) = 2 * k + 1 + 1 by omega]
      simpa using this

/-- Two slices of runs, which are alike. -/
theorem SameB_any {B C : Nat → Prop} {w : World} {va vb : Value} {l : List (Int × Int)} (ha : SliceIn B w 2 va l.length (u16s l)) (hb : SliceIn C w 2 vb l.length (u16s l)) (hl : l.length ≤ 1000000) :
    Calls Try.prog 17 #[va, vb] w fun e w' => e = .returned (.bool true) ∧ Kept [] w w' := by
  have HA := hid ha
  have HB := hid hb
  obtain ⟨ao, ac, rfl⟩ := ha.form
  obtain ⟨bo, bc, rfl⟩ := hb.form
  have HK := hid (Kept.refl [] w)
  clear ha hb
  go_enter Try.func17, Try.ntmps17
  go_wp2_with fail
  go_loopw [5] (fun i wr => ∃ k : Nat, k ≤ l.length ∧ i = .int .i64 k ∧ Kept [] w wr) (fun i wr => l.length - (intOf i).toNat)
  case atStart => exact ⟨0, Nat.zero_le _, rfl, HK.out⟩
  case round =>
    obtain ⟨k, hk, rfl, hkw⟩ := hrel
    have HKW := hid hkw
    have HA' := hid (HA.out.kept hkw (fun _ _ _ => by simp))
    have HB' := hid (HB.out.kept hkw (fun _ _ _ => by simp))
    clear hkw
    by_cases hlt : k < l.length
    · obtain ⟨b1, o1, e1, _, _, _, hc1⟩ := HA'.out.rows (by omega)
      obtain ⟨b2, o2, e2, _, _, _, hc2⟩ := HB'.out.rows (by omega)
      subst e1 e2
      obtain ⟨g0, g1⟩ := u16s_get hlt
      have c1 := hc1 _ _ g0
      have c1' := hc1 _ _ g1
      have c2 := hc2 _ _ g0
      have c2' := hc2 _ _ g1
      rw [Nat.mul_comm 2 k] at c1 c1' c2 c2'
      have eo1 : o1 + (k * 2 + 1) = o1 + k * 2 + 1 := by omega
      have eo2 : o2 + (k * 2 + 1) = o2 + k * 2 + 1 := by omega
      rw [eo1] at c1'
      rw [eo2] at c2'
      clear hc1 hc2 g0 g1 eo1 eo2
      generalize l[k].1 % 65536 = x at *
      generalize l[k].2 % 65536 = y at *
      have bx : ([x, y] == [x, y]) = true := by simp
      go_wp2_with fail
      go_quiet (fail)
      go_wp2
      go_roundw
      case rel => exact ⟨k + 1, by omega, by go_num, HKW.out.drewN _⟩
      case measure => simp [intOf]; omega
    · go_wp2
      go_ret
      exact ⟨rfl, HKW.out⟩

end Go.Proofs.Ythdcodjdecnniaa
