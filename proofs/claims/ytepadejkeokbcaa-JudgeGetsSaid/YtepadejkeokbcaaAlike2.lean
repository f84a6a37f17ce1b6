/-
  alike (the judge's and the reference's), Of, key.other: what they return.
-/
import Derived.Test.YtepadejkeokbcaaAlike
import Derived.Laws.Rows
namespace Go.Proofs.Ytepadejkeokbcaa
open Go.RowKit

theorem Try.underlying39 : Try.prog.underlying 39 = some (.slice 5) := by kernel_rfl
theorem Try.underlying5 : Try.prog.underlying 5 = some (.int .u8) := by kernel_rfl
theorem Try.underlying9 : Try.prog.underlying 9 = some .string := by kernel_rfl

/-- A []byte read as a string. -/
theorem conv_str {B : Nat → Prop} {w : World} {v : Value} {n : Nat} {xs : List Int} (h : SliceIn B w 1 v n (u8s xs)) : (convert 39 9 v).run Try.prog w = .ok (.string (strOfNums xs)) w := by
  have hn : xs.length = n := by have := h.1; simpa [u8s_length] using this
  rcases h.2 with ⟨h0, ao, cap, rfl, hc0⟩ | ⟨b, off, cap, rfl, _, _, _, hc⟩
  · obtain rfl : xs = [] := List.eq_nil_of_length_eq_zero (by omega)
    cases ao with
    | none => exact run_convert_bytes_nil w 39 5 Try.underlying39 Try.underlying5 0 _ 9 Try.underlying9
    | some ad =>
      rw [run_convert_bytes_string w 39 9 5 (some ad) 0 cap Try.underlying39 Try.underlying5 Try.underlying9, run_bytesToString w ad 0 cap [] (by simp [loadCells, loadCellsFrom])]
      rfl
  · refine run_convert_bytes_arg w 39 5 Try.underlying39 Try.underlying5 b off n cap xs hn (fun i hi => ?_) 9 Try.underlying9
    refine hc i _ ?_
    have : i < xs.length := by omega
    simp [u8s, List.getD, this]

theorem strOfNums_lists {xs ys : List Int} (hx : ∀ z ∈ xs, 0 ≤ z ∧ z ≤ 255) (hy : ∀ z ∈ ys, 0 ≤ z ∧ z ≤ 255) : ((strOfNums xs).toList == (strOfNums ys).toList) = decide (xs = ys) := by
  by_cases h : xs = ys
  · subst h
    simp
  · rw [decide_eq_false h, beq_eq_false_iff_ne]
    intro e
    rw [ByteArray.toList_eq, ByteArray.toList_eq] at e
    exact h (strOfNums_inj hx hy (by
      show strOfNums xs = strOfNums ys
      cases hq : strOfNums xs
      cases hq' : strOfNums ys
      rw [hq, hq'] at e
      simp at e
      rw [e]))

def Alikes (w : World) (a b : Msg) (e : Ending) (w' : World) : Prop := e = .returned (.bool (a.alike b)) ∧ Kept [] w w'

set_option maxHeartbeats 1000000 in
theorem alike_any {w : World} {a b : Msg} (ha : a.here w) (hb : b.here w) : Calls Try.prog 26 #[a.val, b.val] w (Alikes w a b) := by
  have HA := hid ha
  have HB := hid hb
  have HP := hid (show ∀ r w', r = a.alike b → Kept [] w w' → Alikes w a b (.returned (.bool r)) w' from fun r w' h k => ⟨by rw [h], k⟩)
  generalize Alikes w a b = Post at *
  obtain ⟨ao, ac, hv1⟩ := ha.data.form
  obtain ⟨bo, bc, hv2⟩ := hb.data.form
  obtain ⟨s1, n1, p1, f1, d1, v1⟩ := a
  obtain ⟨s2, n2, p2, f2, d2, v2⟩ := b
  simp only at hv1 hv2
  subst hv1 hv2
  have hk := ((Kept.refl [] w).alloc (.cells #[.int .u16 s1, .int .u16 n1, .int .u32 p1, .bool f1, .slice ao d1.length ac] 41)).alloc (.cells #[.int .u16 s2, .int .u16 n2, .int .u32 p2, .bool f2, .slice bo d2.length bc] 41)
  have HK := hid hk
  clear ha hb hk
  dsimp only [Msg.val]
  by_cases h1 : s1 = s2
  · by_cases h2 : p1 = p2
    · by_cases h3 : f1 = f2
      · have b1 : (s1 == s2) = true := by simpa using h1
        have b2 : (p1 == p2) = true := by simpa using h2
        have b3 : (f1 == f2) = true := by simpa using h3
        have HN := hid (show decide (d1 = d2) = Msg.alike ⟨s1, n1, p1, f1, d1, .slice ao d1.length ac⟩ ⟨s2, n2, p2, f2, d2, .slice bo d2.length bc⟩ from by simp [Msg.alike, b1, b2, b3])
        clear h1 h2 h3
        go_enter Try.func26, Try.ntmps26
        go_wp2_with fail
        refine (Equal_any (HA.out.kept HK.out).data (HB.out.kept HK.out).data HA.out.len).mono ?_
        rintro e w' ⟨rfl, hk'⟩
        have HK' := hid (HK.out.tr hk')
        clear hk'
        generalize decide (d1 = d2) = r at *
        go_wp2
        exact HP.out _ _ HN.out HK'.out
      · have b1 : (s1 == s2) = true := by simpa using h1
        have b2 : (p1 == p2) = true := by simpa using h2
        have b3 : (f1 == f2) = false := by simpa using h3
        have HN := hid (show false = Msg.alike ⟨s1, n1, p1, f1, d1, .slice ao d1.length ac⟩ ⟨s2, n2, p2, f2, d2, .slice bo d2.length bc⟩ from by simp [Msg.alike, b1, b2, b3])
        clear h1 h2 h3
        go_enter Try.func26, Try.ntmps26
        go_wp2_with fail
        exact HP.out _ _ HN.out HK.out
    · have b1 : (s1 == s2) = true := by simpa using h1
      have b2 : (p1 == p2) = false := by simpa using h2
      have HN := hid (show false = Msg.alike ⟨s1, n1, p1, f1, d1, .slice ao d1.length ac⟩ ⟨s2, n2, p2, f2, d2, .slice bo d2.length bc⟩ from by simp [Msg.alike, b1, b2])
      clear h1 h2
      go_enter Try.func26, Try.ntmps26
      go_wp2_with fail
      exact HP.out _ _ HN.out HK.out
  · have b1 : (s1 == s2) = false := by simpa using h1
    have HN := hid (show false = Msg.alike ⟨s1, n1, p1, f1, d1, .slice ao d1.length ac⟩ ⟨s2, n2, p2, f2, d2, .slice bo d2.length bc⟩ from by simp [Msg.alike, b1])
    clear h1
    go_enter Try.func26, Try.ntmps26
    go_wp2_with fail
    exact HP.out _ _ HN.out HK.out

set_option maxHeartbeats 1000000 in
theorem refalike_any {w : World} {a b : Msg} (ha : a.here w) (hb : b.here w) : Calls Try.prog 17 #[a.val, b.val] w (Alikes w a b) := by
  have HA := hid ha
  have HB := hid hb
  have HP := hid (show ∀ r w', r = a.alike b → Kept [] w w' → Alikes w a b (.returned (.bool r)) w' from fun r w' h k => ⟨by rw [h], k⟩)
  generalize Alikes w a b = Post at *
  obtain ⟨ao, ac, hv1⟩ := ha.data.form
  obtain ⟨bo, bc, hv2⟩ := hb.data.form
  obtain ⟨s1, n1, p1, f1, d1, v1⟩ := a
  obtain ⟨s2, n2, p2, f2, d2, v2⟩ := b
  simp only at hv1 hv2
  subst hv1 hv2
  have hk := ((Kept.refl [] w).alloc (.cells #[.int .u16 s1, .int .u16 n1, .int .u32 p1, .bool f1, .slice ao d1.length ac] 41)).alloc (.cells #[.int .u16 s2, .int .u16 n2, .int .u32 p2, .bool f2, .slice bo d2.length bc] 41)
  have HK := hid hk
  clear ha hb hk
  dsimp only [Msg.val]
  by_cases h1 : s1 = s2
  · by_cases h2 : p1 = p2
    · by_cases h3 : f1 = f2
      · have b1 : (s1 == s2) = true := by simpa using h1
        have b2 : (p1 == p2) = true := by simpa using h2
        have b3 : (f1 == f2) = true := by simpa using h3
        have HN := hid (show decide (d1 = d2) = Msg.alike ⟨s1, n1, p1, f1, d1, .slice ao d1.length ac⟩ ⟨s2, n2, p2, f2, d2, .slice bo d2.length bc⟩ from by simp [Msg.alike, b1, b2, b3])
        clear h1 h2 h3
        have hc1 := conv_str (HA.out.kept HK.out).data
        have hc2 := conv_str (HB.out.kept HK.out).data
        have hbq := strOfNums_lists HA.out.bytes HB.out.bytes
        dsimp only at hc1 hc2 hbq
        generalize decide (d1 = d2) = r at *
        go_enter Try.func17, Try.ntmps17
        go_wp2_with fail
        exact HP.out _ _ HN.out HK.out
      · have b1 : (s1 == s2) = true := by simpa using h1
        have b2 : (p1 == p2) = true := by simpa using h2
        have b3 : (f1 == f2) = false := by simpa using h3
        have HN := hid (show false = Msg.alike ⟨s1, n1, p1, f1, d1, .slice ao d1.length ac⟩ ⟨s2, n2, p2, f2, d2, .slice bo d2.length bc⟩ from by simp [Msg.alike, b1, b2, b3])
        clear h1 h2 h3
        go_enter Try.func17, Try.ntmps17
        go_wp2_with fail
        exact HP.out _ _ HN.out HK.out
    · have b1 : (s1 == s2) = true := by simpa using h1
      have b2 : (p1 == p2) = false := by simpa using h2
      have HN := hid (show false = Msg.alike ⟨s1, n1, p1, f1, d1, .slice ao d1.length ac⟩ ⟨s2, n2, p2, f2, d2, .slice bo d2.length bc⟩ from by simp [Msg.alike, b1, b2])
      clear h1 h2
      go_enter Try.func17, Try.ntmps17
      go_wp2_with fail
      exact HP.out _ _ HN.out HK.out
  · have b1 : (s1 == s2) = false := by simpa using h1
    have HN := hid (show false = Msg.alike ⟨s1, n1, p1, f1, d1, .slice ao d1.length ac⟩ ⟨s2, n2, p2, f2, d2, .slice bo d2.length bc⟩ from by simp [Msg.alike, b1])
    clear h1
    go_enter Try.func17, Try.ntmps17
    go_wp2_with fail
    exact HP.out _ _ HN.out HK.out


def Mark.of (m : Mark) (k : Key) : Bool := m.host == k.host && m.own == k.own && m.peer == k.peer
theorem Mark.of_iff (m : Mark) (k : Key) : m.of k = true ↔ m.key = k := by
  obtain ⟨h, o, p⟩ := k
  simp [Mark.of, Mark.key, and_assoc]

def Ofs (w : World) (m : Mark) (k : Key) (e : Ending) (w' : World) : Prop := e = .returned (.bool (m.of k)) ∧ Kept [] w w'

set_option maxHeartbeats 1000000 in
theorem of_any (w : World) (m : Mark) (k : Key) : Calls Try.prog 16 #[m.val, .int .i64 k.host, .int .u32 k.own, .int .u32 k.peer] w (Ofs w m k) := by
  have HP := hid (show ∀ r w', r = m.of k → Kept [] w w' → Ofs w m k (.returned (.bool r)) w' from fun r w' h k => ⟨by rw [h], k⟩)
  generalize Ofs w m k = Post at *
  obtain ⟨h2, o2, p2⟩ := k
  obtain ⟨is, h1, o1, p1, ms, nt⟩ := m
  dsimp only [Mark.val]
  have HK := hid ((Kept.refl [] w).alloc (.cells #[.int .i64 is, .int .i64 h1, .int .u32 o1, .int .u32 p1, .int .u16 ms.stream, .int .u16 ms.ssn, .int .u32 ms.ppid, .bool ms.free, ms.dv, .int .i64 nt] 44))
  by_cases e1 : h1 = h2
  · have b1 : (h1 == h2) = true := by simpa using e1
    by_cases e2 : o1 = o2
    · have b2 : (o1 == o2) = true := by simpa using e2
      have HN := hid (show (p1 == p2) = Mark.of ⟨is, h1, o1, p1, ms, nt⟩ ⟨h2, o2, p2⟩ from by simp [Mark.of, b1, b2])
      clear e1 e2
      go_enter Try.func16, Try.ntmps16
      go_wp2_with fail
      exact HP.out _ _ HN.out HK.out
    · have b2 : (o1 == o2) = false := by simpa using e2
      have HN := hid (show false = Mark.of ⟨is, h1, o1, p1, ms, nt⟩ ⟨h2, o2, p2⟩ from by simp [Mark.of, b2])
      clear e1 e2
      go_enter Try.func16, Try.ntmps16
      go_wp2_with fail
      exact HP.out _ _ HN.out HK.out
  · have b1 : (h1 == h2) = false := by simpa using e1
    have HN := hid (show false = Mark.of ⟨is, h1, o1, p1, ms, nt⟩ ⟨h2, o2, p2⟩ from by simp [Mark.of, b1])
    clear e1
    go_enter Try.func16, Try.ntmps16
    go_wp2_with fail
    exact HP.out _ _ HN.out HK.out

def Key.other (k : Key) : Key := ⟨1 - k.host, k.peer, k.own⟩

set_option maxHeartbeats 1000000 in
theorem other_any (w : World) (k : Key) (hk : 0 ≤ k.host ∧ k.host ≤ 1) : Calls Try.prog 25 #[k.val] w fun e w' => e = .returned k.other.val ∧ Kept [] w w' := by
  obtain ⟨h, o, p⟩ := k
  dsimp only at hk
  dsimp only [Key.val, Key.other]
  have HK := hid (show ∀ a b, Kept [] w (((w.alloc a).alloc b)) from fun a b => ((Kept.refl [] w).alloc a).alloc b)
  have hwr : IntKind.i64.wrap (1 - h) = 1 - h := IntWalk.i64_in _ (by omega)
  go_enter Try.func25, Try.ntmps25
  go_wp2_with fail
  obtain ⟨fs, u59, _⟩ := Try.struct59
  refine bodyPost_ret (results_cell_row (p := 2) (ty := 59) (by kernel_rfl) _ _ (w.heap.size + 1) 59 _ (0, 0) (.struct fs) rfl (heap_alloc2_new _ _ _) u59 rfl (by kernel_rfl)) rfl ⟨rfl, HK.out _ _⟩

end Go.Proofs.Ytepadejkeokbcaa
