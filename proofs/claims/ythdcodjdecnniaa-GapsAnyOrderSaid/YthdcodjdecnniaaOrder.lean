/-
  The law GapsAnyOrder: what it returns.
-/
import Derived.Test.YthdcodjdecnniaaTwo
namespace Go.Proofs.Ythdcodjdecnniaa
open Go.RowKit

def u8s (xs : List Int) : List Value := xs.map (Value.int .u8)
theorem u8s_get {xs : List Int} {k : Nat} (h : k < xs.length) : (u8s xs)[k]? = some (.int .u8 (xs.getD k 0)) := by simp [u8s, List.getD, h]

/-- The place that is taken j-th. -/
def turned (n : Nat) (tr : Int) (j : Nat) : Nat := (((n : Int) - 1 - j + tr) % n).toNat
theorem turned_lt {n : Nat} (tr : Int) (j : Nat) (h : 0 < n) : turned n tr j < n := by
  have := Int.emod_lt_of_pos ((n : Int) - 1 - j + tr) (show (0 : Int) < n by omega)
  have := Int.emod_nonneg ((n : Int) - 1 - j + tr) (show (n : Int) ≠ 0 by omega)
  unfold turned; omega
theorem turned_eq {n : Nat} (tr : Int) (j : Nat) (h : 0 < n) : ((turned n tr j : Nat) : Int) = ((n : Int) - 1 - j + tr) % n := by
  have := Int.emod_nonneg ((n : Int) - 1 - j + tr) (show (n : Int) ≠ 0 by omega)
  unfold turned; omega
theorem turned_all {n : Nat} (tr : Int) {m : Nat} (h : m < n) : ∃ j, j < n ∧ turned n tr j = m := by
  have hn : 0 < n := by omega
  refine ⟨turned n tr m, turned_lt tr m hn, ?_⟩
  have e1 := turned_eq tr m hn
  have e2 := turned_eq tr (turned n tr m) hn
  rw [e1] at e2
  have e3 := Int.emod_add_mul_ediv ((n : Int) - 1 - m + tr) n
  generalize (((n : Int) - 1 - m + tr) / n) = q at e3
  have e4 : (n : Int) - 1 - ((n : Int) - 1 - m + tr) % n + tr = m + n * q := by omega
  rw [e4, Int.add_mul_emod_self_left, Int.emod_eq_of_lt (by omega) (by omega)] at e2
  omega

def other (xs : List Int) (n : Nat) (tr : Int) (k : Nat) : List Int := (List.range k).map fun j => xs.getD (turned n tr j) 0

theorem other_all {xs : List Int} {n : Nat} {tr : Int} (hn : n ≤ xs.length) (a : Int) : a ∈ other xs n tr n ↔ a ∈ xs.take n := by
  rw [other, List.mem_map]
  constructor
  · rintro ⟨j, hj, rfl⟩
    have hj : j < n := by simpa using hj
    have ht := turned_lt tr j (show 0 < n by omega)
    rw [List.mem_take_iff_getElem]
    exact ⟨turned n tr j, by omega, by simp [List.getD, show turned n tr j < xs.length by omega]⟩
  · intro h
    obtain ⟨m, hm, rfl⟩ := List.mem_take_iff_getElem.1 h
    obtain ⟨j, hj, e⟩ := turned_all tr (show m < n by omega)
    exact ⟨j, by simpa using hj, by rw [e]; simp [List.getD, show m < xs.length by omega]⟩

/-- Where the loop stands. -/
def Stood (w0 : World) (y : Nat) (first : Int) (xs : List Int) (n : Nat) (tr : Int) (k : Nat) (wr : World) : Prop :=
  ∃ t s c c', Duo w0 wr w0.heap.size y t s ∧ Inv first (xs.take k) c t ∧ Inv first (other xs n tr k) c' s

set_option maxHeartbeats 1000000 in
theorem order_any {C : Nat → Prop} {w : World} {first tr : Int} {lv : Value} {xs : List Int} (hl : SliceIn C w 1 lv xs.length (u8s xs)) (hx : ∀ z ∈ xs, 0 ≤ z ∧ z ≤ 255) (ht : 0 ≤ tr ∧ tr ≤ 255) :
    Calls Try.prog 4 #[.int .u32 first, lv, .int .u8 tr] w fun e w' => e = .returned (.bool true) ∧ Kept [] w w' := by
  have HL := hid hl
  have HX := hid hx
  obtain ⟨ao, cap, rfl⟩ := hl.form
  clear hl hx
  go_enter Try.func4, Try.ntmps4
  go_wp2_with fail
  refine (New_any first _).mono ?_
  rintro e w1 ⟨rfl, ht1, hk1⟩
  have HT1 := hid ht1
  have HK1 := hid hk1
  clear ht1 hk1
  go_wp2_with fail
  refine (New_any first _).mono ?_
  rintro e w2 ⟨rfl, ht2, hk2⟩
  have HD := hid (duo_new HT1.out HK1.out ht2 hk2)
  clear ht2 hk2
  generalize hyy : w1.heap.size = y at *
  clear hyy
  obtain ⟨n, hn, hn1, hn2⟩ : ∃ n : Nat, (n : Int) = min (xs.length : Int) 100 ∧ n ≤ xs.length ∧ n ≤ 100 := ⟨min xs.length 100, by omega, by omega, by omega⟩
  have HS0 := hid (show Stood w y first xs n tr 0 w2 from ⟨_, _, 0, 0, HD.out, by simpa using Inv.new first, by simpa [other] using Inv.new first⟩)
  go_wp2_with fail
  all_goals
    first
    | rw [show Value.int .i64 (100 : Int) = Value.int .i64 ((n : Nat) : Int) from by congr 1; omega]
    | rw [show Value.int .i64 ((xs.length : Nat) : Int) = Value.int .i64 ((n : Nat) : Int) from by congr 1; omega]
    clear hn
    go_loopw [10] (fun i wr => ∃ k : Nat, k ≤ n ∧ i = .int .i64 k ∧ Stood w y first xs n tr k wr) (fun i wr => n - (intOf i).toNat)
    case atStart => exact ⟨0, Nat.zero_le _, rfl, HS0.out⟩
    case round =>
      obtain ⟨k, hk, rfl, t, s, c, c', hd, hi1, hi2⟩ := hrel
      have HDD := hid hd
      have HI1 := hid hi1
      have HI2 := hid hi2
      have hkd := hd.kept
      clear hd hi1 hi2
      by_cases hlt : k < n
      · have hkx : k < xs.length := by omega
        have htl := turned_lt tr k (show 0 < n by omega)
        have hte := turned_eq tr k (show 0 < n by omega)
        have htx : turned n tr k < xs.length := by omega
        obtain ⟨b, off, hao, _, _, _, hc⟩ := (HL.out.kept hkd (fun _ _ _ => by simp)).rows (by omega)
        subst hao
        have c1 := hc k _ (u8s_get hkx)
        have z1 := HX.out _ (getD_mem hkx)
        have z2 := HX.out _ (getD_mem htx)
        have HHC := hid hc
        have HN1 := hid (show ∀ a, a ∈ xs.getD k 0 :: xs.take k ↔ a ∈ xs.take (k + 1) from fun a => by
          rw [List.take_succ_eq_append_getElem hkx, List.mem_cons, List.mem_append, List.mem_singleton]
          have e : xs.getD k 0 = xs[k] := by simp [List.getD, hkx]
          rw [e]
          exact ⟨Or.symm, Or.symm⟩)
        have HN2 := hid (show ∀ a, a ∈ xs.getD (turned n tr k) 0 :: other xs n tr k ↔ a ∈ other xs n tr (k + 1) from fun a => by
          rw [other, other, List.range_succ, List.map_append, List.mem_cons, List.mem_append, List.map_cons, List.map_nil, List.mem_singleton]
          exact ⟨Or.symm, Or.symm⟩)
        have hq : ((n : Int) - 1 - k + tr).tmod n = ((turned n tr k : Nat) : Int) := by
          rw [hte, Int.tmod_eq_emod_of_nonneg (by omega)]
        have hwd : IntKind.i64.wrap ((n : Int) - 1 - k + tr) = (n : Int) - 1 - k + tr := IntWalk.i64_in _ (by omega)
        clear hc hkd hte
        generalize hz1 : xs.getD k 0 = u at *
        generalize hz2 : xs.getD (turned n tr k) 0 = v at *
        have HZ2 := hid hz2
        generalize turned n tr k = q at *
        clear hz1
        go_wp2_with fail
        refine (HDD.out.add (n := (first + u) % 4294967296) (by omega)).mono ?_
        rintro e w3 ⟨rfl, hd3⟩
        have HD3 := hid hd3.swap
        have hk3 := hd3.kept
        have c2 := ((HL.out.kept hk3 (fun _ _ _ => by simp)).cell1 rfl) q _ (u8s_get htx)
        rw [HZ2.out] at c2
        clear hd3 hk3 c1
        go_wp2_with fail
        refine (HD3.out.add (n := (first + v) % 4294967296) (by omega)).mono ?_
        rintro e w4 ⟨rfl, hd4⟩
        have HF := hid (show Stood w y first xs n tr (k + 1) w4 from by
          obtain ⟨d1, j1⟩ := HI1.out.add (a := u) z1
          obtain ⟨d2, j2⟩ := HI2.out.add (a := v) z2
          exact ⟨_, _, d1, d2, hd4.swap, j1.congr HN1.out, j2.congr HN2.out⟩)
        clear hd4
        go_wp2
        go_roundw
        case rel => exact ⟨k + 1, by omega, by go_num, HF.out⟩
        case measure => simp [intOf]; omega
      · obtain rfl : k = n := by omega
        obtain ⟨e1, e2⟩ := HI1.out.one (HI2.out.congr (fun a => other_all hn1 a))
        have e3 : s.top = t.top := by rw [T.top, T.top, e1, e2]
        go_wp2_with fail
        refine (live_any _).mono ?_
        rintro e w3 ⟨rfl, hk3⟩
        have HA := hid (HDD.out.kept0 hk3)
        clear hk3 hkd
        go_wp2_with fail
        refine HA.out.cum.mono ?_
        rintro e w4 ⟨rfl, rfl⟩
        go_wp2_with fail
        refine HA.out.swap.cum.mono ?_
        rintro e w4 ⟨rfl, rfl⟩
        go_wp2_with fail
        refine HA.out.top.mono ?_
        rintro e w4 ⟨rfl, hd4⟩
        have HA := hid hd4
        clear hd4
        go_wp2_with fail
        refine HA.out.swap.top.mono ?_
        rintro e w5 ⟨rfl, hd5⟩
        have HA := hid hd5.swap
        clear hd5
        go_wp2_with fail
        refine HA.out.blocks.mono ?_
        rintro e w6 ⟨b1, rfl, hb1, hk6⟩
        have HA := hid (HA.out.kept0 hk6)
        have HB1 := hid (SliceIn.owned hb1)
        clear hb1 hk6
        go_wp2_with fail
        refine HA.out.swap.blocks.mono ?_
        rintro e w7 ⟨b2, rfl, hb2, hk7⟩
        have HK := hid (HA.out.kept0 hk7).kept
        have HB1 := hid (HB1.out.kept hk7 (fun _ _ _ => by simp))
        rw [e2] at hb2
        have HB2 := hid (SliceIn.owned hb2)
        clear hb2 hk7
        go_wp2_with fail
        refine (SameB_any HB1.out HB2.out (by simp [blocksOf]; omega)).mono ?_
        rintro e w8 ⟨rfl, hk8⟩
        have HK := hid (HK.out.tr hk8)
        clear hk8
        go_wp2
        go_ret
        exact ⟨rfl, HK.out⟩

end Go.Proofs.Ythdcodjdecnniaa
