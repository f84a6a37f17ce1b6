/-
  play, live.
-/
import Derived.Test.YthdcodjdecnniaaBoth
namespace Go.Proofs.Ythdcodjdecnniaa
open Go.RowKit

def deedV (d : Int × Bool) : List Value := [.int .i16 d.1, .bool d.2]
def deedsV (l : List (Int × Bool)) : List Value := l.flatMap deedV
theorem deeds_get {l : List (Int × Bool)} {k : Nat} (h : k < l.length) : (deedsV l)[2 * k]? = some (.int .i16 l[k].1) ∧ (deedsV l)[2 * k + 1]? = some (.bool l[k].2) := by
  induction l generalizing k with
  | nil => simp at h
  | cons r l ih =>
    have e : deedsV (r :: l) = .int .i16 r.1 :: .bool r.2 :: deedsV l := rfl
    cases k with
    | zero => rw [e]; exact ⟨rfl, rfl⟩
    | succ k =>
      have := ih (k := k) (by simpa using h)
      rw [e, show 2 * (k + 1) = 2 * k + 1 + 1 by omega]
      simpa using this

def T.plays (first : Int) (ds : List (Int × Bool)) : T := ds.foldl (fun t d => t.deed first d.1 d.2) (T.new first)
theorem T.plays_snoc (first : Int) (ds : List (Int × Bool)) (d : Int × Bool) : T.plays first (ds ++ [d]) = (T.plays first ds).deed first d.1 d.2 := by simp [T.plays]

/-- A pair that was made since w. -/
def Fresh (w : World) (x y : Nat) (t : T) (w' : World) : Prop :=
  ∃ o B, Pair B w' x y o t ∧ w.heap.size ≤ x ∧ w.heap.size ≤ y ∧ (∀ k, o = some k → w.heap.size ≤ k) ∧ (∀ b, B b → w.heap.size ≤ b) ∧ Kept [] w w'

def Played (w : World) (t : T) (e : Ending) (w' : World) : Prop :=
  ∃ x y, e = .returned (.tuple #[.pointer (some ⟨x, 0, none⟩), .pointer (some ⟨y, 0, none⟩), .bool true]) ∧ Fresh w x y t w'

theorem Fresh.done {w w1 w2 : World} {x y : Nat} {t' : T} {o : Option Nat} {B : Nat → Prop} {e : Ending} (hk : Kept [] w w1) (hx : w.heap.size ≤ x) (hy : w.heap.size ≤ y) (ho : ∀ k, o = some k → w.heap.size ≤ k) (hB : ∀ b, B b → w.heap.size ≤ b)
    (h : Done B w1 x y o t' e w2) : e = .returned (.bool true) ∧ Fresh w x y t' w2 := by
  obtain ⟨he, o', B', h1, h2, h3, h4⟩ := h
  refine ⟨he, o', B', h1, hx, hy, fun k hk' => ?_, fun b hb => ?_, hk.trans h2 (fun z hz => ?_)⟩
  · rcases h3 k hk' with h | h
    · exact ho k h
    · exact Nat.le_trans hk.size h
  · rcases h4 b hb with h | h
    · exact hB b h
    · exact Nat.le_trans hk.size h
  · simp at hz
    rcases hz with rfl | rfl | hz
    · exact .inr hx
    · exact .inr hy
    · exact .inr (ho z hz)

set_option maxHeartbeats 1000000 in
theorem play_any {C : Nat → Prop} {w : World} {first : Int} {lv : Value} {ds : List (Int × Bool)} (hl : SliceIn C w 2 lv ds.length (deedsV ds)) (hf : 0 ≤ first ∧ first < 4294967296) :
    Calls Try.prog 11 #[.int .u32 first, lv] w (Played w (T.plays first (ds.take 300))) := by
  have HL := hid hl
  obtain ⟨ao, cap, rfl⟩ := hl.form
  clear hl
  go_enter Try.func11, Try.ntmps11
  go_wp2_with fail
  refine (New_any first _).mono ?_
  rintro e w1 ⟨rfl, ht, hk1⟩
  have HT := hid ht
  have HK1 := hid hk1
  clear ht hk1
  go_wp2_with fail
  refine (RefNew_any first _).mono ?_
  rintro e w2 ⟨rfl, hr, hk2⟩
  have hx1 := HT.out.lt
  have hy2 := hr.lt
  have HP := hid (show Fresh w w.heap.size w1.heap.size (T.new first) w2 from
    ⟨none, fun _ => False, ⟨HT.out.kept hk2 (by simp) (by simp), hr, by omega, id, by simp, by simp⟩, Nat.le_refl _, by have := HK1.out.size; omega, by simp, fun _ h => h.elim, HK1.out.tr hk2⟩)
  have hz2 := HK1.out.size
  clear hr hk2
  have HP' := hid HP.out
  obtain ⟨o, B, p1, _, _, _, _, p6⟩ := HP.out
  have HS := hid p1
  have HK2 := hid p6
  clear p1 p6
  go_wp2_with fail
  refine (same_any HS.out hf).mono ?_
  rintro e w3 ⟨rfl, hk3⟩
  have HP3 := hid (show Fresh w w.heap.size w1.heap.size (T.new first) w3 from by
    obtain ⟨o, B, p1, p2, p3, p4, p5, p6⟩ := HP'.out
    exact ⟨o, B, p1.kept0 hk3, p2, p3, p4, p5, p6.tr0 hk3⟩)
  clear hk3
  generalize hyy : w1.heap.size = y at *
  clear hyy
  go_wp2_with fail
  go_loopw [9] (fun i wr => ∃ k : Nat, k ≤ ds.length ∧ k ≤ 300 ∧ i = .int .i64 k ∧ Fresh w w.heap.size y (T.plays first (ds.take k)) wr) (fun i wr => 300 - (intOf i).toNat)
  case atStart => exact ⟨0, Nat.zero_le _, by omega, rfl, HP3.out⟩
  case round =>
    obtain ⟨k, hk, hk300, rfl, hfr⟩ := hrel
    have HFR := hid hfr
    obtain ⟨o, B, p1, p2, p3, p4, p5, p6⟩ := hfr
    have HQ1 := hid p1
    have HQ4 := hid p4
    have HQ5 := hid p5
    have HQ6 := hid p6
    clear p1 p2 p4 p5 p6
    by_cases hlt : k < ds.length
    · by_cases hlt3 : k < 300
      · have b3 : decide ((k : Int) < 300) = true := decide_eq_true (by omega)
        obtain ⟨b, off, hao, _, _, _, hc⟩ := (HL.out.kept HQ6.out (fun _ _ _ => by simp)).rows (by omega)
        subst hao
        obtain ⟨g0, g1⟩ := deeds_get hlt
        have c1 := hc _ _ g0
        have c1' := hc _ _ g1
        rw [Nat.mul_comm 2 k] at c1 c1'
        have eo1 : off + (k * 2 + 1) = off + k * 2 + 1 := by omega
        rw [eo1] at c1'
        have HDD := hid (show T.plays first (ds.take (k + 1)) = (T.plays first (ds.take k)).deed first ds[k].1 ds[k].2 from by
          rw [List.take_succ_eq_append_getElem hlt, T.plays_snoc])
        clear hc g0 g1 eo1
        generalize ds[k].1 = db at *
        generalize ds[k].2 = da at *
        go_wp2_with fail
        refine (do_any HQ1.out).mono ?_
        intro e w4 hdone
        obtain ⟨rfl, hfr4⟩ := Fresh.done HQ6.out (Nat.le_refl _) p3 HQ4.out HQ5.out hdone
        have HF4 := hid hfr4
        clear hdone hfr4
        go_wp2
        go_roundw
        case rel => exact ⟨k + 1, by omega, by omega, by go_num, by rw [HDD.out]; exact HF4.out⟩
        case measure => simp [intOf]; omega
      · have b3 : decide ((k : Int) < 300) = false := decide_eq_false (by omega)
        have HF := hid (show Played w (T.plays first (ds.take 300)) (.returned (.tuple #[.pointer (some ⟨w.heap.size, 0, none⟩), .pointer (some ⟨y, 0, none⟩), .bool true])) wr from by
          have : k = 300 := by omega
          subst this
          exact ⟨_, _, rfl, HFR.out⟩)
        go_wp2
        go_ret3
        exact HF.out
    · have HF := hid (show Played w (T.plays first (ds.take 300)) (.returned (.tuple #[.pointer (some ⟨w.heap.size, 0, none⟩), .pointer (some ⟨y, 0, none⟩), .bool true])) wr from by
          have : k = ds.length := by omega
          subst this
          have := HFR.out
          rw [List.take_length] at this
          rw [List.take_of_length_le hk300]
          exact ⟨_, _, rfl, this⟩)
      go_wp2
      go_ret3
      exact HF.out

end Go.Proofs.Ythdcodjdecnniaa
