/-
  The law SerialRuns: what it returns.
-/
import Derived.Test.YtomdbdliniiffaaLive
namespace Go.Proofs.Ytomdbdliniiffaa
open Go.RowKit

theorem laid_drop {m : Int} {l : List Int} {o : List (Int × Int)} {i s e : Nat} (hi : i < o.length) (h : Laid m l (o.drop i) s e) :
    ∃ c, 0 < c ∧ s + c ≤ e ∧ (∀ j : Nat, j < c → l[s + j]? = some ((o[i].1 + j) % m)) ∧ o[i].2 = (o[i].1 + (c - 1 : Nat)) % m ∧ Laid m l (o.drop (i + 1)) (s + c) e := by
  rw [List.drop_eq_getElem_cons hi] at h
  exact h

theorem runs_fst_from (m : Int) : ∀ (l : List Int) (o : List (Int × Int)) (p : Int × Int), p ∈ l.foldl (spanStep m) o → p.1 ∈ l ∨ ∃ q ∈ o, q.1 = p.1
  | [], o, p, h => .inr ⟨p, h, rfl⟩
  | x :: l, o, p, h => by
    rcases runs_fst_from m l (spanStep m o x) p h with h1 | ⟨q, hq, e⟩
    · exact .inl (List.mem_cons_of_mem _ h1)
    · by_cases ho : o = []
      · subst ho
        rw [span_nil] at hq
        simp only [List.mem_cons, List.not_mem_nil, or_false] at hq
        subst hq
        exact .inl (by rw [← e]; exact List.mem_cons_self)
      · obtain ⟨o', r, rfl⟩ := snoc_of ho
        by_cases hc : (r.2 + 1) % m = x
        · rw [span_more hc] at hq
          simp only [List.mem_append, List.mem_cons, List.not_mem_nil, or_false] at hq
          rcases hq with hq | rfl
          · exact .inr ⟨q, by simp [hq], e⟩
          · exact .inr ⟨r, by simp, e⟩
        · rw [span_new hc] at hq
          simp only [List.mem_append, List.mem_cons, List.not_mem_nil, or_false] at hq
          rcases hq with hq | rfl
          · exact .inr ⟨q, by simpa using hq, e⟩
          · exact .inl (by rw [← e]; exact List.mem_cons_self)
theorem runs_fst {m : Int} {l : List Int} {p : Int × Int} (h : p ∈ runs m l) : p.1 ∈ l := by
  rcases runs_fst_from m l [] p h with h1 | ⟨q, hq, _⟩
  · exact h1
  · cases hq

set_option maxRecDepth 100000 in
set_option maxHeartbeats 4000000 in
theorem runs_any {B : Nat → Prop} {w : World} {lv : Value} {xs : List Int} (hv : SliceIn B w 1 lv xs.length (u32s xs)) (hx : ∀ x ∈ xs, 0 ≤ x ∧ x < 4294967296) (hl : xs.length * 4 ≤ 140737488351232) :
    Calls Try.prog 7 #[lv] w fun e w' => e = .returned (.bool true) ∧ Kept [] w w' := by
  obtain ⟨ao, cap, rfl⟩ := hv.form
  by_cases h1 : 256 < xs.length
  · have h1' : (256 : Int) < (xs.length : Int) := by omega
    clear hv hx
    go_enter Try.func7, Try.ntmps7
    go_wp2_with fail
    refine (live_any _).mono ?_
    rintro e w1 ⟨rfl, hk⟩
    have HK := hid hk
    clear hk
    go_wp2
    go_ret
    exact ⟨rfl, HK.out⟩
  · have h1' : ¬ (256 : Int) < (xs.length : Int) := by omega
    have hE : spanE 32 xs = 0 := by simp [spanE, wrong, h1]
    have hO : spanO 32 xs = runs 4294967296 xs := by rw [spanO, if_pos hE]; rfl
    have hS := Span_any B 32 xs _ w hv hx (by omega)
    unfold Spanned at hS
    rw [hE, hO] at hS
    have hlaid := runs_laid hx xs.length (Nat.le_refl _)
    rw [List.take_length] at hlaid
    have hol := runs_length 4294967296 xs
    have HFST := hid (show ∀ p ∈ runs 4294967296 xs, 0 ≤ p.1 ∧ p.1 < 4294967296 from fun p hp => hx _ (runs_fst hp))
    generalize runs 4294967296 xs = o at *
    have HS := hid hS
    have HLAID := hid hlaid
    have HV := hid hv
    clear hS hlaid hv hE hO hx
    go_enter Try.func7, Try.ntmps7
    go_wp2_with fail
    refine HS.out.mono ?_
    rintro e w1 ⟨v, rfl, ho, hk1⟩
    obtain ⟨vo, vc, rfl⟩ := (SliceIn.owned ho).form
    have HO := hid ho
    have HK1 := hid hk1
    have HV1 := hid (HV.out.carry hk1.size fun b hb _ => hk1.block b hb (by simp))
    clear ho hk1
    go_wp2_with fail
    go_loopw [5, 6] (fun nv iv wr => ∃ i s : Nat, i ≤ o.length ∧ iv = .int .i64 i ∧ nv = .int .i64 s ∧ Laid 4294967296 xs (o.drop i) s xs.length ∧ Kept [] w1 wr) (fun _ iv _ => o.length - (intOf iv).toNat)
    case atStart => exact ⟨0, 0, Nat.zero_le _, rfl, rfl, by simpa using HLAID.out, Kept.refl [] _⟩
    case round =>
      obtain ⟨i, s, hi, rfl, rfl, hld, hkr⟩ := hrel
      have HK := hid hkr
      have hwi : IntKind.i64.wrap ((i : Int) + 1) = (i : Int) + 1 := IntWalk.i64_in _ (by omega)
      by_cases hlt : i < o.length
      · obtain ⟨c, hc0, hc1, hc2, hc3, hc4⟩ := laid_drop hlt hld
        have HC2 := hid hc2
        have HC4 := hid hc4
        have hor := ownsRow_kept HO.out hkr (by simp)
        obtain ⟨g, vc', e⟩ := own_form hor (by omega)
        cases e
        have hp := pairsV_get o i hlt
        have d0 := (own_set hor hp.1).1
        have d1 := (own_set hor hp.2).1
        have HVr := hid (HV1.out.carry hkr.size fun b hb _ => hkr.block b hb (by simp))
        obtain ⟨b, off, hao, _, _, hb, hcell⟩ := HVr.out.rows (by omega)
        subst hao
        have HCELL := hid hcell
        clear hc2 hc4 hor hp hld hkr hcell
        have hf := HFST.out _ (List.getElem_mem hlt)
        generalize o[i] = p at *
        obtain ⟨p1, p2⟩ := p
        dsimp only at d0 d1 hc3 HC2 hf
        have HD1 := hid d1
        obtain ⟨wo, rfl⟩ : ∃ wo : World, wo = wr := ⟨_, rfl⟩
        have HKO := hid HK.out
        clear d1
        go_wp2_with fail
        go_loopw [5, 7] (fun nv xv wr => ∃ j : Nat, j < c ∧ nv = .int .i64 ((s + j : Nat) : Int) ∧ xv = .int .u32 ((p1 + j) % 4294967296) ∧ Kept [] wo wr) (fun nv _ _ => s + c - (intOf nv).toNat)
        case atStart => exact ⟨0, hc0, by simp, by rw [show (p1 + (0 : Nat) : Int) % 4294967296 = p1 by omega], Kept.refl [] _⟩
        case round =>
          obtain ⟨j, hj, rfl, rfl, hkq⟩ := hrel
          have HKQ := hid hkq
          have hcl := hkq.cell (HCELL.out (s + j) (.int .u32 ((p1 + j) % 4294967296)) (by simp [u32s, HC2.out j hj])) (by simp)
          have d1 := hkq.cell HD1.out (by simp)
          have hnl : (s : Int) + (j : Int) < (xs.length : Int) := by omega
          have hge : decide ((xs.length : Int) ≤ (s : Int) + (j : Int)) = false := decide_eq_false (by omega)
          have hlt' : s + j < xs.length := by omega
          have hge' : decide ((xs.length : Int) ≤ ((s + j : Nat) : Int)) = false := decide_eq_false (by omega)
          have hwn : IntKind.i64.wrap (((s + j : Nat) : Int) + 1) = ((s + j + 1 : Nat) : Int) := by rw [IntWalk.i64_in _ (by omega)]; rfl
          have hwn' : IntKind.i64.wrap ((s : Int) + (j : Int) + 1) = (s : Int) + (j : Int) + 1 := IntWalk.i64_in _ (by omega)
          have hnx : ((p1 + j) % 4294967296 + 1) % 4294967296 = (p1 + (j + 1 : Nat)) % 4294967296 := by omega
          have HNX := hid hnx
          clear hkq hnx
          by_cases hlast : j = c - 1
          · have bz : ((p1 + j) % 4294967296 == p2) = true := by rw [hc3, hlast]; exact beq_self_eq_true _
            have hsc : s + j + 1 = s + c := by omega
            generalize (p1 + (j : Int)) % 4294967296 = z at *
            have ez : (z != z) = false := by simp
            clear hlast hc3
            go_wp2_with fail
            go_roundw
            case rel => exact ⟨i + 1, s + c, by omega, by go_num, by rw [← hsc]; go_num, HC4.out, HKO.out.tr HKQ.out⟩
            case measure => simp [intOf]; omega
          · have bz : ((p1 + j) % 4294967296 == p2) = false := by
              rw [hc3]
              exact beq_eq_false_iff_ne.2 (by omega)
            have hj1 : j + 1 < c := by omega
            generalize (p1 + (j : Int)) % 4294967296 = z at *
            have ez : (z != z) = false := by simp
            clear hlast hc3
            go_wp2_with fail
            go_roundw
            case rel => exact ⟨j + 1, by omega, by go_num, by rw [HNX.out], HKQ.out⟩
            case measure => simp [intOf]; omega
      · obtain rfl : i = o.length := by omega
        have hs : s = xs.length := by
          have h := hld
          rw [List.drop_length] at h
          exact h
        subst hs
        clear hld hkr
        go_wp2_with (go_at_call 16; refine (live_any _).mono ?_; rintro e w5 ⟨rfl, hk5⟩; have HK5 := hid (HK1.out.tr (HK.out.tr hk5)); clear hk5)
        go_ret
        exact ⟨rfl, HK5.out⟩

end Go.Proofs.Ytomdbdliniiffaa
