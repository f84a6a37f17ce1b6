/-
  serial.Span: what it returns.
-/
import Derived.Test.YtomdbdliniiffaaOwnK
import Derived.Test.YtomdbdliniiffaaSpanP
namespace Go.Proofs.Ytomdbdliniiffaa
open Go.RowKit

theorem Try.info42 : (Try.prog.info? 42).map (fun i => (i.zero, i.size, i.bytes)) = some (some (.agg #[.int .u32 0, .int .u32 0]), 2, 8) := by kernel_rfl
theorem Try.info22 : (Try.prog.info? 22).map (fun i => (i.zero, i.size, i.bytes)) = some (some (.int .u32 0), 1, 4) := by kernel_rfl
theorem Try.underlying39 : Try.prog.underlying 39 = some (.slice 42) := by kernel_rfl
theorem Try.underlying30 : Try.prog.underlying 30 = some (.slice 22) := by kernel_rfl

def pairV (p : Int × Int) : List Value := [.int .u32 p.1, .int .u32 p.2]
def pairsV (o : List (Int × Int)) : List Value := o.flatMap pairV
theorem pairsV_append (a b : List (Int × Int)) : pairsV (a ++ b) = pairsV a ++ pairsV b := by simp [pairsV]
theorem pairsV_length (o : List (Int × Int)) : (pairsV o).length = o.length * 2 := by
  induction o with
  | nil => rfl
  | cons p o ih =>
    have e : pairsV (p :: o) = pairV p ++ pairsV o := rfl
    rw [e, List.length_append, ih, List.length_cons]
    have : (pairV p).length = 2 := rfl
    omega
theorem pairsV_get : ∀ (o : List (Int × Int)) (k : Nat) (h : k < o.length), (pairsV o)[k * 2]? = some (.int .u32 o[k].1) ∧ (pairsV o)[k * 2 + 1]? = some (.int .u32 o[k].2)
  | p :: o, 0, h => ⟨rfl, rfl⟩
  | p :: o, k + 1, h => by
    have e : pairsV (p :: o) = pairV p ++ pairsV o := rfl
    have ih := pairsV_get o k (by simpa using h)
    have hl : (pairV p).length = 2 := rfl
    rw [e]
    constructor
    · rw [List.getElem?_append_right (by omega), hl, show (k + 1) * 2 - 2 = k * 2 by omega]
      exact ih.1
    · rw [List.getElem?_append_right (by omega), hl, show (k + 1) * 2 + 1 - 2 = k * 2 + 1 by omega]
      exact ih.2
theorem pairsV_last (o : List (Int × Int)) (p : Int × Int) : (pairsV (o ++ [p]))[o.length * 2 + 1]? = some (.int .u32 p.2) := by
  have h := (pairsV_get (o ++ [p]) o.length (by simp)).2
  simpa using h
theorem pairsV_set (o : List (Int × Int)) (p : Int × Int) (x : Int) : (pairsV (o ++ [p])).set (o.length * 2 + 1) (.int .u32 x) = pairsV (o ++ [(p.1, x)]) := by
  rw [pairsV_append, pairsV_append, List.set_append, if_neg (by rw [pairsV_length]; omega), pairsV_length, show o.length * 2 + 1 - o.length * 2 = 1 by omega]
  rfl

/-- What Span answers. -/
def spanE (bits : Int) (xs : List Int) : Int := if wrong bits xs ≠ 0 then wrong bits xs else if 256 < xs.length then 6 else 0
def spanO (bits : Int) (xs : List Int) : List (Int × Int) := if spanE bits xs = 0 then runs (mOf bits) xs else []
def Spanned (bits : Int) (xs : List Int) (w : World) (e : Ending) (w' : World) : Prop :=
  ∃ v, e = .returned (.tuple #[v, .int .i64 (spanE bits xs)]) ∧ w'.ownsRow w.heap.size 42 2 v (spanO bits xs).length (pairsV (spanO bits xs)) ∧ Kept [] w w'

theorem spanned_bad {bits : Int} {xs : List Int} {w w' : World} {r : Int} (h : spanE bits xs = r) (hr : r ≠ 0) (hk : Kept [] w w') : Spanned bits xs w (.returned (.tuple #[.slice none 0 0, .int .i64 r])) w' := by
  refine ⟨_, by rw [h], ?_, hk⟩
  rw [spanO, if_neg (by rw [h]; exact hr)]
  exact ⟨rfl, .inl ⟨rfl, rfl⟩⟩
theorem spanned_ok {bits : Int} {xs : List Int} {w w' : World} {v : Value} (h : spanE bits xs = 0) (ho : w'.ownsRow w.heap.size 42 2 v (runs (mOf bits) xs).length (pairsV (runs (mOf bits) xs))) (hk : Kept [] w w') : Spanned bits xs w (.returned (.tuple #[v, .int .i64 0])) w' := by
  refine ⟨_, by rw [h], ?_, hk⟩
  rw [spanO, if_pos h]
  exact ho

set_option maxRecDepth 100000 in
set_option maxHeartbeats 4000000 in
theorem Span_any (B : Nat → Prop) (bits : Int) (xs : List Int) (lv : Value) (w : World) (hv : SliceIn B w 1 lv xs.length (u32s xs)) (hx : ∀ x ∈ xs, 0 ≤ x ∧ x < 4294967296) (hl : xs.length ≤ 140737488355328) :
    Calls Try.prog 21 #[.int .i64 bits, lv] w (Spanned bits xs w) := by
  obtain ⟨ao, cap, rfl⟩ := hv.form
  have HR := hid (right_any B bits xs _ w hv hx hl)
  by_cases h0 : wrong bits xs = 0
  · have b0 : (wrong bits xs != 0) = false := by simp [h0]
    by_cases h1 : 256 < xs.length
    · have HP := hid (fun w' (hk : Kept [] w w') => spanned_bad (bits := bits) (xs := xs) (r := 6) (by simp [spanE, h0, h1]) (by decide) hk)
      have h1' : (256 : Int) < (xs.length : Int) := by omega
      generalize Spanned bits xs w = Post at *
      clear h0
      go_enter Try.func21, Try.ntmps21
      go_wp2_with fail
      refine HR.out.mono ?_
      rintro e w1 ⟨rfl, rfl⟩
      go_wp2
      exact HP.out _ (Kept.refl [] _)
    · have HE := hid (show spanE bits xs = 0 from by simp [spanE, h0, h1])
      have HP := hid (fun (v : Value) w' (ho : w'.ownsRow w.heap.size 42 2 v (runs (mOf bits) xs).length (pairsV (runs (mOf bits) xs))) (hk : Kept [] w w') => spanned_ok HE.out ho hk)
      have h1' : ¬ (256 : Int) < (xs.length : Int) := by omega
      have HV := hid hv
      have HX := hid hx
      obtain ⟨i42, hi42, hz42, hs42, hy42⟩ := info_parts Try.info42
      have I42 := hid hi42
      clear hi42 hv hx
      generalize Spanned bits xs w = Post at *
      clear h0
      go_enter Try.func21, Try.ntmps21
      go_wp2_with fail
      refine HR.out.mono ?_
      rintro e w1 ⟨rfl, rfl⟩
      go_wp2_with fail
      go_loopw [7, 22] (fun v iv wr => ∃ k : Nat, k ≤ xs.length ∧ iv = .int .i64 k ∧ wr.ownsRow w.heap.size 42 2 v (runs (mOf bits) (xs.take k)).length (pairsV (runs (mOf bits) (xs.take k))) ∧ Kept [] w wr) (fun _ iv _ => xs.length - (intOf iv).toNat)
      case atStart => exact ⟨0, Nat.zero_le _, rfl, ⟨rfl, .inl ⟨rfl, rfl⟩⟩, Kept.refl [] w⟩
      case round =>
        obtain ⟨k, hk, rfl, hown, hkr⟩ := hrel
        have HK := hid hkr
        have HVr := hid (HV.out.carry hkr.size fun b hb _ => hkr.block b hb (by simp))
        have hrl : (runs (mOf bits) (xs.take k)).length ≤ k := by
          have := runs_length (mOf bits) (xs.take k)
          rw [List.length_take] at this
          omega
        by_cases hlt : k < xs.length
        · obtain ⟨b, off, hao, _, _, hb, hc⟩ := HVr.out.rows (by omega)
          subst hao
          have ck := hc k _ (u32s_get hlt)
          have hxk := HX.out _ (getD_mem hlt)
          have HST := hid (show runs (mOf bits) (xs.take (k + 1)) = spanStep (mOf bits) (runs (mOf bits) (xs.take k)) (xs.getD k 0) from by
            rw [runs_step _ hlt]; simp [List.getD, hlt])
          have hwk : IntKind.i64.wrap ((k : Int) + 1) = (k : Int) + 1 := IntWalk.i64_in _ (by omega)
          clear hc
          generalize xs.getD k 0 = x at *
          generalize runs (mOf bits) (xs.take k) = o at *
          by_cases ho : o = []
          · subst ho
            have hown0 : wr.ownsRow w.heap.size 42 2 _ 0 [] := hown
            obtain ⟨vo, vc, rfl⟩ := (SliceIn.owned hown0).form
            have HO := hid hown0
            clear hown hown0
            go_wp2_with (at_builtin; refine wpList_append_in _ rfl (.tmp 48) (.tmp 52) 39 rfl w.heap.size 42 i42 _ 2 8 Try.underlying39 I42.out hz42 hs42 hy42 rfl (by decide) _ 0 _ rfl (HO.out.alloc _) Any _ 1 _ rfl (block_in (blk_new _ _) rfl) (by simp [Value.oneCell']) (by unfold maxLen; omega) (by omega) (by have := HK.out.size; simp; omega) ?_)
            intro v2 w2 ho2 hg2 _
            have HF := hid (show w2.ownsRow w.heap.size 42 2 v2 (runs (mOf bits) (xs.take (k + 1))).length (pairsV (runs (mOf bits) (xs.take (k + 1)))) ∧ Kept [] w w2 from by
              refine ⟨?_, kept_in (HK.out.alloc _) (HO.out.alloc _) hg2⟩
              rw [HST.out]
              rw [span_nil]
              exact ho2)
            clear ho2 hg2
            go_wp2
            go_roundw
            case rel => exact ⟨k + 1, by omega, by go_num, HF.out.1, HF.out.2⟩
            case measure => simp [intOf]; omega
          · obtain ⟨o', p, rfl⟩ := snoc_of ho
            have hlen : (o' ++ [p]).length = o'.length + 1 := by simp
            rw [hlen] at hown hrl
            obtain ⟨g, vc, rfl⟩ := own_form hown (by omega)
            obtain ⟨c1, f1, hg, hgl, hset⟩ := own_set hown (pairsV_last o' p)
            have HO := hid hown
            have HSET := hid hset
            have HCUT := hid (fun W => cut_any bits ((p.2 + 1) % 4294967296) W ⟨Int.emod_nonneg _ (by decide), Int.emod_lt_of_pos _ (by decide)⟩)
            have hq : (p.2 + 1) % 4294967296 % mOf bits = (p.2 + 1) % mOf bits := by
              rcases mOf_cases bits with ⟨_, e⟩ | ⟨_, e⟩ <;> rw [e] <;> omega
            rw [hq] at HCUT
            have hsub : IntKind.i64.wrap ((o'.length : Int) + 1 - 1) = (o'.length : Int) := by rw [IntWalk.i64_in _ (by omega)]; omega
            have hsub' : wrap64 ((o'.length : Int) + 1 - 1) = (o'.length : Int) := by rw [IntWalk.wrap64_in _ (by omega)]; omega
            clear hown hset hq ho hlen
            by_cases hc : (p.2 + 1) % mOf bits = x
            · have bc : ((p.2 + 1) % mOf bits == x) = true := by simpa using hc
              have HN := hid (show runs (mOf bits) (xs.take (k + 1)) = o' ++ [(p.1, x)] from by rw [HST.out, span_more hc])
              clear hc
              go_wp2_with fail
              refine (HCUT.out _).mono ?_
              rintro e w2 ⟨rfl, rfl⟩
              go_wp2_with fail
              go_roundw
              case rel =>
                refine ⟨k + 1, by omega, by go_num, ?_, HK.out.setCell (.inr hg) _⟩
                rw [HN.out, List.length_append]
                have h := HSET.out (.int .u32 x)
                rw [pairsV_set] at h
                exact h
              case measure => simp [intOf]; omega
            · have bc : ((p.2 + 1) % mOf bits == x) = false := by simpa using hc
              have HN := hid (show spanStep (mOf bits) (o' ++ [p]) x = o' ++ [p] ++ [(x, x)] from span_new hc)
              clear hc
              go_wp2_with fail
              refine (HCUT.out _).mono ?_
              rintro e w2 ⟨rfl, rfl⟩
              go_wp2_with (at_builtin; refine wpList_append_in _ rfl (.tmp 48) (.tmp 52) 39 rfl w.heap.size 42 i42 _ 2 8 Try.underlying39 I42.out hz42 hs42 hy42 rfl (by decide) _ (o'.length + 1) _ rfl (HO.out.alloc _) Any _ 1 _ rfl (block_in (blk_new _ _) rfl) (by simp [Value.oneCell']) (by unfold maxLen; omega) (by omega) (by have := HK.out.size; simp; omega) ?_)
              intro v2 w2 ho2 hg2 _
              have HF := hid (show w2.ownsRow w.heap.size 42 2 v2 (runs (mOf bits) (xs.take (k + 1))).length (pairsV (runs (mOf bits) (xs.take (k + 1)))) ∧ Kept [] w w2 from by
                refine ⟨?_, kept_in (HK.out.alloc _) (HO.out.alloc _) hg2⟩
                rw [HST.out]
                rw [HN.out, List.length_append, List.length_append, pairsV_append]
                exact ho2)
              clear ho2 hg2
              go_wp2
              go_roundw
              case rel => exact ⟨k + 1, by omega, by go_num, HF.out.1, HF.out.2⟩
              case measure => simp [intOf]; omega
        · obtain rfl : k = xs.length := by omega
          rw [List.take_length] at hown
          obtain ⟨vo, vc, rfl⟩ := (SliceIn.owned hown).form
          have HF := hid (HP.out _ _ hown hkr)
          clear hown hkr
          go_wp2
          exact HF.out
  · have HP := hid (fun w' (hk : Kept [] w w') => spanned_bad (bits := bits) (xs := xs) (r := wrong bits xs) (by simp [spanE, h0]) h0 hk)
    have b0 : (wrong bits xs != 0) = true := by simp [h0]
    generalize Spanned bits xs w = Post at *
    clear h0
    go_enter Try.func21, Try.ntmps21
    go_wp2_with fail
    refine HR.out.mono ?_
    rintro e w1 ⟨rfl, rfl⟩
    go_wp2
    exact HP.out _ (Kept.refl [] _)

end Go.Proofs.Ytomdbdliniiffaa
