/-
  The reference's Runs, Blocks.
-/
import Derived.Test.YthdcodjdecnniaaRefB
import Derived.Deep.RegionLaw
namespace Go.Proofs.Ythdcodjdecnniaa
open Go.RowKit

theorem step_append_kept {P : Program} {ops : Array Oper} {o : Oper} {a : Act} {w : World} {K : Act → World → Prop} {Q : Exit → Act → World → Prop} {E : Prop}
    (hgd : o.guard = none) (s x : Operand) (t : TypeId) (ho : o.op = .call { callee := .builtin .append, args := #[s, x], argTypes := #[t, t] })
    (base : Nat) (e : TypeId) (i : TypeInfo) (z : Value) (size bytes : Nat) (h1 : P.underlying t = some (.slice e)) (h2 : P.info? e = some i) (h3 : i.zero = some z) (h4 : i.size = size) (h5 : i.bytes = bytes) (h6 : z.cells.size = size) (h7 : 0 < size)
    (v : Value) (k : Nat) (xs : List Value) (hs : a.eval s = v) (hown : w.ownsRow base e size v k xs) (ad : Addr) (m c : Nat) (news : List Value) (hx : a.eval x = .slice (some ad) m c) (hn : news.length = m * size)
    (hc : ∀ j u, news[j]? = some u → w.cell? (ad.add j) = some u) (h1c : ∀ u ∈ news, u.oneCell' = true) (b1 : k + m ≤ maxLen) (b2 : (k + m) * bytes ≤ 140737488355328) (b3 : base ≤ w.heap.size)
    (hK : ∀ v' w', Hid (w'.ownsRow base e size v' (k + m) (xs ++ news)) → Hid (w.grownBy w' v.ownBlock) → K (a.put o.dst v') w') :
    if Region.wanted o (yielded ops a.tmps) = true then Oper.wp P o a w K Q else E := by
  have hw : Region.wanted o (yielded ops a.tmps) = true := by simp [Region.wanted, hgd]
  rw [if_pos hw]
  obtain ⟨v', w', hrun, r1, r2, r3⟩ := run_append_own (P := P) w base t o.type e i z size bytes h1 h2 h3 h4 h5 h6 h7 v k xs hown ad m c news hn hc h1c b1 b2 b3
  unfold Oper.wp
  simp [execOp, ho, resolve, invoke, builtin, hs, hx, hrun, Result.andThen]
  exact hK v' w' r1 r2

theorem drop_getD {l : List Int} {i : Nat} (h : i < l.length) : l.drop i = l.getD i 0 :: l.drop (i + 1) := by
  rw [List.drop_eq_getElem_cons h]
  simp [List.getD, h]

theorem runs_drop {l : List Int} : ∀ (m i : Nat), i + m < l.length → (∀ j, j ≤ m → l.getD (i + j) 0 = l.getD i 0 + j) → (i + m + 1 < l.length → l.getD (i + m + 1) 0 ≠ l.getD (i + m) 0 + 1) →
    runsOf (l.drop i) = (l.getD i 0, l.getD (i + m) 0) :: runsOf (l.drop (i + m + 1))
  | 0, i, h, _, he => by
    rw [drop_getD (by omega), runsOf_gap]
    · rfl
    · intro y ys e
      by_cases h1 : i + 1 < l.length
      · rw [drop_getD h1] at e
        cases e
        exact he h1
      · rw [List.drop_eq_nil_of_le (by omega)] at e
        cases e
  | m + 1, i, h, hc, he => by
    have h1 := hc 1 (by omega)
    have ih := runs_drop (l := l) m (i + 1) (by omega) (fun j hj => by
      have := hc (j + 1) (by omega)
      rw [show i + 1 + j = i + (j + 1) by omega, this, h1]
      omega) (fun hlt => by
      rw [show i + 1 + m + 1 = i + (m + 1) + 1 by omega, show i + 1 + m = i + (m + 1) by omega]
      exact he (by omega))
    have e2 : l.getD (i + 1) 0 = l.getD i 0 + 1 := by rw [h1]; rfl
    rw [drop_getD (l := l) (i := i) (by omega), runsOf_grow (b := l.getD (i + 1 + m) 0) (rs := runsOf (l.drop (i + 1 + m + 1)))]
    · rw [show i + 1 + m = i + (m + 1) by omega]
    · rw [ih, e2]

/-- From i to k each is one more than the one ahead. -/
def Straight (l : List Int) (i k : Nat) : Prop := i ≤ k ∧ ∀ j : Nat, i ≤ j → j ≤ k → l.getD j 0 = l.getD i 0 + ((j : Int) - i)
theorem Straight.one {l : List Int} {i : Nat} : Straight l i i := ⟨Nat.le_refl _, fun j h1 h2 => by
  have : j = i := by omega
  subst this; omega⟩
theorem Straight.more {l : List Int} {i k : Nat} (h : Straight l i k) (e : l.getD (k + 1) 0 = l.getD k 0 + 1) : Straight l i (k + 1) := ⟨by have := h.1; omega, fun j h1 h2 => by
  by_cases hj : j = k + 1
  · subst hj
    have := h.2 k h.1 (Nat.le_refl _)
    rw [e, this]; omega
  · exact h.2 j h1 (by omega)⟩
theorem Straight.run {l : List Int} {i k : Nat} (h : Straight l i k) (hk : k < l.length) (he : k + 1 < l.length → l.getD (k + 1) 0 ≠ l.getD k 0 + 1) : runsOf (l.drop i) = (l.getD i 0, l.getD k 0) :: runsOf (l.drop (k + 1)) := by
  have := h.1
  have := runs_drop (l := l) (k - i) i (by omega) (fun j hj => by rw [h.2 (i + j) (by omega) (by omega)]; omega) (by rw [show i + (k - i) + 1 = k + 1 by omega, show i + (k - i) = k by omega]; exact he)
  rwa [show i + (k - i) + 1 = k + 1 by omega, show i + (k - i) = k by omega] at this

theorem own_heap {w w' : World} {b : Nat} {e : TypeId} {size n : Nat} {v : Value} {xs : List Value} (h : w.ownsRow b e size v n xs) (hh : w'.heap = w.heap) : w'.ownsRow b e size v n xs := by
  refine ⟨h.1, ?_⟩
  rw [hh]; exact h.2

def RefRuns (w : World) (l : List Int) (e : Ending) (w' : World) : Prop := ∃ v, e = .returned v ∧ w'.ownsRow w.heap.size 40 2 v (runsOf l).length (u16s (runsOf l)) ∧ Kept [] w w'

/-- The outer loop stands. -/
def RunsAt (w : World) (l : List Int) (i : Nat) (v : Value) (wr : World) : Prop :=
  ∃ pre, i ≤ l.length ∧ pre ++ runsOf (l.drop i) = runsOf l ∧ wr.ownsRow w.heap.size 40 2 v pre.length (u16s pre) ∧ pre.length ≤ i ∧ Kept [] w wr

theorem runs_step {w wo wr W w4 : World} {l : List Int} {i k : Nat} {pre : List (Int × Int)} {v v4 : Value} {r : Int × Int} {tmp : Obj} (hg : (W.alloc tmp).grownBy w4 v.ownBlock) (hp : pre ++ runsOf (l.drop i) = runsOf l) (hr : runsOf (l.drop i) = r :: runsOf (l.drop (k + 1))) (hk : k < l.length) (hle : pre.length ≤ i) (hik : i ≤ k)
    (hq : Kept [] w wo) (hkw : Kept [] wo wr) (e1 : W.heap = wr.heap) (e2 : W.os = wr.os) (e3 : W.tape = wr.tape) (e4 : W.output = wr.output) (hown : wr.ownsRow w.heap.size 40 2 v pre.length (u16s pre)) (ho : w4.ownsRow w.heap.size 40 2 v4 (pre.length + 1) (u16s pre ++ u16p r)) :
    RunsAt w l (k + 1) v4 w4 := by
  have hkr := hq.tr hkw
  have hW : Kept [] w W := ⟨e2.trans hkr.os, e3.trans hkr.tape, e4.trans hkr.output, by rw [e1]; exact hkr.size, fun j hj hn => by rw [e1]; exact hkr.block j hj hn⟩
  refine ⟨pre ++ [r], hk, by rw [← hp, hr]; simp, by rw [u16s_snoc]; simpa using ho, by simp; omega, (hW.alloc _).grown hg (fun j hj => .inr ((hown.lt j hj).1))⟩

set_option maxRecDepth 100000 in
set_option maxHeartbeats 4000000 in
theorem RefRuns_any {B : Nat → Prop} {w : World} {y : Nat} {t : T} (h : Ref B w y t) : Calls Try.prog 42 #[.pointer (some ⟨y, 0, none⟩)] w (RefRuns w t.far) := by
  have HR := hid h
  have hlen := rising_short h.ok.far (by omega)
  obtain ⟨i0, hi, hz0, hz1, hz2⟩ := info_parts info40
  obtain ⟨vf, vd, g1, g2, _⟩ := h.blk
  have HG1 := hid g1
  have HG2 := hid g2
  have hyl := lt_of_block g1
  obtain ⟨ao, cap, rfl⟩ := g2.form
  have HS := hid (show RunsAt w t.far 0 (.slice (some ⟨w.heap.size, 0, none⟩) 0 0) (w.alloc (.cells #[] 40)) from
    ⟨[], Nat.zero_le _, rfl, by have := World.ownsRow_made (e := 40) (size := 2) (base := w.heap.size) w #[] 0 (Nat.le_refl _) (Nat.zero_le _) rfl; simpa [u16s] using this, Nat.le_refl _, (Kept.refl _ _).alloc _⟩)
  clear h g1 g2
  go_enter Try.func42, Try.ntmps42
  go_wp2_with fail
  go_loopw [3, 4] (fun v i wr => ∃ k : Nat, i = .int .i64 k ∧ RunsAt w t.far k v wr) (fun v i wr => t.far.length - (intOf i).toNat)
  case atStart => exact ⟨0, rfl, HS.out⟩
  case round =>
    obtain ⟨wo, rfl⟩ : ∃ wo : World, wo = wr := ⟨_, rfl⟩
    obtain ⟨i, rfl, pre, q1, q2, q3, q4, q5⟩ := hrel
    obtain ⟨bo, bc, rfl⟩ := (SliceIn.owned q3).form
    have HQ2 := hid q2
    have HQ3 := hid q3
    have HQ5 := hid q5
    have hbr := q5.blk HG1.out (by simp)
    have c1 := blk_cell hbr 1
    simp at c1
    have hylr := lt_of_block hbr
    have hs3 := q5.size
    clear q2 q3 q5 hbr
    by_cases hlt : i < t.far.length
    · obtain ⟨b, off, hao, hcl, _, _, hc⟩ := (HG2.out.kept HQ5.out (fun _ _ _ => by simp)).rows (by omega)
      subst hao
      have HC := hid hc
      clear hc
      go_wp2_with fail
      go_loopw [5] (fun s wl => ∃ k : Nat, i ≤ k ∧ k < t.far.length ∧ s = .int .i64 k ∧ Straight t.far i k ∧ Kept [] wo wl) (fun s wl => t.far.length - (intOf s).toNat)
      case atStart => exact ⟨i, Nat.le_refl _, hlt, rfl, Straight.one, Kept.refl _ _⟩
      case round =>
        obtain ⟨k, hik, hk, rfl, hcons, hkw⟩ := hrel
        have HCONS := hid hcons
        have HKW := hid hkw
        have hbw := (HQ5.out.tr hkw).blk HG1.out (by simp)
        have d1 := blk_cell hbw 1
        simp at d1
        have hylw := lt_of_block hbw
        have hsw := hkw.size
        have dk := hkw.cell (HC.out k _ (i64s_get hk)) (by simp)
        have di := hkw.cell (HC.out i _ (i64s_get hlt)) (by simp)
        have zk := far_get HR.out.ok hk
        have zi := far_get HR.out.ok hlt
        clear hcons hkw hbw c1
        by_cases hn1 : k + 1 < t.far.length
        · have bn : decide ((k : Int) + 1 < (t.far.length : Int)) = true := decide_eq_true (by omega)
          have dn := HKW.out.cell (HC.out (k + 1) _ (i64s_get hn1)) (by simp)
          by_cases hnx : t.far.getD (k + 1) 0 = t.far.getD k 0 + 1
          · have HN := hid (HCONS.out.more hnx)
            have bx : (t.far.getD (k + 1) 0 == t.far.getD k 0 + 1) = true := beq_iff_eq.2 hnx
            rw [hnx] at dn
            clear hnx bx di
            generalize hz2' : t.far.getD k 0 = zz at *
            clear hz2'
            go_wp2_with fail
            go_quiet (fail)
            go_wp2
            go_roundw
            case rel => exact ⟨k + 1, by omega, hn1, by go_num, HN.out, HKW.out.drewN _⟩
            case measure => simp [intOf]; omega
          · have bx : (t.far.getD (k + 1) 0 == t.far.getD k 0 + 1) = false := beq_eq_false_iff_ne.2 hnx
            have HRUN := hid (HCONS.out.run hk (fun _ => hnx))
            have HOW := hid (ownsRow_kept HQ3.out HKW.out (fun _ _ => by simp))
            clear hnx
            generalize t.far.getD (k + 1) 0 = zn at *
            generalize t.far.getD k 0 = zz at *
            generalize t.far.getD i 0 = zi0 at *
            go_wp2_with fail
            go_quiet (fail)
            go_wp2_with fail
            go_region_law (refine step_append_kept rfl (.tmp 48) (.tmp 66) 36 rfl w.heap.size 40 i0 (.agg #[.int .u16 0, .int .u16 0]) 2 4 Try.underlying36 hi hz0 hz1 hz2 rfl (by decide) _ _ _ (by simp [Act.eval]) (World.ownsRow.alloc (own_heap HOW.out rfl) _) ⟨_, 0, none⟩ 1 1 (u16p (zi0, zz)) (by simp [Act.eval]) rfl (cell_two_new _ _ _ _) (by simp [u16p, Value.oneCell']) (by unfold maxLen; omega) (by omega) (by simp; omega) ?_; intro v4 w4 ho4 hg4)
            all_goals
              have HF := hid (runs_step hg4.out HQ2.out HRUN.out hk q4 hik HQ5.out HKW.out rfl rfl rfl rfl HOW.out ho4.out)
              clear ho4 hg4
              go_wp2
              go_roundw
              case rel => exact ⟨k + 1, by go_num, HF.out⟩
              case measure => simp [intOf]; omega
        · have bn : decide ((k : Int) + 1 < (t.far.length : Int)) = false := decide_eq_false (by omega)
          have HRUN := hid (HCONS.out.run hk (fun h => absurd h hn1))
          have HOW := hid (ownsRow_kept HQ3.out HKW.out (fun _ _ => by simp))
          generalize t.far.getD k 0 = zz at *
          generalize t.far.getD i 0 = zi0 at *
          go_wp2_with fail
          go_quiet (fail)
          go_wp2_with fail
          go_region_law (refine step_append_kept rfl (.tmp 48) (.tmp 66) 36 rfl w.heap.size 40 i0 (.agg #[.int .u16 0, .int .u16 0]) 2 4 Try.underlying36 hi hz0 hz1 hz2 rfl (by decide) _ _ _ (by simp [Act.eval]) (World.ownsRow.alloc (own_heap HOW.out rfl) _) ⟨_, 0, none⟩ 1 1 (u16p (zi0, zz)) (by simp [Act.eval]) rfl (cell_two_new _ _ _ _) (by simp [u16p, Value.oneCell']) (by unfold maxLen; omega) (by omega) (by simp; omega) ?_; intro v4 w4 ho4 hg4)
          all_goals
            have HF := hid (runs_step hg4.out HQ2.out HRUN.out hk q4 hik HQ5.out HKW.out rfl rfl rfl rfl HOW.out ho4.out)
            clear ho4 hg4
            go_wp2
            go_roundw
            case rel => exact ⟨k + 1, by go_num, HF.out⟩
            case measure => simp [intOf]; omega
    · have hF : RefRuns w t.far (.returned (.slice bo pre.length bc)) wo := by
        have e : pre = runsOf t.far := by
          have := HQ2.out
          rw [List.drop_eq_nil_of_le (by omega)] at this
          simpa [runsOf] using this
        exact ⟨_, rfl, by rw [← e]; exact HQ3.out, HQ5.out⟩
      have HF := hid hF
      clear hF
      go_wp2
      go_ret
      exact HF.out

end Go.Proofs.Ythdcodjdecnniaa
