/-
  runs: what the iterator yields.
-/
import Derived.Test.YthdcodjdecnniaaRunsP
import Derived.Test.YthdcodjdecnniaaAdd2
import Derived.RangeFuncNested
import Derived.RangeFuncBound
import Derived.RangeFuncCalls
import Derived.RangeFuncLeaves
import Derived.RangeFuncBox
import Derived.Shelf.Abstract
import Derived.Shelf.RegionOpen
import Derived.OwnWalkIn
import Derived.TacticsInMore
import Derived.LoopNIn
import Derived.LoopIn
import Derived.Maps.AppendAt
namespace Go.Proofs.Ythdcodjdecnniaa
open Go.RowKit Go.Shelf
attribute [local go_sem] Oper.semAt_some

theorem info58 : (Try.prog.info? 58).map (fun i => i.size) = some 258 := by kernel_rfl

theorem run_load58 (w : World) (x : Nat) (A : List Value) (hA : A.length = 258) (h : ∀ j v, A[j]? = some v → w.cell? ⟨x, 1 + j, none⟩ = some v) : (loadVar 58 ⟨x, 1, none⟩).run Try.prog w = .ok (.agg A.toArray) w := by
  have hl := run_loadCells_list (P := Try.prog) w ⟨x, 1, none⟩ A (fun j v hv => by
    have hadd : (⟨x, 1, none⟩ : Addr).add j = ⟨x, 1 + j, none⟩ := by unfold Addr.add; split <;> simp_all
    rw [hadd]; exact h j v hv)
  rw [hA] at hl
  cases hq : Try.prog.info? 58 with
  | none => have := info58; simp [hq] at this
  | some i =>
    have hs : i.size = 258 := by have := info58; simpa [hq] using this
    have hagg : (isAgg 58).run Try.prog w = .ok true w := by
      unfold isAgg
      rw [Sem.run_bind, run_underlying Try.underlying58 w]
      rfl
    simp [loadVar, Sem.run_bind, hagg, sizeOf, typeInfo, hq, hs, hl]

theorem run_load24 (w : World) (b : Nat) (v : Value) (h : w.cell? ⟨b, 0, none⟩ = some v) : (loadVar 24 ⟨b, 0, none⟩).run Try.prog w = .ok v w := by
  simp [go_sem, h]

theorem info4 : (Try.prog.info? 4).map (fun i => i.size) = some 1 := by kernel_rfl

theorem run_idx58 (w : World) (A : List Value) (k : Nat) (v : Value) (hk : k < 258) (h : A[k]? = some v) : (Instr.index 58 (.agg A.toArray) (.int .i64 (k : Int))).run Try.prog w = .ok v w := by
  cases hq : Try.prog.info? 4 with
  | none => have := info4; simp [hq] at this
  | some i =>
    have hs : i.size = 1 := by have := info4; simpa [hq] using this
    have h1 : (0 : Int) ≤ (k : Int) ∧ (k : Int) < ((258 : Nat) : Int) := by omega
    simp only [Instr.index, asIntOf, Sem.run_bind, Sem.run_pure, Result.andThen_ok, run_underlying Try.underlying58, if_pos h1, sizeOf, typeInfo]
    simp [part, isAgg, run_underlying Try.underlying4, hq, hs, h]

/-- Where the loop over the cells stands. -/
def Stands (far : List Int) (k : Nat) (f : Int) (pre : List (Int × Int)) : Prop :=
  (f = 0 ∧ pre ++ runsOf (since k far) = runsOf far) ∨ (1 ≤ f ∧ f < k ∧ (∀ j : Int, f ≤ j → j < k → j ∈ far) ∧ pre ++ runsOf (since f far) = runsOf far)

section
variable {far : List Int} {k : Nat} {f : Int} {pre : List (Int × Int)}
theorem Stands.start (hr : Rising 2 far) : Stands far 0 0 [] := .inl ⟨rfl, by rw [since_all (fun x hx => by have := hr.2 x hx; omega)]; rfl⟩
theorem zero_not (hr : Rising 2 far) : (0 : Int) ∉ far := fun h => by have := hr.2 _ h; omega
theorem Stands.begins (hr : Rising 2 far) (h : Stands far k 0 pre) (hk : 1 ≤ k → (k : Int) ∈ far) : Stands far (k + 1) k pre := by
  rcases h with ⟨_, h⟩ | ⟨h, _⟩
  · by_cases h0 : k = 0
    · subst h0
      exact .inl ⟨rfl, by rw [← h, since_not (f := ((0 : Nat) : Int)) (zero_not hr)]; rfl⟩
    · exact .inr ⟨by omega, by omega, fun j h1 h2 => by
        have : j = k := by omega
        rw [this]; exact hk (by omega), h⟩
  · omega
theorem Stands.idle (hr : Rising 2 far) (h : Stands far k 0 pre) (hk : 1 ≤ k → (k : Int) ∉ far) : Stands far (k + 1) 0 pre := by
  rcases h with ⟨_, h⟩ | ⟨h, _⟩
  · refine .inl ⟨rfl, ?_⟩
    have : (k : Int) ∉ far := by
      by_cases h0 : k = 0
      · subst h0; exact zero_not hr
      · exact hk (by omega)
    rw [← h, since_not this]
    rfl
  · omega
theorem Stands.goes (h : Stands far k f pre) (h0 : f ≠ 0) (hk : 1 ≤ k → (k : Int) ∈ far) : Stands far (k + 1) f pre := by
  rcases h with ⟨e, _⟩ | ⟨h1, h2, h3, h4⟩
  · exact absurd e h0
  · exact .inr ⟨h1, by omega, fun j h5 h6 => by
      by_cases hj : j = k
      · rw [hj]; exact hk (by omega)
      · exact h3 j h5 (by omega), h4⟩
theorem Stands.ends (hr : Rising 2 far) (h : Stands far k f pre) (h0 : f ≠ 0) (hk : 1 ≤ k → (k : Int) ∉ far) : 1 ≤ f ∧ f < k ∧ pre.length < (runsOf far).length ∧ pre ++ [(f, (k : Int) - 1)] <+: runsOf far ∧ Stands far (k + 1) 0 (pre ++ [(f, (k : Int) - 1)]) := by
  rcases h with ⟨e, _⟩ | ⟨h1, h2, h3, h4⟩
  · exact absurd e h0
  · have hg := runs_gap hr.1 (k - 1 - f.toNat) f (fun j hj => h3 _ (by omega) (by omega)) (by
      rw [show f + ((k - 1 - f.toNat : Nat) : Int) + 1 = k by omega]; exact hk (by omega))
    rw [show f + ((k - 1 - f.toNat : Nat) : Int) = (k : Int) - 1 by omega, show (k : Int) - 1 + 2 = ((k + 1 : Nat) : Int) by omega] at hg
    rw [hg] at h4
    refine ⟨h1, h2, by rw [← h4]; simp, ⟨runsOf (since ((k + 1 : Nat) : Int) far), by rw [← h4]; simp⟩, .inl ⟨rfl, by rw [← h4]; simp⟩⟩
theorem Stands.over (hr : Rising 2 far) (h : Stands far 258 f pre) : pre = runsOf far := by
  rcases h with ⟨_, h⟩ | ⟨h1, h2, h3, h4⟩
  · rw [← h, since_none (fun x hx => by have := hr.2 x hx; omega)]; simp [runsOf]
  · have := hr.2 _ (h3 257 (by omega) (by omega))
    omega
end

section
attribute [-go_sem] loadVar
set_option maxRecDepth 100000 in
set_option maxHeartbeats 1000000 in
theorem runs1_in (F : Fence) (n : Nat) (h6 : F.fn 41) (hro : F.round = none) (hn : 1 ≤ n) (l Bn x : Nat) (far : List Int) (b0 : Bool) (A : List Value) (J Jx : List (Int × Int) → World → Prop)
    (hr : Rising 2 far) (hA : A.length = 258) (hA0 : A[0]? = some (.bool b0)) (hA1 : ∀ i : Nat, 1 ≤ i → i ≤ 257 → A[i]? = some (.bool (decide ((i : Int) ∈ far))))
    (hY : ∀ pre r W, J pre W → pre.length < (runsOf far).length → YieldAt F (n - 1) Try.prog l #[.int .i64 r.1, .int .i64 r.2] W fun e W' =>
      (e = .returned (.bool true) ∧ J (pre ++ [r]) W' ∧ True) ∨ (e = .returned (.bool false) ∧ Jx (pre ++ [r]) W'))
    (W : World) (hBn : W.cell? ⟨Bn, 0, none⟩ = some (.pointer (some ⟨x, 0, none⟩))) (hL : ∀ j v, A[j]? = some v → W.cell? ⟨x, 1 + j, none⟩ = some v) (h0 : J [] W) :
    CallsIn F n Try.prog 41 #[.func (.yield l) #[] #[], .pointer (some ⟨Bn, 0, none⟩)] W fun e W' => (∃ v, e = .returned v) ∧
      ((∃ ys, ys = runsOf far ∧ J ys W') ∨ (∃ pre, pre <+: runsOf far ∧ Jx pre W')) := by
  have hload := run_load58 W x A hA hL
  have hload24 := run_load24 W Bn _ hBn
  have HY := hid hY
  have HA := hid hA
  have HA0 := hid hA0
  have HA1 := hid hA1
  clear hY hA hA0 hA1 hL
  refine callsIn_of_wp Try.func41 rfl h6 ?_ hro
  simp only [Try.ntmps41, List.size_toArray, List.length_cons, List.length_nil, Nat.reduceAdd, Nat.reduceSub, Array.replicate_succ, Array.replicate_zero, List.push_toArray, List.append_toArray, List.nil_append, List.cons_append]
  gi_wp2
  gi_loopw [3, 10] (fun p q wr => ∃ (k : Nat) (f : Int) (pre : List (Int × Int)), k ≤ 258 ∧ p = .int .i64 f ∧ q = .int .i64 k ∧ J pre wr ∧ Stands far k f pre) (fun p q wr => 258 - (intOf q).toNat)
  case atStart => exact ⟨0, 0, [], by omega, rfl, rfl, h0, .start hr⟩
  case round =>
    obtain ⟨k, f, pre, hk, rfl, rfl, hJ, hst⟩ := hrel
    have HR := hid hr
    clear hr
    have HJ := hid hJ
    have HST := hid hst
    clear hJ hst
    by_cases hlt : k < 258
    · obtain ⟨is, his, hev⟩ : ∃ is, A[k]? = some (.bool is) ∧ (1 ≤ k → is = decide ((k : Int) ∈ far)) := by
        by_cases h0 : k = 0
        · subst h0; exact ⟨b0, HA0.out, fun h => by omega⟩
        · exact ⟨_, HA1.out k (by omega) (by omega), fun _ => rfl⟩
      have HE := hid hev
      have bk : decide ((k : Int) < 258) = true := decide_eq_true (by omega)
      have hidx := run_idx58 wr A k (.bool is) hlt his
      have HLT := hid hlt
      have hk2 : (k : Int) < 258 := by omega
      clear hlt hev his hk
      by_cases hf : f = 0
      · subst hf
        cases is with
        | true =>
          have HN := hid (HST.out.begins HR.out (fun h => by have := HE.out h; simpa using this.symm))
          gi_wp2
          exact ⟨⟨k + 1, k, pre, HLT.out, rfl, rfl, HJ.out, HN.out⟩, by have := HLT.out; simp [intOf]; omega⟩
        | false =>
          have HN := hid (HST.out.idle HR.out (fun h => by have := HE.out h; simpa using this.symm))
          gi_wp2
          exact ⟨⟨k + 1, 0, pre, HLT.out, rfl, rfl, HJ.out, HN.out⟩, by have := HLT.out; simp [intOf]; omega⟩
      · have bf : (f == 0) = false := beq_eq_false_iff_ne.2 hf
        cases is with
        | true =>
          have HN := hid (HST.out.goes hf (fun h => by have := HE.out h; simpa using this.symm))
          clear hf
          gi_wp2
          exact ⟨⟨k + 1, f, pre, HLT.out, rfl, rfl, HJ.out, HN.out⟩, by have := HLT.out; simp [intOf]; omega⟩
        | false =>
          obtain ⟨h1, h2, h3, h4, h5⟩ := HST.out.ends HR.out hf (fun h => by have := HE.out h; simpa using this.symm)
          have bp : decide (0 < f) = true := decide_eq_true (by omega)
          obtain ⟨fn, tmps, assign, body, hy, hRR⟩ := HY.out pre (f, (k : Int) - 1) wr HJ.out h3
          dsimp only at hy
          have HRR := hid hRR
          have H4 := hid h4
          have H5 := hid h5
          have HLT2 := hid h2
          clear hf h3 h4 h5 hRR
          gi_wp2
          refine HRR.out.mono ?_
          rintro e W3 (⟨rfl, hJ3, _⟩ | ⟨rfl, hJx3⟩)
          · have HJ3 := hid hJ3
            clear hJ3
            gi_wp2
            exact ⟨⟨k + 1, 0, _, HLT.out, rfl, rfl, HJ3.out, H5.out⟩, by have := HLT.out; simp [intOf]; omega⟩
          · have HJ3 := hid hJx3
            clear hJx3
            gi_wp2
            refine bodyPost_ret (results_none rfl _ _ _) rfl ?_
            exact ⟨⟨_, rfl⟩, .inr ⟨_, H4.out, HJ3.out⟩⟩
    · have bk : decide ((k : Int) < 258) = false := decide_eq_false (by omega)
      have HP := hid (show pre = runsOf far by
        have : k = 258 := by omega
        subst this; exact HST.out.over HR.out)
      clear hlt hk
      gi_wp2
      go_end0
      exact ⟨⟨_, rfl⟩, .inl ⟨_, HP.out, HJ.out⟩⟩
end

end Go.Proofs.Ythdcodjdecnniaa
