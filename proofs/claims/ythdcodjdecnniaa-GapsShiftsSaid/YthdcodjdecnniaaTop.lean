/-
  Top on a tracker in memory.
-/
import Derived.Test.YthdcodjdecnniaaIter
import Derived.Sort.QuietIn
import Derived.Sort.BigQuietIn
namespace Go.Proofs.Ythdcodjdecnniaa
open Go.RowKit Go.Shelf
attribute [local go_sem] Oper.semAt_some

abbrev encs (p : Int × Int) : Array Value := #[.int .i64 p.1, .int .i64 p.2]

theorem Cells.row {c : Int} {l : List Int} {L : List Value} {dv : Value} (h : Cells c l L dv) : ∃ (A : List Value) (b0 : Bool), A.length = 258 ∧ A[0]? = some (.bool b0) ∧ (∀ i : Nat, 1 ≤ i → i ≤ 257 → A[i]? = some (.bool (decide ((i : Int) ∈ l)))) ∧ ∀ j v, A[j]? = some v → L[1 + j]? = some v := by
  obtain ⟨b0, hb⟩ := h.zero
  have e : ∀ i, i < 258 → ((L.drop 1).take 258)[i]? = L[1 + i]? := fun i hi => by rw [List.getElem?_take_of_lt hi, List.getElem?_drop]
  have hl : ((L.drop 1).take 258).length = 258 := by simp [h.len]
  refine ⟨(L.drop 1).take 258, b0, hl, ?_, fun i h1 h2 => ?_, fun j v hv => ?_⟩
  · rw [e 0 (by omega)]; exact hb
  · rw [e i (by omega)]; exact h.held i h1 h2
  · have := (List.getElem?_eq_some_iff.1 hv).1
    rw [e j (by rw [hl] at this; exact this)] at hv
    exact hv

theorem runs_stops (F : Fence) (n : Nat) (h6 : F.fn 41) (hro : F.round = none) (hn : 1 ≤ n) {c : Int} {l : List Int} {L : List Value} {dv : Value} (hc : Cells c l L dv) (hr : Rising 2 l) (Bn x : Nat) (w : World)
    (hBn : w.cell? ⟨Bn, 0, none⟩ = some (.pointer (some ⟨x, 0, none⟩))) (hx : w.heap[x]? = some (.cells L.toArray 60 (0, 0))) :
    SeqStopsK F n Try.prog 41 #[.pointer (some ⟨Bn, 0, none⟩)] encs (fun _ _ => True) (fun ys => ys = runsOf l) (fun pre => pre <+: runsOf l) (runsOf l).length w := by
  obtain ⟨A, b0, a1, a2, a3, a4⟩ := hc.row
  intro s J Jx W hW _ _ hY h0
  exact runs1_in F n h6 hro hn s Bn x l b0 A J Jx hr a1 a2 a3 hY W ((hW.cell (World.block_lt_of_cell? w _ hBn)).trans hBn)
    (fun j v hv => (hW.cell (p := ⟨x, 1 + j, none⟩) (lt_of_block hx)).trans ((list_cell hx (1 + j)).trans (a4 j v hv))) h0

theorem runs_in (F : Fence) (n : Nat) (h5 : F.fn 30) (hro : F.round = none) (p : Option Addr) (w : World) :
    CallsIn F n Try.prog 30 #[.pointer p] w fun e w' => e = .returned (.func (.func 41) #[] #[.pointer (some ⟨w.heap.size, 0, none⟩)]) ∧ w' = w.alloc (.cells #[.pointer p] 24) := by
  refine callsIn_of_wp Try.func30 rfl h5 ?_ hro
  simp only [Try.ntmps30, List.size_toArray, List.length_cons, List.length_nil, Nat.reduceAdd, Nat.reduceSub, Array.replicate_succ, Array.replicate_zero, List.push_toArray, List.append_toArray, List.nil_append, List.cons_append]
  gi_wp2
  go_ret
  exact ⟨rfl, rfl⟩

/-- The last of what has come. -/
def lastOf (pre : List (Int × Int)) : Int := (pre.getLast?.map (·.2)).getD 0
theorem lastOf_snoc (pre : List (Int × Int)) (r : Int × Int) : lastOf (pre ++ [r]) = r.2 := by simp [lastOf]
theorem lastOf_runs (l : List Int) : lastOf (runsOf l) = topOf l := by simp [lastOf, topOf, runsOf_last, List.getLastD_eq_getLast?]

theorem top_range {l : List Int} (h : Rising 2 l) : 0 ≤ topOf l ∧ topOf l ≤ 256 := by
  unfold topOf
  rw [List.getLastD_eq_getLast?]
  cases e : l.getLast? with
  | none => simp
  | some y =>
    have := h.2 y (List.mem_of_getLast? e)
    simp; omega

set_option maxRecDepth 100000 in
set_option maxHeartbeats 2000000 in
theorem Top_in (n : Nat) (hn : 3 ≤ n) {w : World} {x : Nat} {o : Option Nat} {t : T} (h : Track w x o t) :
    CallsIn Fence.wide n Try.prog 16 #[.pointer (some ⟨x, 0, none⟩)] w fun e W' => e = .returned (.int .u32 t.top) ∧ Below w.heap.size w W' := by
  have h1 : 1 ≤ n := by omega
  obtain ⟨L, dv, g1, g2, _⟩ := h.blk
  have hxl := lt_of_block g1
  have hr := h.ok.far
  refine callsIn_of_wp_marks Try.func16 rfl trivial ?_ rfl
  simp only [Try.ntmps16, List.size_toArray, List.length_cons, List.length_nil, Nat.reduceAdd, Nat.reduceSub, Array.replicate_succ, Array.replicate_zero, List.push_toArray, List.append_toArray, List.nil_append, List.cons_append]
  gi_wp2_with (refine ⟨trivial, ?_⟩; gi_at_call 30; refine (runs_in Fence.wide (n - 1) trivial rfl _ _).mono ?_; rintro e w' ⟨rfl, rfl⟩)
  have bO := Boxed.new w 3 (.int .i64 0)
  have bN := Boxed.new (w.alloc (.cells #[.int .i64 0] 3)) 24 (.pointer (some ⟨x, 0, none⟩))
  rw [World.size_alloc] at bN
  have hB0 : Below w.heap.size w ((w.alloc (.cells #[.int .i64 0] 3)).alloc (.cells #[.pointer (some ⟨x, 0, none⟩)] 24)) := ((Below.refl _ w).alloc (Nat.le_refl _) _).alloc (by simp) _
  refine wpIn_rangeFunc_ownF (F := Fence.wide) rfl h1 (gf := 41) (lb := #[.pointer (some ⟨w.heap.size + 1, 0, none⟩)]) rfl trivial (enters_of Try.func41 (by kernel_rfl) rfl)
    (runs_stops Fence.wide (n - 1) trivial rfl (by omega) g2 hr (w.heap.size + 1) x _ bN.cell (blk_alloc _ (blk_alloc _ g1))) (fun _ _ => trivial) (fun _ _ _ _ _ _ _ _ => trivial) (Below.refl _ _) (fun _ => rfl)
    (fun pre W => Boxed W w.heap.size 3 (.int .i64 (lastOf pre)) ∧ Below w.heap.size w W)
    (fun _ _ _ => False)
    (OwnFrom.and (Own.from (fun s A B row hs hg hrow => hs.kept hg (fun e => by obtain ⟨o', ho', hc'⟩ := hrow _ e.symm; rw [show A.heap[w.heap.size]? = _ from hs] at ho'; cases ho'; cases hc')) _) (ownFrom_below (Nat.le_refl _) (by simp; omega)))
    (fun _ _ _ _ _ hs _ _ => hs)
    ⟨bO.alloc _, hB0⟩
    (fun r => { tmps := #[.pointer (some ⟨x, 0, none⟩), undef, .int .u32 0, .pointer (some ⟨w.heap.size, 0, none⟩), undef, .int .i64 r.2, .pointer (some ⟨x, 0, none⟩), .bool false, .pointer (some ⟨x, 0, none⟩), .func (.func 41) #[] #[.pointer (some ⟨w.heap.size + 1, 0, none⟩)], .int .i64 r.1, .int .i64 r.2, undef, undef, undef, undef, undef, undef, undef, undef], defers := [] }) ?assign ?body ?done ?stop
  case assign =>
    intro l x W K hK
    gi_wp2
    exact hK
  case body =>
    rintro l pre r W ⟨hb, hB⟩ hlt
    have hc := hb.cell
    have hf := hb.frozen
    gi_wp2
    exact ⟨KeepsOthers.setCell _ _ _, trivial, by rw [lastOf_snoc]; exact hb.set _, hB.trans ((Below.refl w.heap.size W).setCell (p := ⟨w.heap.size, 0, none⟩) (Nat.le_refl _) _)⟩
  case done =>
    rintro D ys W hD rfl ⟨hb, hB⟩ hK
    have hc := hb.cell
    rw [lastOf_runs] at hc
    have hcx := (hB.cell (p := ⟨x, 0, none⟩) hxl).trans (g2.cell0 g1)
    have htop := top_range hr
    have hw : IntKind.u32.wrap (topOf t.far) = topOf t.far := IntWalk.u32_in _ (by omega)
    have HT := hid (show t.top = (t.cum + topOf t.far) % 4294967296 from rfl)
    gi_wp2
    gi_quiet (fail)
    gi_wp2
    refine ⟨by simp, .inl ⟨_, _, rfl, run_takeDeferred (w := W.drewN nq) hK, ?_⟩⟩
    have hB' : Below w.heap.size w (W.drewN nq) := ⟨hB.os, hB.tape, hB.output, hB.size, hB.block⟩
    exact ⟨_, results_tmp rfl _ _ _, by rw [HT.out]; rfl, hB'.trans (belowK_b (w := w) (Nat.le_refl _) (W.drewN nq) D _ _ (by simp at hD; omega) hK rfl rfl)⟩
  case stop =>
    rintro D c pre W _ _ h _
    exact h.elim

theorem Top_any {w : World} {x : Nat} {o : Option Nat} {t : T} (h : Track w x o t) : Calls Try.prog 16 #[.pointer (some ⟨x, 0, none⟩)] w fun e w' => e = .returned (.int .u32 t.top) ∧ Kept [] w w' :=
  (callsIn_wide.1 (Top_in 3 (Nat.le_refl _) h)).mono fun _ _ ⟨h1, h2⟩ => ⟨h1, Kept.ofBelow h2⟩

end Go.Proofs.Ythdcodjdecnniaa
