/-
  The reference's Sent: what a side sent.
-/
import Derived.Test.YtepadejkeokbcaaOwed
namespace Go.Proofs.Ytepadejkeokbcaa
open Go.RowKit Go.Maps

def isSent (k : Key) (m : Mark) : Bool := m.is == 1 && m.of k
def sentR (L : List Mark) (k : Key) : List Msg := (L.filter (isSent k)).map (·.msg)
theorem sentR_step {L : List Mark} {j : Nat} (k : Key) (h : j < L.length) : sentR (L.take (j + 1)) k = sentR (L.take j) k ++ (if isSent k L[j] = true then [L[j].msg] else []) := by
  unfold sentR
  rw [List.take_succ_eq_append_getElem h, List.filter_append, List.map_append]
  congr 1
  simp only [List.filter_cons, List.filter_nil]
  split <;> rfl
theorem sentR_le (L : List Mark) (k : Key) : (sentR L k).length ≤ L.length := by
  unfold sentR
  rw [List.length_map]
  exact List.length_filter_le _ _
theorem sentR_mem {L : List Mark} {k : Key} {m : Msg} (h : m ∈ sentR L k) : ∃ x ∈ L, x.msg = m := by
  unfold sentR at h
  obtain ⟨x, hx, e⟩ := List.mem_map.1 h
  exact ⟨x, (List.mem_filter.1 hx).1, e⟩

theorem block_in {w : World} {b size : Nat} {cs : Array Value} {t : TypeId} {fr : Nat × Nat} (h : w.heap[b]? = some (.cells cs t fr)) (hs : cs.size = size) : SliceIn Any w size (.slice (some ⟨b, 0, none⟩) 1 1) 1 cs.toList := by
  refine ⟨by simpa using hs, .inr ⟨b, 0, 1, rfl, Nat.le_refl _, trivial, lt_of_block h, fun j u hu => ?_⟩⟩
  rw [Nat.zero_add, blk_cell h, ← Array.getElem?_toList]
  exact hu

/-- Messages of the call's own. -/
def MsgsOut (w : World) (l : List Msg) (e : Ending) (w' : World) : Prop :=
  ∃ v, e = .returned v ∧ w'.ownsRow w.heap.size 41 5 v l.length (msgsV l) ∧ Kept [] w w'

theorem kept_in {w wr w' : World} {e : TypeId} {size n : Nat} {v : Value} {xs : List Value} (hk : Kept [] w wr) (h : wr.ownsRow w.heap.size e size v n xs) (hg : wr.grownBy w' v.ownBlock) : Kept [] w w' := by
  refine hk.grown hg (fun b e => ?_)
  rcases h.2 with ⟨rfl, _⟩ | ⟨g, cap, cur, rfl, h2, _⟩
  · cases e
  · cases e; exact .inr h2

set_option maxRecDepth 100000 in
set_option maxHeartbeats 2000000 in
theorem Sent_any {w : World} {lv : Value} {L : List Mark} {k : Key} (hl : MarksIn w lv L) : Calls Try.prog 15 #[lv, .int .i64 k.host, .int .u32 k.own, .int .u32 k.peer] w (MsgsOut w (sentR L k)) := by
  obtain ⟨ao, cap, rfl⟩ := hl.row.form
  have HL := hid hl
  have hfew := hl.few
  obtain ⟨i41, hi41, hz41, hs41, hy41⟩ := info_parts Try.info41
  have I41 := hid hi41
  clear hl hi41
  have H0 := hid (show (w.alloc (.cells #[] 41)).ownsRow w.heap.size 41 5 (.slice (some ⟨w.heap.size, 0, none⟩) 0 0) 0 [] from World.ownsRow_made w #[] 0 (Nat.le_refl _) (Nat.zero_le _) rfl)
  have HP := hid (show ∀ v w', w'.ownsRow w.heap.size 41 5 v (sentR L k).length (msgsV (sentR L k)) → Kept [] w w' → MsgsOut w (sentR L k) (.returned v) w' from fun v w' h hk => ⟨v, rfl, h, hk⟩)
  generalize MsgsOut w (sentR L k) = Post at *
  go_enter Try.func15, Try.ntmps15
  go_wp2_with fail
  go_loopw [9, 10] (fun v i wr => ∃ j : Nat, j ≤ L.length ∧ i = .int .i64 j ∧ wr.ownsRow w.heap.size 41 5 v (sentR (L.take j) k).length (msgsV (sentR (L.take j) k)) ∧ Kept [] w wr) (fun _ i _ => L.length - (intOf i).toNat)
  case atStart => exact ⟨0, Nat.zero_le _, rfl, H0.out, (Kept.refl [] w).alloc _⟩
  case round =>
    obtain ⟨j, hj, rfl, hown, hkr⟩ := hrel
    obtain ⟨vo, vc, rfl⟩ := (SliceIn.owned hown).form
    have HO := hid hown
    have HK := hid hkr
    have HLr := hid (HL.out.kept hkr)
    clear hown hkr
    by_cases hlt : j < L.length
    · obtain ⟨b, off, hao, hb, hcell⟩ := HLr.out.cells hlt
      subst hao
      have HM := hid (HL.out.here _ (List.getElem_mem hlt))
      have HST := hid (sentR_step k hlt)
      have hle := sentR_le (L.take j) k
      rw [List.length_take] at hle
      have HLE := hid (show (sentR (L.take j) k).length ≤ 1000 by omega)
      have hwk : IntKind.i64.wrap ((j : Int) + 1) = (j : Int) + 1 := IntWalk.i64_in _ (by omega)
      clear hle
      generalize L[j] = m at *
      obtain ⟨mo, mc, hmv⟩ := HM.out.msg.data.form
      have HMV := hid hmv
      have c0 := hcell 0 (by omega)
      have c1 := hcell 1 (by omega)
      have c2 := hcell 2 (by omega)
      have c3 := hcell 3 (by omega)
      have c4 := hcell 4 (by omega)
      have c5 := hcell 5 (by omega)
      have c6 := hcell 6 (by omega)
      have c7 := hcell 7 (by omega)
      have c8 := hcell 8 (by omega)
      have c9 := hcell 9 (by omega)
      simp only [Mark.cells, hmv, List.getElem?_cons_zero, List.getElem?_cons_succ, Nat.add_zero, ← Nat.add_assoc] at c0 c1 c2 c3 c4 c5 c6 c7 c8 c9
      clear hcell hmv
      by_cases h1 : m.is = 1
      · have b1 : (m.is == 1) = true := by simpa using h1
        have hof := fun W => of_any W m k
        unfold Mark.val at hof
        rw [HMV.out] at hof
        have HOF := hid hof
        clear hof h1
        go_wp2_with fail
        refine (HOF.out _).mono ?_
        rintro e w1 ⟨rfl, hk1⟩
        have HK1 := hid (HK.out.tr hk1)
        have HO1 := hid (ownsRow_kept HO.out hk1 (by simp))
        have d4 := hk1.cell c4 (by simp)
        have d5 := hk1.cell c5 (by simp)
        have d6 := hk1.cell c6 (by simp)
        have d7 := hk1.cell c7 (by simp)
        have d8 := hk1.cell c8 (by simp)
        clear hk1 c0 c1 c2 c3 c4 c5 c6 c7 c8 c9
        cases hb2 : m.of k with
        | true =>
          have hst := HST.out
          rw [if_pos (by simp [isSent, b1, hb2])] at hst
          have HE := hid hst
          clear hst
          go_wp2_with (at_builtin; refine wpList_append_in _ rfl (.tmp 34) (.tmp 40) 33 rfl w.heap.size 41 i41 _ 5 40 Try.underlying33 I41.out hz41 hs41 hy41 rfl (by decide) _ _ _ rfl (HO1.out.alloc _) Any _ 1 _ rfl (block_in (blk_new _ _) rfl) (by simp [Value.oneCell']) (by have := HLE.out; unfold maxLen; omega) (by have := HLE.out; omega) (by have := HK1.out.size; simp; omega) ?_)
          intro v2 w2 ho2 hg2 _
          have HF := hid (show w2.ownsRow w.heap.size 41 5 v2 (sentR (L.take (j + 1)) k).length (msgsV (sentR (L.take (j + 1)) k)) ∧ Kept [] w w2 from by
            refine ⟨?_, kept_in (HK1.out.alloc _) (HO1.out.alloc _) hg2⟩
            rw [HE.out, List.length_append, msgsV_append]
            simpa [msgsV, Msg.cells, HMV.out] using ho2)
          clear ho2 hg2
          go_wp2
          go_roundw
          case rel => exact ⟨j + 1, by omega, by go_num, HF.out.1, HF.out.2⟩
          case measure => simp [intOf]; omega
        | false =>
          have hst := HST.out
          rw [if_neg (by simp [isSent, hb2]), List.append_nil] at hst
          have HE := hid hst
          clear hst
          go_wp2_with fail
          go_roundw
          case rel => exact ⟨j + 1, by omega, by go_num, by rw [HE.out]; exact HO1.out, HK1.out⟩
          case measure => simp [intOf]; omega
      · have b1 : (m.is == 1) = false := by simpa using h1
        have hst := HST.out
        rw [if_neg (by simp [isSent, b1]), List.append_nil] at hst
        have HE := hid hst
        clear hst h1
        go_wp2_with fail
        go_roundw
        case rel => exact ⟨j + 1, by omega, by go_num, by rw [HE.out]; exact HO.out, HK.out⟩
        case measure => simp [intOf]; omega
    · obtain rfl : j = L.length := by omega
      have e : L.take L.length = L := List.take_length
      have hO := HO.out
      rw [e] at hO
      have HZ := hid (HP.out _ _ hO HK.out)
      clear hO
      rw [e]
      go_wp2
      exact HZ.out

end Go.Proofs.Ytepadejkeokbcaa
