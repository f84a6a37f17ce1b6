/-
  The law JudgeEnds: what it returns.
-/
import Derived.Test.YtepadejkeokbcaaGood2
namespace Go.Proofs.Ytepadejkeokbcaa
open Go.RowKit Go.Maps

/-- Each beginning of a trace that may be is good, and its next mark may be. -/
theorem good_all_go (L : List Mark) : ∀ (n j : Nat), n = L.length - j → j ≤ L.length → Good (L.take j) (courtOf (L.take j)) → (judgeG (courtOf (L.take j)) (L.drop j) j).2 = 0 →
    ∀ k, j ≤ k → ∀ h : k < L.length, Good (L.take k) (courtOf (L.take k)) ∧ (markR (courtOf (L.take k)) L[k]).1 = 0
  | 0, j, hn, hj, hg, _, k, hk, h => by omega
  | n + 1, j, hn, hj, hg, h, k, hk, hkl => by
    have hlt : j < L.length := by omega
    rw [List.drop_eq_getElem_cons hlt, judgeG] at h
    split at h
    · rename_i h0; exact absurd h h0
    · rename_i h0
      have h0' : (markR (courtOf (L.take j)) L[j]).1 = 0 := Classical.byContradiction h0
      have hg' : Good (L.take (j + 1)) (courtOf (L.take (j + 1))) := by
        rw [courtOf_snoc hlt, List.take_succ_eq_append_getElem hlt]
        exact good_step hg h0'
      rw [← courtOf_snoc hlt] at h
      by_cases hjk : j = k
      · subst hjk; exact ⟨hg, h0'⟩
      · exact good_all_go L n (j + 1) (by omega) (by omega) hg' h k (by omega) hkl
theorem good_all {L : List Mark} (h : (judgeOf L).2 = 0) (k : Nat) (hk : k < L.length) : Good (L.take k) (courtOf (L.take k)) ∧ (markR (courtOf (L.take k)) L[k]).1 = 0 :=
  good_all_go L L.length 0 (by omega) (Nat.zero_le _) good0 h k (Nat.zero_le _) hk

theorem mem_take {L : List Mark} {i k : Nat} (hi : i < k) (hk : k < L.length) : L[i] ∈ L.take k := List.mem_take_iff_getElem.2 ⟨i, by omega, rfl⟩

theorem ends_ok {L : List Mark} (h : (judgeOf L).2 = 0) {i k : Nat} (hik : i < k) (hk : k < L.length) (hover : L[i].is = 4 ∨ (L[i].is = 3 ∧ L[i].notice ≠ 1)) (hof : L[k].of L[i].key = true) :
    L[k].is ≠ 1 ∧ L[k].is ≠ 4 ∧ ¬ (L[i].is = 3 ∧ L[k].is = 3) := by
  obtain ⟨g, h0⟩ := good_all h k hk
  have hm := mem_take hik hk
  generalize L[k] = y at *
  have hkey : y.key = L[i].key := (Mark.of_iff _ _).1 hof
  have hfl : (courtOf (L.take k) y.key).shut = true ∨ (courtOf (L.take k) y.key).ended = true := by
    rcases hover with h4 | ⟨h3, hn⟩
    · left
      rw [g.shut]
      exact List.any_eq_true.2 ⟨_, hm, by simp [isShut, h4, of_key, hkey]⟩
    · right
      rw [g.ended]
      exact List.any_eq_true.2 ⟨_, hm, by simp [isEnd, h3, hn, of_key, hkey]⟩
  have hin : ¬ (y.host < 0 ∨ 1 < y.host) := fun hc => by rw [markR, if_pos hc] at h0; cases h0
  rw [markR_in hin] at h0
  unfold markI at h0
  refine ⟨fun e => ?_, fun e => ?_, fun e => ?_⟩
  · rw [if_pos e, if_pos hfl] at h0; cases h0
  · rw [if_neg (by omega), if_neg (by omega), if_neg (by omega), if_pos e] at h0
    by_cases d : (courtOf (L.take k) y.key).shut = true
    · rw [if_pos d] at h0; cases h0
    · rw [if_neg d, if_pos (hfl.resolve_left d)] at h0; cases h0
  · have hen : (courtOf (L.take k) y.key).ended = true := by
      rcases hover with h4 | ⟨h3, hn⟩
      · omega
      · rw [g.ended]
        exact List.any_eq_true.2 ⟨_, hm, by simp [isEnd, h3, hn, of_key, hkey]⟩
    rw [if_neg (by omega), if_neg (by omega), if_pos e.2] at h0
    dsimp only at h0
    unfold Sd.told at h0
    split at h0
    · cases h0
    · rw [if_pos (.inl hen)] at h0; cases h0

/-- The cells of a mark, the row written out. -/
theorem MarksIn.at {w : World} {b off cap : Nat} {L : List Mark} (h : MarksIn w (.slice (some ⟨b, off, none⟩) L.length cap) L) {k : Nat} (hk : k < L.length) {j : Nat} (hj : j < 10) : w.cell? ⟨b, off + (k * 10 + j), none⟩ = L[k].cells[j]? := by
  obtain ⟨b', off', e, _, hc⟩ := h.cells hk
  cases e
  exact hc j hj

set_option maxRecDepth 100000 in
set_option maxHeartbeats 8000000 in
theorem ends_any {w0 : World} {lv : Value} {L0 : List Mark} (hl : MarksRaw w0 lv L0) : Calls Try.prog 7 #[lv] w0 fun e w' => e = .returned (.bool true) ∧ Kept [] w0 w' := by
  obtain ⟨ao0, cap0, rfl⟩ := hl.row.form
  have HL0 := hid hl
  clear hl
  go_enter Try.func7, Try.ntmps7
  go_wp2_with fail
  refine (short_any HL0.out).mono ?_
  rintro e w1 ⟨v1, rfl, hin, rfl⟩
  have hlen : (short L0).length ≤ 60 := short_few L0
  generalize short L0 = L at *
  obtain ⟨ao, cap, rfl⟩ := hin.row.form
  have HL := hid hin
  clear hin
  go_wp2_with fail
  refine (Judge_any HL.out).mono ?_
  rintro e w2 ⟨rfl, hk2⟩
  have HK2 := hid hk2
  clear hk2
  by_cases he : (judgeOf L).2 = 0
  · have HJ := hid he
    have HALL := hid (show ∀ (i k : Nat) (hik : i < k) (hk : k < L.length), (L[i].is = 4 ∨ (L[i].is = 3 ∧ L[i].notice ≠ 1)) → L[k].of L[i].key = true → L[k].is ≠ 1 ∧ L[k].is ≠ 4 ∧ ¬ (L[i].is = 3 ∧ L[k].is = 3) from fun i k hik hk h1 h2 => ends_ok he hik hk h1 h2)
    generalize judgeOf L = J at *
    obtain ⟨n, er⟩ := J
    dsimp only at he
    subst he
    go_wp2_with fail
    obtain ⟨w, hw⟩ : ∃ w : World, w = w0 := ⟨w0, rfl⟩
    subst hw
    go_loopw [5] (fun iv wr => ∃ i : Nat, i ≤ L.length ∧ iv = .int .i64 i ∧ Kept [] w wr) (fun iv _ => L.length - (intOf iv).toNat)
    case atStart => exact ⟨0, Nat.zero_le _, rfl, HK2.out⟩
    case round =>
      obtain ⟨i, hi, rfl, hkr⟩ := hrel
      have HK := hid hkr
      have HLr := hid (HL.out.kept hkr)
      clear hkr
      have hwi : IntKind.i64.wrap ((i : Int) + 1) = (i : Int) + 1 := IntWalk.i64_in _ (by omega)
      by_cases hlt : i < L.length
      · obtain ⟨b, off, hao, hb, hcell⟩ := HLr.out.cells hlt
        subst hao
        have HM := hid (HL.out.here _ (List.getElem_mem hlt))
        have c0 := hcell 0 (by omega)
        have c9 := hcell 9 (by omega)
        clear hcell
        obtain ⟨x, hx⟩ : ∃ x, L[i] = x := ⟨_, rfl⟩
        have HXE := hid hx
        rw [hx] at c0 c9
        simp only [Mark.cells, List.getElem?_cons_zero, List.getElem?_cons_succ, Nat.add_zero, ← Nat.add_assoc] at c0 c9
        by_cases h4 : x.is = 4
        · have HOK := hid (show ∀ k (hik : i < k) (hk : k < L.length), L[k].of L[i].key = true → L[k].is ≠ 1 ∧ L[k].is ≠ 4 ∧ ¬ (L[i].is = 3 ∧ L[k].is = 3) from fun k hik hk h2 => HALL.out i k hik hk (.inl (by rw [hx]; exact h4)) h2)
          have b4 : (x.is == 4) = true := by simpa using h4
          have b3 : (x.is == 3) = false := by rw [h4]; rfl
          clear h4 hx
          go_wp2_with fail
          go_loopw [7] (fun kv wr => ∃ k : Nat, i + 1 ≤ k ∧ k ≤ L.length ∧ kv = .int .i64 k ∧ Kept [] w wr) (fun kv _ => L.length - (intOf kv).toNat)
          case atStart => exact ⟨i + 1, Nat.le_refl _, by omega, by go_num, HK.out⟩
          case round =>
            obtain ⟨k, hik, hkl, rfl, hkq⟩ := hrel
            have HKQ := hid hkq
            have HLq := hid (HL.out.kept hkq)
            clear hkq
            have hwk : IntKind.i64.wrap ((k : Int) + 1) = (k : Int) + 1 := IntWalk.i64_in _ (by omega)
            by_cases hlt2 : k < L.length
            · have HOKK := hid (HOK.out k (by omega) hlt2)
              have HMY := hid (HL.out.here _ (List.getElem_mem hlt2))
              have hbq : b < wr.heap.size := by
                obtain ⟨b', off', e, h, _⟩ := HLq.out.cells hlt2
                cases e; exact h
              have y0 := HLq.out.at hlt2 (j := 0) (by omega)
              have y1 := HLq.out.at hlt2 (j := 1) (by omega)
              have y2 := HLq.out.at hlt2 (j := 2) (by omega)
              have y3 := HLq.out.at hlt2 (j := 3) (by omega)
              have y4 := HLq.out.at hlt2 (j := 4) (by omega)
              have y5 := HLq.out.at hlt2 (j := 5) (by omega)
              have y6 := HLq.out.at hlt2 (j := 6) (by omega)
              have y7 := HLq.out.at hlt2 (j := 7) (by omega)
              have y8 := HLq.out.at hlt2 (j := 8) (by omega)
              have y9 := HLq.out.at hlt2 (j := 9) (by omega)
              have x0 := HLq.out.at hlt (j := 0) (by omega)
              have x1 := HLq.out.at hlt (j := 1) (by omega)
              have x2 := HLq.out.at hlt (j := 2) (by omega)
              have x3 := HLq.out.at hlt (j := 3) (by omega)
              simp only [HXE.out] at HOKK x0 x1 x2 x3
              generalize L[k] = y at *
              obtain ⟨yo, yc, hyv⟩ := HMY.out.msg.data.form
              have HYV := hid hyv
              simp only [Mark.cells, hyv, List.getElem?_cons_zero, List.getElem?_cons_succ, Nat.add_zero, ← Nat.add_assoc] at y0 y1 y2 y3 y4 y5 y6 y7 y8 y9 x0 x1 x2 x3
              clear hyv
              have HOF := hid (show ∀ W, Calls Try.prog 16 #[.agg #[.int .i64 y.is, .int .i64 y.host, .int .u32 y.own, .int .u32 y.peer, .int .u16 y.msg.stream, .int .u16 y.msg.ssn, .int .u32 y.msg.ppid, .bool y.msg.free, .slice yo y.msg.data.length yc, .int .i64 y.notice], .int .i64 x.host, .int .u32 x.own, .int .u32 x.peer] W (Ofs W y x.key) from fun W => by
                have q := of_any W y x.key
                unfold Mark.val at q
                rw [HYV.out] at q
                exact q)
              have HSK := hid (show ∀ v, Kept [] wr v → v.cell? ⟨b, off + k * 10, none⟩ = some (.int .i64 y.is) ∧ v.cell? ⟨b, off + k * 10 + 1, none⟩ = some (.int .i64 y.host) ∧ v.cell? ⟨b, off + k * 10 + 2, none⟩ = some (.int .u32 y.own) ∧ v.cell? ⟨b, off + k * 10 + 3, none⟩ = some (.int .u32 y.peer) ∧ v.cell? ⟨b, off + k * 10 + 4, none⟩ = some (.int .u16 y.msg.stream) ∧ v.cell? ⟨b, off + k * 10 + 5, none⟩ = some (.int .u16 y.msg.ssn) ∧ v.cell? ⟨b, off + k * 10 + 6, none⟩ = some (.int .u32 y.msg.ppid) ∧ v.cell? ⟨b, off + k * 10 + 7, none⟩ = some (.bool y.msg.free) ∧ v.cell? ⟨b, off + k * 10 + 8, none⟩ = some (.slice yo y.msg.data.length yc) ∧ v.cell? ⟨b, off + k * 10 + 9, none⟩ = some (.int .i64 y.notice) ∧ v.cell? ⟨b, off + i * 10 + 1, none⟩ = some (.int .i64 x.host) ∧ v.cell? ⟨b, off + i * 10 + 2, none⟩ = some (.int .u32 x.own) ∧ v.cell? ⟨b, off + i * 10 + 3, none⟩ = some (.int .u32 x.peer) from fun v hk => ⟨hk.cell y0 (by simp), hk.cell y1 (by simp), hk.cell y2 (by simp), hk.cell y3 (by simp), hk.cell y4 (by simp), hk.cell y5 (by simp), hk.cell y6 (by simp), hk.cell y7 (by simp), hk.cell y8 (by simp), hk.cell y9 (by simp), hk.cell x1 (by simp), hk.cell x2 (by simp), hk.cell x3 (by simp)⟩)
              have HX0 := hid x0
              clear y0 y1 y2 y3 y4 y5 y6 y7 y8 y9 x0 x1 x2 x3
              go_wp2_with fail
              go_region_held3 (fun v => v.cell? ⟨b, off + k * 10, none⟩ = some (.int .i64 y.is) ∧ v.cell? ⟨b, off + k * 10 + 1, none⟩ = some (.int .i64 y.host) ∧ v.cell? ⟨b, off + k * 10 + 2, none⟩ = some (.int .u32 y.own) ∧ v.cell? ⟨b, off + k * 10 + 3, none⟩ = some (.int .u32 y.peer) ∧ v.cell? ⟨b, off + k * 10 + 4, none⟩ = some (.int .u16 y.msg.stream) ∧ v.cell? ⟨b, off + k * 10 + 5, none⟩ = some (.int .u16 y.msg.ssn) ∧ v.cell? ⟨b, off + k * 10 + 6, none⟩ = some (.int .u32 y.msg.ppid) ∧ v.cell? ⟨b, off + k * 10 + 7, none⟩ = some (.bool y.msg.free) ∧ v.cell? ⟨b, off + k * 10 + 8, none⟩ = some (.slice yo y.msg.data.length yc) ∧ v.cell? ⟨b, off + k * 10 + 9, none⟩ = some (.int .i64 y.notice) ∧ v.cell? ⟨b, off + i * 10 + 1, none⟩ = some (.int .i64 x.host) ∧ v.cell? ⟨b, off + i * 10 + 2, none⟩ = some (.int .u32 x.own) ∧ v.cell? ⟨b, off + i * 10 + 3, none⟩ = some (.int .u32 x.peer)) (first | (exact HSK.out _ ((Kept.refl [] _).drew)) | (exact HSK.out _ HK1.out) | assumption)
                (first | (go_at_call 16; refine (HOF.out _).mono ?_; rintro e w1 ⟨rfl, hk1⟩; have HK1 := hid (((Kept.refl [] wr).drew).tr hk1); clear hk1))
              obtain ⟨z0, _⟩ := HSK.out w1 HK1.out
              have zx := HK1.out.cell HX0.out (by simp)
              have HK2 := hid (HKQ.out.tr HK1.out)
              have hb1 := block_lt_of_cell z0
              cases ho : y.of x.key with
              | false =>
                go_wp2_with fail
                go_roundw
                case rel => exact ⟨k + 1, by omega, by omega, by go_num, HK2.out⟩
                case measure => simp [intOf]; omega
              | true =>
                obtain ⟨q1, q4, q3⟩ := HOKK.out ho
                have c1 : (y.is == 1) = false := by simpa using q1
                have c4 : (y.is == 4) = false := by simpa using q4
                have c5 : True := trivial
                clear q1 q4 q3
                go_wp2_with fail
                go_roundw
                case rel => exact ⟨k + 1, by omega, by omega, by go_num, HK2.out⟩
                case measure => simp [intOf]; omega
            · go_wp2_with fail
              go_roundw
              case rel => exact ⟨i + 1, by omega, by go_num, HKQ.out⟩
              case measure => simp [intOf]; omega
        · have b4 : (x.is == 4) = false := by simpa using h4
          by_cases h3 : x.is = 3
          · have b3 : (x.is == 3) = true := by simpa using h3
            have HX3 := hid h3
            by_cases hn : x.notice = 1
            · have bn : (x.notice != 1) = false := by simpa using hn
              clear h3 h4 hn hx
              go_wp2_with fail
              go_loopw [7] (fun kv wr => kv = .int .i64 ((i : Int) + 1) ∧ Kept [] w wr) (fun _ _ => 0)
              case atStart => exact ⟨rfl, HK.out⟩
              case round =>
                obtain ⟨rfl, hkq⟩ := hrel
                have HKQ := hid hkq
                clear hkq
                go_wp2_with fail
                go_roundw
                case rel => exact ⟨i + 1, by omega, by go_num, HKQ.out⟩
                case measure => simp [intOf]; omega
            · have bn : (x.notice != 1) = true := by simpa using hn
              have HOK := hid (show ∀ k (hik : i < k) (hk : k < L.length), L[k].of L[i].key = true → L[k].is ≠ 1 ∧ L[k].is ≠ 4 ∧ ¬ (L[i].is = 3 ∧ L[k].is = 3) from fun k hik hk h2 => HALL.out i k hik hk (.inr (by rw [hx]; exact ⟨h3, hn⟩)) h2)
              clear h3 h4 hn hx
              go_wp2_with fail
              go_loopw [7] (fun kv wr => ∃ k : Nat, i + 1 ≤ k ∧ k ≤ L.length ∧ kv = .int .i64 k ∧ Kept [] w wr) (fun kv _ => L.length - (intOf kv).toNat)
              case atStart => exact ⟨i + 1, Nat.le_refl _, by omega, by go_num, HK.out⟩
              case round =>
                obtain ⟨k, hik, hkl, rfl, hkq⟩ := hrel
                have HKQ := hid hkq
                have HLq := hid (HL.out.kept hkq)
                clear hkq
                have hwk : IntKind.i64.wrap ((k : Int) + 1) = (k : Int) + 1 := IntWalk.i64_in _ (by omega)
                by_cases hlt2 : k < L.length
                · have HOKK := hid (HOK.out k (by omega) hlt2)
                  have HMY := hid (HL.out.here _ (List.getElem_mem hlt2))
                  have hbq : b < wr.heap.size := by
                    obtain ⟨b', off', e, h, _⟩ := HLq.out.cells hlt2
                    cases e; exact h
                  have y0 := HLq.out.at hlt2 (j := 0) (by omega)
                  have y1 := HLq.out.at hlt2 (j := 1) (by omega)
                  have y2 := HLq.out.at hlt2 (j := 2) (by omega)
                  have y3 := HLq.out.at hlt2 (j := 3) (by omega)
                  have y4 := HLq.out.at hlt2 (j := 4) (by omega)
                  have y5 := HLq.out.at hlt2 (j := 5) (by omega)
                  have y6 := HLq.out.at hlt2 (j := 6) (by omega)
                  have y7 := HLq.out.at hlt2 (j := 7) (by omega)
                  have y8 := HLq.out.at hlt2 (j := 8) (by omega)
                  have y9 := HLq.out.at hlt2 (j := 9) (by omega)
                  have x0 := HLq.out.at hlt (j := 0) (by omega)
                  have x1 := HLq.out.at hlt (j := 1) (by omega)
                  have x2 := HLq.out.at hlt (j := 2) (by omega)
                  have x3 := HLq.out.at hlt (j := 3) (by omega)
                  simp only [HXE.out] at HOKK x0 x1 x2 x3
                  generalize L[k] = y at *
                  obtain ⟨yo, yc, hyv⟩ := HMY.out.msg.data.form
                  have HYV := hid hyv
                  simp only [Mark.cells, hyv, List.getElem?_cons_zero, List.getElem?_cons_succ, Nat.add_zero, ← Nat.add_assoc] at y0 y1 y2 y3 y4 y5 y6 y7 y8 y9 x0 x1 x2 x3
                  clear hyv
                  have HOF := hid (show ∀ W, Calls Try.prog 16 #[.agg #[.int .i64 y.is, .int .i64 y.host, .int .u32 y.own, .int .u32 y.peer, .int .u16 y.msg.stream, .int .u16 y.msg.ssn, .int .u32 y.msg.ppid, .bool y.msg.free, .slice yo y.msg.data.length yc, .int .i64 y.notice], .int .i64 x.host, .int .u32 x.own, .int .u32 x.peer] W (Ofs W y x.key) from fun W => by
                    have q := of_any W y x.key
                    unfold Mark.val at q
                    rw [HYV.out] at q
                    exact q)
                  have HSK := hid (show ∀ v, Kept [] wr v → v.cell? ⟨b, off + k * 10, none⟩ = some (.int .i64 y.is) ∧ v.cell? ⟨b, off + k * 10 + 1, none⟩ = some (.int .i64 y.host) ∧ v.cell? ⟨b, off + k * 10 + 2, none⟩ = some (.int .u32 y.own) ∧ v.cell? ⟨b, off + k * 10 + 3, none⟩ = some (.int .u32 y.peer) ∧ v.cell? ⟨b, off + k * 10 + 4, none⟩ = some (.int .u16 y.msg.stream) ∧ v.cell? ⟨b, off + k * 10 + 5, none⟩ = some (.int .u16 y.msg.ssn) ∧ v.cell? ⟨b, off + k * 10 + 6, none⟩ = some (.int .u32 y.msg.ppid) ∧ v.cell? ⟨b, off + k * 10 + 7, none⟩ = some (.bool y.msg.free) ∧ v.cell? ⟨b, off + k * 10 + 8, none⟩ = some (.slice yo y.msg.data.length yc) ∧ v.cell? ⟨b, off + k * 10 + 9, none⟩ = some (.int .i64 y.notice) ∧ v.cell? ⟨b, off + i * 10 + 1, none⟩ = some (.int .i64 x.host) ∧ v.cell? ⟨b, off + i * 10 + 2, none⟩ = some (.int .u32 x.own) ∧ v.cell? ⟨b, off + i * 10 + 3, none⟩ = some (.int .u32 x.peer) from fun v hk => ⟨hk.cell y0 (by simp), hk.cell y1 (by simp), hk.cell y2 (by simp), hk.cell y3 (by simp), hk.cell y4 (by simp), hk.cell y5 (by simp), hk.cell y6 (by simp), hk.cell y7 (by simp), hk.cell y8 (by simp), hk.cell y9 (by simp), hk.cell x1 (by simp), hk.cell x2 (by simp), hk.cell x3 (by simp)⟩)
                  have HX0 := hid x0
                  clear y0 y1 y2 y3 y4 y5 y6 y7 y8 y9 x0 x1 x2 x3
                  go_wp2_with fail
                  go_region_held3 (fun v => v.cell? ⟨b, off + k * 10, none⟩ = some (.int .i64 y.is) ∧ v.cell? ⟨b, off + k * 10 + 1, none⟩ = some (.int .i64 y.host) ∧ v.cell? ⟨b, off + k * 10 + 2, none⟩ = some (.int .u32 y.own) ∧ v.cell? ⟨b, off + k * 10 + 3, none⟩ = some (.int .u32 y.peer) ∧ v.cell? ⟨b, off + k * 10 + 4, none⟩ = some (.int .u16 y.msg.stream) ∧ v.cell? ⟨b, off + k * 10 + 5, none⟩ = some (.int .u16 y.msg.ssn) ∧ v.cell? ⟨b, off + k * 10 + 6, none⟩ = some (.int .u32 y.msg.ppid) ∧ v.cell? ⟨b, off + k * 10 + 7, none⟩ = some (.bool y.msg.free) ∧ v.cell? ⟨b, off + k * 10 + 8, none⟩ = some (.slice yo y.msg.data.length yc) ∧ v.cell? ⟨b, off + k * 10 + 9, none⟩ = some (.int .i64 y.notice) ∧ v.cell? ⟨b, off + i * 10 + 1, none⟩ = some (.int .i64 x.host) ∧ v.cell? ⟨b, off + i * 10 + 2, none⟩ = some (.int .u32 x.own) ∧ v.cell? ⟨b, off + i * 10 + 3, none⟩ = some (.int .u32 x.peer)) (first | (exact HSK.out _ ((Kept.refl [] _).drew)) | (exact HSK.out _ HK1.out) | assumption)
                    (first | (go_at_call 16; refine (HOF.out _).mono ?_; rintro e w1 ⟨rfl, hk1⟩; have HK1 := hid (((Kept.refl [] wr).drew).tr hk1); clear hk1))
                  obtain ⟨z0, _⟩ := HSK.out w1 HK1.out
                  have zx := HK1.out.cell HX0.out (by simp)
                  have HK2 := hid (HKQ.out.tr HK1.out)
                  have hb1 := block_lt_of_cell z0
                  cases ho : y.of x.key with
                  | false =>
                    go_wp2_with fail
                    go_roundw
                    case rel => exact ⟨k + 1, by omega, by omega, by go_num, HK2.out⟩
                    case measure => simp [intOf]; omega
                  | true =>
                    obtain ⟨q1, q4, q3⟩ := HOKK.out ho
                    have c1 : (y.is == 1) = false := by simpa using q1
                    have c4 : (y.is == 4) = false := by simpa using q4
                    have c3 : (y.is == 3) = false := by simpa using fun e => q3 ⟨HX3.out, e⟩
                    clear q1 q4 q3
                    go_wp2_with fail
                    go_roundw
                    case rel => exact ⟨k + 1, by omega, by omega, by go_num, HK2.out⟩
                    case measure => simp [intOf]; omega
                · go_wp2_with fail
                  go_roundw
                  case rel => exact ⟨i + 1, by omega, by go_num, HKQ.out⟩
                  case measure => simp [intOf]; omega
          · have b3 : (x.is == 3) = false := by simpa using h3
            clear h3 h4 hx
            go_wp2_with fail
            go_loopw [7] (fun kv wr => kv = .int .i64 ((i : Int) + 1) ∧ Kept [] w wr) (fun _ _ => 0)
            case atStart => exact ⟨rfl, HK.out⟩
            case round =>
              obtain ⟨rfl, hkq⟩ := hrel
              have HKQ := hid hkq
              clear hkq
              go_wp2_with fail
              go_roundw
              case rel => exact ⟨i + 1, by omega, by go_num, HKQ.out⟩
              case measure => simp [intOf]; omega
      · go_wp2_with fail
        refine (live_any _).mono ?_
        rintro e w4 ⟨rfl, hk4⟩
        have HK4 := hid (HK.out.tr hk4)
        clear hk4
        go_wp2
        go_ret
        exact ⟨rfl, HK4.out⟩
  · have be : ((judgeOf L).2 != 0) = true := by simpa using he
    generalize judgeOf L = J at *
    obtain ⟨n, er⟩ := J
    dsimp only at be
    clear he
    go_wp2_with fail
    refine (live_any _).mono ?_
    rintro e w4 ⟨rfl, hk4⟩
    have HK4 := hid (HK2.out.tr hk4)
    clear hk4
    go_wp2
    go_ret
    exact ⟨rfl, HK4.out⟩

end Go.Proofs.Ytepadejkeokbcaa
