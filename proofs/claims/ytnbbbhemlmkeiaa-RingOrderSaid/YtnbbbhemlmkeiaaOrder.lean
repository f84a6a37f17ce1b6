/-
  The law RingOrder, walked: whatever the number and the script, it returns true.
-/
import Derived.Test.YtnbbbhemlmkeiaaForks
import Derived.Test.YtnbbbhemlmkeiaaPush
namespace Go.Proofs.Ytnbbbhemlmkeiaa
open Go.RowKit

/-- What was filled so far: a row of the call's own, of slices that came in. -/
def InRow (base N : Nat) (w : World) (v : Value) (ins : List (List Int)) : Prop :=
  ∃ vs : List Value, w.ownsRow N 28 1 v ins.length vs ∧ (∀ (j : Nat) (u : Value) (xs : List Int), vs[j]? = some u → ins[j]? = some xs → SliceIn (· < base) w 1 u xs.length (u8s xs)) ∧ ∀ u ∈ vs, u.oneCell' = true

theorem ownsRow_keep {w w' : World} {base : Nat} {e : TypeId} {size n : Nat} {v : Value} {xs : List Value} {S : List Nat} (h : w.ownsRow base e size v n xs) (hk : Kept S w w') (hS : ∀ k, v.ownBlock = some k → k ∉ S) : w'.ownsRow base e size v n xs := by
  refine ⟨h.1, ?_⟩
  rcases h.2 with h2 | ⟨g, cap, cur, hv, hg, hb, r⟩
  · exact .inl h2
  · subst hv
    exact .inr ⟨g, cap, cur, rfl, hg, hk.blk hb (hS g rfl), r⟩

theorem InRow.kept {base N : Nat} {w w' : World} {v : Value} {ins : List (List Int)} {S : List Nat} (h : InRow base N w v ins) (hk : Kept S w w') (hv : ∀ k, v.ownBlock = some k → k ∉ S) (hb : ∀ k ∈ S, base ≤ k) : InRow base N w' v ins := by
  obtain ⟨vs, h1, h2, h3⟩ := h
  exact ⟨vs, ownsRow_keep h1 hk hv, fun j u xs hu hx => (h2 j u xs hu hx).kept hk (fun b _ hlt hm => by have := hb b hm; omega), h3⟩

theorem InRow.lt {base N : Nat} {w : World} {v : Value} {ins : List (List Int)} (h : InRow base N w v ins) : ∀ k, v.ownBlock = some k → N ≤ k ∧ k < w.heap.size := by
  obtain ⟨vs, h1, _⟩ := h
  exact h1.lt

theorem InRow.snoc {base N : Nat} {w w' : World} {v' bv : Value} {ins : List (List Int)} {bs : List Int} {vs : List Value} {S : List Nat} (h2 : ∀ (j : Nat) (u : Value) (xs : List Int), vs[j]? = some u → ins[j]? = some xs → SliceIn (· < base) w 1 u xs.length (u8s xs))
    (h3 : ∀ u ∈ vs, u.oneCell' = true) (hl : vs.length = ins.length) (hk : Kept S w w') (hS : ∀ k ∈ S, base ≤ k) (hb : SliceIn (· < base) w' 1 bv bs.length (u8s bs)) (hown : w'.ownsRow N 28 1 v' (ins.length + 1) (vs ++ [bv])) : InRow base N w' v' (ins ++ [bs]) := by
  refine ⟨vs ++ [bv], by simpa using hown, fun j u xs hu hx => ?_, fun u hu => ?_⟩
  · by_cases hj : j < ins.length
    · rw [List.getElem?_append_left (by omega)] at hu
      rw [List.getElem?_append_left hj] at hx
      exact (h2 j u xs hu hx).kept hk (fun b _ hlt hm => by have := hS b hm; omega)
    · rw [List.getElem?_append_right (by omega)] at hu
      rw [List.getElem?_append_right (by omega)] at hx
      have hlt := (List.getElem?_eq_some_iff.1 hx).1
      simp at hlt
      rw [show j - ins.length = 0 from by omega] at hx
      rw [show j - vs.length = 0 from by omega] at hu
      simp at hx hu
      subst hx; subst hu
      exact hb
  · rcases List.mem_append.1 hu with hu | hu
    · exact h3 u hu
    · rw [List.mem_singleton] at hu; subst hu
      obtain ⟨_, _, rfl⟩ := hb.form
      rfl

/-- The ring's bytes, apart from the row v. -/
def Off (x s : Nat) (v : Value) (b : Nat) : Prop := (b ≠ x ∧ b ≠ s) ∧ v.ownBlock ≠ some b

/-- Between two deeds of RingOrder. -/
structure Ordered (base N : Nat) (w0 w : World) (x s m k : Nat) (v : Value) (q : Q) (ins : List (List Int)) (o : Nat) : Prop where
  km : k ≤ m
  k3 : k ≤ 300
  ring : RingQ (Off x s v) w x s q
  row : InRow base N w v ins
  full : q.full = ins.drop o
  ole : o ≤ ins.length
  il : ins.length ≤ k
  drop : q.dropped ≤ k
  kept : Kept [] w0 w
  nle : N ≤ w.heap.size

theorem Off.new {x s b : Nat} {v : Value} {w : World} (hx : x < w.heap.size) (hs : s < w.heap.size) (hv : ∀ k, v.ownBlock = some k → k < w.heap.size) (hb : w.heap.size ≤ b) : Off x s v b :=
  ⟨⟨by omega, by omega⟩, fun h => by have := hv b h; omega⟩

/-- Behind a Fill that was taken, and the append. -/
theorem ordered_fill {base N : Nat} {w0 w w2 w3 : World} {x s m k o : Nat} {v v' bv : Value} {q q' : Q} {ins : List (List Int)} {bs : List Int} {vs : List Value} {T : TypeId} (h : Ordered base N w0 w x s m k v q ins o) (hlt : k < m) (h300 : k < 300) (hxs : x < N ∧ s < N) (hbN : base ≤ N)
    (hx0 : w0.heap.size ≤ x ∧ w0.heap.size ≤ s) (_hN : w0.heap.size ≤ N)
    (hq2 : RingQ (Off x s v) w2 x s q') (hf : q'.full = q.full ++ [bs]) (hd : q'.dropped ≤ k + 1) (hk2 : Kept [x, s] w w2) (h2 : ∀ (j : Nat) (u : Value) (xs : List Int), vs[j]? = some u → ins[j]? = some xs → SliceIn (· < base) w2 1 u xs.length (u8s xs))
    (h3 : ∀ u ∈ vs, u.oneCell' = true) (hl : vs.length = ins.length) (hb : SliceIn (· < base) w2 1 bv bs.length (u8s bs)) (hvl : ∀ k, v.ownBlock = some k → N ≤ k ∧ k < w2.heap.size)
    (hown : w3.ownsRow N 28 1 v' (ins.length + 1) (vs ++ [bv])) (hg : (w2.alloc (.cells #[bv] T)).grownBy w3 v.ownBlock) (hv' : v'.ownBlock = v.ownBlock ∨ ∀ k, v'.ownBlock = some k → w2.heap.size + 1 ≤ k) :
    Ordered base N w0 w3 x s m (k + 1) v' q' (ins ++ [bs]) o := by
  have hk3 : Kept v.ownBlock.toList w2 w3 := Kept.grown ((Kept.refl _ w2).alloc _) hg (fun k h => .inl (by simp [h]))
  have hnx : ∀ j, j < N → j ∉ v.ownBlock.toList := fun j hj hm => by simp at hm; have := (hvl j hm).1; omega
  have hq3 := hq2.old.kept hk3 (hnx x hxs.1) (hnx s hxs.2) (fun b _ hb hm => hb.1.2 (by simpa using hm))
  refine ⟨hlt, h300, hq3.mono (fun b _ hb => ⟨hb.1.1, fun he => ?_⟩) (fun b hb => hb.1), InRow.snoc h2 h3 hl hk3 (fun j hj => by simp at hj; have := (hvl j hj).1; omega) (hb.kept hk3 (fun b _ hlt hm => by simp at hm; have := (hvl b hm).1; omega)) hown, ?_, by simp; have := h.ole; omega, by simp; have := h.il; omega, hd, ?_, ?_⟩
  · rcases hv' with hv' | hv'
    · rw [hv'] at he; exact hb.1.2 he
    · have := hv' b he
      have := hb.2
      omega
  · rw [hf, h.full, List.drop_append_of_le_length h.ole]
  · exact (h.kept.trans hk2 (by simp; omega)).trans hk3 (fun j hj => by simp at hj; have := (hvl j hj).1; exact .inr (by omega))
  · exact Nat.le_trans h.nle (Nat.le_trans hk2.size hk3.size)

theorem Ordered.drewN {base N : Nat} {w0 w : World} {x s m k o : Nat} {v : Value} {q : Q} {ins : List (List Int)} (h : Ordered base N w0 w x s m k v q ins o) (n : Nat) : Ordered base N w0 (w.drewN n) x s m k v q ins o :=
  ⟨h.km, h.k3, h.ring.drewN n, h.row.kept (S := []) ((Kept.refl [] w).drewN n) (by simp) (by simp), h.full, h.ole, h.il, h.drop, h.kept.drewN n, h.nle⟩

/-- Behind a deed that filled nothing. -/
theorem ordered_rest {base N : Nat} {w0 w w2 : World} {x s m k o o' : Nat} {v : Value} {q q' : Q} {ins : List (List Int)} (h : Ordered base N w0 w x s m k v q ins o) (hlt : k < m) (h300 : k < 300) (hxs : x < N ∧ s < N) (hbx : base ≤ x ∧ base ≤ s)
    (hx0 : w0.heap.size ≤ x ∧ w0.heap.size ≤ s)
    (hq2 : RingQ (Off x s v) w2 x s q') (hf : q'.full = ins.drop o') (ho : o' ≤ ins.length) (hd : q'.dropped ≤ k + 1) (hk2 : Kept [x, s] w w2) : Ordered base N w0 w2 x s m (k + 1) v q' ins o' := by
  have hnx : ∀ j, v.ownBlock = some j → j ∉ [x, s] := fun j hj => by have := (h.row.lt j hj).1; simp; omega
  exact ⟨hlt, h300, hq2, h.row.kept hk2 hnx (by simp; omega), hf, ho, by have := h.il; omega, hd, h.kept.trans hk2 (by simp; omega), Nat.le_trans h.nle hk2.size⟩

set_option maxRecDepth 100000 in
set_option maxHeartbeats 4000000 in
theorem order_any {base : Nat} {w : World} {lv : Value} {m : Nat} {D : Nat → Int} {Bs : Nat → List Int} {I : Nat → Int} (hl : DeedsAt base w lv m D Bs I) (a : Nat) (ha : a < 256) :
    Calls Try.prog 3 #[.int .u8 a, lv] w fun e w' => e = .returned (.bool true) ∧ Kept [] w w' := by
  obtain ⟨K, hK, hK1, hK2⟩ : ∃ K : Nat, 1 + (a : Int) % 64 = (K : Int) ∧ 1 ≤ K ∧ K ≤ 64 := ⟨1 + a % 64, by omega, by omega, by omega⟩
  have HK := hid hK
  have HL := hid hl
  obtain ⟨ao, cap, rfl⟩ := hl.form
  have hbase := hl.lt
  obtain ⟨i0, hi, hz0, hz1, hz2⟩ := info_parts info28
  clear hl hK
  go_enter Try.func3, Try.ntmps3
  go_wp2_with fail
  rw [HK.out]
  refine (new_yes K _ hK1 hK2).mono ?_
  rintro e w1 ⟨x, s, rfl, hx, hs, hmk, hk1⟩
  have hq1 := hmk (Off x s (.slice none 0 0)) (fun b h => h.1)
  have hxl := hq1.lt
  have HQ1 := hid hq1
  clear hmk hq1
  go_wp2_with fail
  go_loopw [7, 8, 9] (fun v t i wr => ∃ (k o : Nat) (q : Q) (ins : List (List Int)), t = .int .i64 o ∧ i = .int .i64 k ∧ Ordered base w1.heap.size w wr x s m k v q ins o) (fun _ _ i _ => 300 - (intOf i).toNat)
  case atStart =>
    exact ⟨0, 0, Q.new K, [], rfl, rfl, ⟨Nat.zero_le _, Nat.zero_le _, HQ1.out, ⟨[], World.ownsRow_nil _ _ _ _, fun j u xs h => by simp at h, fun u hu => by cases hu⟩, rfl, Nat.zero_le _, Nat.zero_le _, Nat.zero_le _, hk1, Nat.le_refl _⟩⟩
  case round =>
    obtain ⟨k, o, q, ins, rfl, rfl, hor⟩ := hrel
    have HOR := hid hor
    obtain ⟨vo, vc, hvf⟩ : ∃ vo vc, u7 = .slice vo ins.length vc := by obtain ⟨vs, h1, _⟩ := hor.row; exact (SliceIn.owned h1).form
    have hkm := hor.km
    have hk3 := hor.k3
    clear hor
    subst hvf
    by_cases hlt : k < m ∧ k < 300
    · obtain ⟨hlt, h300⟩ := hlt
      have hlw := HL.out.kept HOR.out.kept (by simp)
      rcases hlw.rows with ⟨h, _⟩ | ⟨b, off, cap', hv, hbb, hc⟩
      · omega
      cases hv
      obtain ⟨bv, e1, e2, e3, e4, e5⟩ := hc k hlt
      have HE4 := hid e4
      have HE5 := hid e5
      obtain ⟨co, bc, rfl⟩ := e4.form
      clear hc e3 e4 e5 hlw
      have hxs : x < w1.heap.size ∧ s < w1.heap.size := HQ1.out.lt
      have hxw := HOR.out.ring.lt
      have hvw := HOR.out.row.lt
      have HOLD := hid (fun j hj => Off.new (b := j) hxw.1 hxw.2 (fun k h => (hvw k h).2) hj)
      have hd := HOR.out.drop
      have hnle := HOR.out.nle
      have hz0w := hk1.size
      have HVW := hid hvw
      clear hvw
      by_cases h0 : D k = 0
      · rw [h0] at e1
        have hact : q.act 0 (Bs k) = q.fill (Bs k) := rfl
        have han := q.act_n 0 (Bs k)
        rw [hact] at han
        clear hact h0
        go_wp2_with fail
        refine (fill_any HOR.out.ring HOLD.out (fun b hb => by omega) HE4.out (by omega)).mono ?_
        rintro e w2 ⟨rfl, hq2, hk2⟩
        by_cases hyes : Q.fits (Bs k) ∧ q.out + q.full.length < q.n
        · have hE : q.fillE (Bs k) = 0 := by simp [Q.fillE, hyes.1, hyes.2]
          have hF : (q.fill (Bs k)).full = q.full ++ [Bs k] := by simp [Q.fill, hyes.1, hyes.2, Q.filled]
          rw [hE]
          obtain ⟨vs, g1, g2, g3⟩ := HOR.out.row.kept hk2 (fun j hj => by have := (HVW.out j hj).1; simp; omega) (by simp; omega)
          have f1 := hk2.cell e1 (by simp; omega)
          have f2 := hk2.cell e2 (by simp; omega)
          have HE4' := hid (HE4.out.kept hk2 (fun b _ hlt => by simp; omega))
          have HG1 := hid g1
          have HG2 := hid g2
          have hil := HOR.out.il
          have HF := hid hF
          have hzz := hk2.size
          clear hE hF hyes g1 g2
          go_wp2_with (at_builtin; refine wpList_append_fresh _ rfl (.tmp 51) (.tmp 57) 27 rfl w1.heap.size 28 i0 (.slice none 0 0) 1 24 Try.underlying27 hi hz0 hz1 hz2 rfl (by decide) _ _ _ rfl (HG1.out.alloc _) (fun _ => True) _ 1 [.slice co (Bs k).length bc] rfl (SliceIn.one trivial) (fun u hu => by simp at hu; subst hu; rfl) (by unfold maxLen; omega) (by omega) (by simp; omega) ?_)
          intro v' w3 hown hgrow hvv
          have HO := hid (ordered_fill HOR.out hlt h300 hxs (by omega) ⟨hx, hs⟩ hz0w hq2 HF.out (by omega) hk2 HG2.out g3 (by have := HG1.out.1; simpa using this) HE4'.out (fun j hj => ⟨(HG1.out.lt j hj).1, (HG1.out.lt j hj).2⟩) hown hgrow hvv)
          clear hown hgrow hvv
          go_wp2
          go_roundw
          case rel => exact ⟨k + 1, o, _, _, rfl, by go_num, HO.out⟩
          case measure => simp [intOf]; omega
        · have hE : (q.fillE (Bs k) == 0) = false := by
            rw [beq_eq_false_iff_ne]
            unfold Q.fillE
            by_cases hf : Q.fits (Bs k)
            · have hn : ¬ q.out + q.full.length < q.n := fun h => hyes ⟨hf, h⟩
              simp [hf, hn]
            · simp [hf]
          have hF : (q.fill (Bs k)).full = q.full := by
            unfold Q.fill
            by_cases hf : Q.fits (Bs k)
            · have hn : ¬ q.out + q.full.length < q.n := fun h => hyes ⟨hf, h⟩
              simp [hf, hn, Q.missed]
            · simp [hf]
          have HO := hid (ordered_rest HOR.out hlt h300 hxs (by omega) ⟨hx, hs⟩ hq2 (hF.trans HOR.out.full) HOR.out.ole (by omega) hk2)
          clear hF hyes
          go_wp2
          go_roundw
          case rel => exact ⟨k + 1, o, _, _, rfl, by go_num, HO.out⟩
          case measure => simp [intOf]; omega
      · by_cases h1 : D k = 1
        · rw [h1] at e1
          have hact : q.act 1 (Bs k) = q.take := rfl
          have han := q.act_n 1 (Bs k)
          rw [hact] at han
          clear hact h0 h1
          have hfull := HOR.out.full
          have hole := HOR.out.ole
          by_cases hem : q.full = []
          · have hge : ins.length ≤ o := by rw [hem] at hfull; have := congrArg List.length hfull; simp at this; omega
            have hE : q.takeE = 13 := by simp [Q.takeE, hem]
            have hF : q.take.full = ins.drop o := by simp [Q.take, hem, ← hfull]
            have HFF := hid hF
            clear hem hF hfull
            go_wp2_with fail
            refine (take_any HOR.out.ring).mono ?_
            rintro e w2 ⟨v', rfl, hown, hq2, hk2⟩
            rw [hE]
            obtain ⟨to, tc, rfl⟩ := (SliceIn.owned hown).form
            have HO := hid (ordered_rest HOR.out hlt h300 hxs (by omega) ⟨hx, hs⟩ hq2 HFF.out hole (by omega) hk2)
            clear hown hE
            have hnl : decide (o < ins.length) = false := decide_eq_false (by omega)
            have hnl2 : decide ((o : Int) < (ins.length : Int)) = false := decide_eq_false (by omega)
            go_wp2_with fail
            go_quiet (fail)
            have HO' := hid (show Ordered base w1.heap.size w (w2.drewN nq) x s m (k + 1) _ _ ins o from HO.out.drewN nq)
            go_wp2
            go_roundw
            case rel => exact ⟨k + 1, o, _, _, rfl, by go_num, HO'.out⟩
            case measure => simp [intOf]; omega
          · have hge : o < ins.length := by
              rcases Nat.lt_or_ge o ins.length with h | h
              · exact h
              · rw [List.drop_eq_nil_of_le h] at hfull; exact absurd hfull hem
            have hE : q.takeE = 0 := by simp [Q.takeE, hem]
            have hF : q.take.full = ins.drop (o + 1) := by
              unfold Q.take
              rw [if_neg hem]
              show q.full.tail = _
              rw [hfull, List.tail_drop]
            have hH : ins[o]? = some q.head := by
              unfold Q.head
              rw [hfull, List.drop_eq_getElem_cons hge]
              simp [hge]
            have HFF := hid hF
            have HH := hid hH
            have hhl := HOR.out.ring.ok.head_le
            clear hem hF hfull hH
            go_wp2_with fail
            refine (take_any HOR.out.ring).mono ?_
            rintro e w2 ⟨v', rfl, hown, hq2, hk2⟩
            rw [hE]
            obtain ⟨vs, g1, g2, g3⟩ := HOR.out.row.kept hk2 (fun j hj => by have := (HVW.out j hj).1; simp; omega) (by simp; omega)
            have HO := hid (ordered_rest HOR.out hlt h300 hxs (by omega) ⟨hx, hs⟩ hq2 HFF.out hge (by omega) hk2)
            have hc1 := fun n => conv_str ((SliceIn.owned hown).kept ((Kept.refl [] w2).drewN n) (fun _ _ _ => by simp))
            obtain ⟨to, tc, rfl⟩ := (SliceIn.owned hown).form
            have hvl : vs.length = ins.length := by simpa using g1.1
            obtain ⟨u0, hu0⟩ : ∃ u0, vs[o]? = some u0 := ⟨vs[o]'(by omega), by simp⟩
            have hin0 := g2 o u0 _ hu0 HH.out
            have hc2 := fun n => conv_str (hin0.kept ((Kept.refl [] w2).drewN n) (fun _ _ _ => by simp))
            obtain ⟨uo, uc, rfl⟩ := hin0.form
            rcases id g1.2 with ⟨_, h⟩ | ⟨gb, gc, cur, hv2, _⟩
            · omega
            cases hv2
            have cu := (g1.cells (g := gb) rfl o _ hu0)
            rw [Addr.add_lit, Nat.zero_add] at cu
            clear hown hE g1 g2 g3 hu0 hin0 hvl
            have hnl : decide (o < ins.length) = true := decide_eq_true hge
            have hole2 : o ≤ 300 := by have := HOR.out.il; omega
            go_wp2_with fail
            go_quiet (fail)
            have HO' := hid (show Ordered base w1.heap.size w (w2.drewN nq) x s m (k + 1) _ _ ins (o + 1) from HO.out.drewN nq)
            go_wp2
            go_roundw
            case rel => exact ⟨k + 1, o + 1, _, _, by go_num, by go_num, HO'.out⟩
            case measure => simp [intOf]; omega
        · by_cases h2 : D k = 2
          · rw [h2] at e1
            have hact : q.act 2 (Bs k) = q.give := rfl
            have han := q.act_n 2 (Bs k)
            rw [hact] at han
            clear hact h0 h1 h2
            have hF : q.give.full = ins.drop o := by rw [← HOR.out.full]; unfold Q.give Q.given; split <;> rfl
            have HFF := hid hF
            clear hF
            go_wp2_with fail
            refine (give_any HOR.out.ring).mono ?_
            rintro e w2 ⟨rfl, hq2, hk2⟩
            have HO := hid (ordered_rest HOR.out hlt h300 hxs (by omega) ⟨hx, hs⟩ hq2 HFF.out HOR.out.ole (by omega) hk2)
            go_wp2
            go_roundw
            case rel => exact ⟨k + 1, o, _, _, rfl, by go_num, HO.out⟩
            case measure => simp [intOf]; omega
          · have b0 : (D k == 0) = false := beq_eq_false_iff_ne.2 h0
            have b1 : (D k == 1) = false := beq_eq_false_iff_ne.2 h1
            have b2 : (D k == 2) = false := beq_eq_false_iff_ne.2 h2
            have HO := hid (ordered_rest HOR.out hlt h300 hxs (by omega) ⟨hx, hs⟩ HOR.out.ring HOR.out.full HOR.out.ole (by omega) (Kept.refl _ _))
            clear h0 h1 h2
            go_wp2
            go_roundw
            case rel => exact ⟨k + 1, o, _, _, rfl, by go_num, HO.out⟩
            case measure => simp [intOf]; omega
    · have hdec : ¬ k < m ∨ (k < m ∧ ¬ k < 300) := by omega
      clear hlt
      rcases hdec with hdec | ⟨hd1, hdec⟩
      all_goals
        go_wp2_with fail
        refine (live_any _).mono ?_
        rintro e w9 ⟨rfl, hk9⟩
        go_wp2
        go_ret
        exact ⟨rfl, HOR.out.kept.tr hk9⟩

end Go.Proofs.Ytnbbbhemlmkeiaa
