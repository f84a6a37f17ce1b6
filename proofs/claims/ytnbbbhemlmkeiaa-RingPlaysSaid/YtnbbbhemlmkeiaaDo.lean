/-
  'do' of layer 7: a deed on the ring and on the reference: both tell the same, and read as one queue behind it.
-/
import Derived.Test.YtnbbbhemlmkeiaaSame
namespace Go.Proofs.Ytnbbbhemlmkeiaa
open Go.RowKit

theorem RingQ.old {B : Nat → Prop} {w : World} {x s : Nat} {q : Q} (h : RingQ B w x s q) : RingQ (fun b => B b ∧ b < w.heap.size) w x s q :=
  h.mono (fun _ h1 h2 => ⟨h2, h1⟩) (fun b hb => h.apart b hb.1)
theorem RefQ.old {B : Nat → Prop} {w : World} {y G : Nat} {q : Q} (h : RefQ B w y q G) : RefQ (fun b => B b ∧ b < w.heap.size) w y q G :=
  h.mono (fun _ h1 h2 => ⟨h2, h1⟩) (fun b hb => h.apart b hb.1)
theorem RefQ.up {B : Nat → Prop} {w : World} {y G G' : Nat} {q : Q} (h : RefQ B w y q G) (hG : G ≤ G') : RefQ B w y q G' := by
  obtain ⟨vf, gv, h1, h2, h3, h4⟩ := h.blk
  exact ⟨h.ok, h.apart, vf, gv, h1, h2, Nat.le_trans h3 hG, h4⟩

/-- What a deed does to the queue. -/
def Q.act (q : Q) (d : Int) (bs : List Int) : Q := if d = 0 then q.fill bs else if d = 1 then q.take else if d = 2 then q.give else q

def Did (w : World) (x s y : Nat) (q : Q) (G : Nat) (e : Ending) (w' : World) : Prop :=
  e = .returned (.bool true) ∧ Both w' x s y q G ∧ Kept [x, s, y] w w'

set_option maxHeartbeats 1000000 in
theorem do_give {w : World} {x s y G : Nat} {q : Q} {bv : Value} {i : Int} (hb : Both w x s y q G) (h1c : ∃ ao n c, bv = .slice ao n c) (hG : G < 1000000) :
    Calls Try.prog 19 #[.pointer (some ⟨x, 0, none⟩), .pointer (some ⟨y, 0, none⟩), .agg #[.int .i64 2, bv, .int .i64 i]] w (Did w x s y q.give (G + 1)) := by
  obtain ⟨ao, n, c, rfl⟩ := h1c
  have hlx := hb.ring.lt
  have hly := hb.ref.lt
  have hxy := hb.xy
  have hsy := hb.sy
  go_enter Try.func19, Try.ntmps19
  go_wp2_with fail
  have hk0 := (Kept.refl [] w).alloc (.cells #[.int .i64 2, .slice ao n c, .int .i64 i] 30)
  refine (give_any (hb.kept hk0).ring).mono ?_
  rintro e w1 ⟨rfl, hq1, hk1⟩
  have hr1 := (hb.kept hk0).ref.kept hk1 (by simp; omega) (fun b _ h => by simp; omega)
  go_wp2_with fail
  refine (refgive_any hr1 hG).mono ?_
  rintro e w2 ⟨rfl, hr2, hk2⟩
  have hq2 := hq1.kept hk2 (by simp; omega) (by simp; omega) (fun b _ h => by simp; omega)
  go_wp2
  go_ret
  exact ⟨rfl, ⟨hq2, hr2, hxy, hsy⟩, ((hk0.tr0' hk1).mono (T := [x, s, y]) (by simp)).trans hk2 (by simp)⟩

set_option maxHeartbeats 1000000 in
theorem do_own {w : World} {x s y G : Nat} {q : Q} {bv : Value} {d i : Int} (hb : Both w x s y q G) (h1c : ∃ ao n c, bv = .slice ao n c) (h0 : d ≠ 0) (h1 : d ≠ 1) (h2 : d ≠ 2) :
    Calls Try.prog 19 #[.pointer (some ⟨x, 0, none⟩), .pointer (some ⟨y, 0, none⟩), .agg #[.int .i64 d, bv, .int .i64 i]] w (Did w x s y q (G + 1)) := by
  obtain ⟨ao, n, c, rfl⟩ := h1c
  have b0 : (d == 0) = false := beq_eq_false_iff_ne.2 h0
  have b1 : (d == 1) = false := beq_eq_false_iff_ne.2 h1
  have b2 : (d == 2) = false := beq_eq_false_iff_ne.2 h2
  clear h0 h1 h2
  go_enter Try.func19, Try.ntmps19
  go_wp2_with fail
  have hk0 := (Kept.refl [] w).alloc (.cells #[.int .i64 d, .slice ao n c, .int .i64 i] 30)
  refine (owner_any (hb.kept hk0).ring _).mono ?_
  rintro e w1 ⟨rfl, rfl⟩
  go_wp2_with fail
  refine (refowner_any (hb.kept hk0).ref _).mono ?_
  rintro e w1 ⟨rfl, hk1⟩
  have hb1 := (hb.kept hk0).kept hk1
  go_wp2
  go_ret
  exact ⟨rfl, ⟨hb1.ring, hb1.ref.up (Nat.le_succ _), hb1.xy, hb1.sy⟩, (hk0.tr hk1).mono (by simp)⟩

set_option maxHeartbeats 1000000 in
theorem do_take {w : World} {x s y G : Nat} {q : Q} {bv : Value} {i : Int} (hb : Both w x s y q G) (h1c : ∃ ao n c, bv = .slice ao n c) :
    Calls Try.prog 19 #[.pointer (some ⟨x, 0, none⟩), .pointer (some ⟨y, 0, none⟩), .agg #[.int .i64 1, bv, .int .i64 i]] w (Did w x s y q.take (G + 1)) := by
  obtain ⟨ao, n, c, rfl⟩ := h1c
  have hlx := hb.ring.lt
  have hly := hb.ref.lt
  have hxy := hb.xy
  have hsy := hb.sy
  go_enter Try.func19, Try.ntmps19
  go_wp2_with fail
  have hk0 := (Kept.refl [] w).alloc (.cells #[.int .i64 1, .slice ao n c, .int .i64 i] 30)
  refine (take_any (hb.kept hk0).ring).mono ?_
  rintro e w1 ⟨v1, rfl, hown, hq1, hk1⟩
  have hr1 := (hb.kept hk0).ref.kept hk1 (by simp; omega) (fun b _ h => by simp; omega)
  have HO := hid hown
  clear hown
  go_wp2_with fail
  refine (reftake_any hr1).mono ?_
  rintro e w2 ⟨v2, rfl, hin2, hr2, hk2⟩
  have hin1 := (SliceIn.owned HO.out).kept hk2 (fun b _ h => by simp at h ⊢; omega)
  have hq2 := hq1.kept hk2 (by simp; omega) (by simp; omega) (fun b _ h => by simp; omega)
  have hc1 := conv_str hin1
  have hc2 := conv_str hin2
  have H1 := hid hin1
  have H2 := hid hin2
  clear hin1 hin2
  go_wp2
  go_ret
  exact ⟨rfl, ⟨hq2, hr2.up (Nat.le_succ _), hxy, hsy⟩, ((hk0.tr0' hk1).mono (T := [x, s, y]) (by simp)).trans hk2 (by simp)⟩

/-- A row of bytes at block g, len of them. -/
def ByteRow (w : World) (g len : Nat) : Prop := ∃ cur, w.heap[g]? = some (.cells cur 5 (0, 0)) ∧ ∀ j, j < len → ∃ z, cur[j]? = some (.int .u8 z)

theorem ByteRow.set {w : World} {g len k : Nat} (h : ByteRow w g len) (z : Int) : ByteRow (w.setCell ⟨g, k, none⟩ (.int .u8 z)) g len := by
  obtain ⟨cur, h1, h2⟩ := h
  refine ⟨_, blk_set h1 k _, fun j hj => ?_⟩
  obtain ⟨z', hz⟩ := h2 j hj
  rw [Array.getElem?_setIfInBounds]
  by_cases hjk : k = j
  · subst hjk
    exact ⟨z, by rw [if_pos rfl, if_pos (Array.getElem?_eq_some_iff.1 hz).1]⟩
  · exact ⟨z', by rw [if_neg hjk]; exact hz⟩

theorem ByteRow.kept {w w' : World} {S : List Nat} {g len : Nat} (h : ByteRow w g len) (hk : Kept S w w') (hg : g ∉ S) : ByteRow w' g len := by
  obtain ⟨cur, h1, h2⟩ := h
  exact ⟨cur, hk.blk h1 hg, h2⟩

theorem ByteRow.owned {w : World} {base g n cap : Nat} {xs : List Int} (h : w.ownsRow base 5 1 (.slice (some ⟨g, 0, none⟩) n cap) n (u8s xs)) (hn : n = xs.length) : ByteRow w g n := by
  rcases h.2 with ⟨h1, _⟩ | ⟨g', cap', cur, hv, _, hb, _, _, _, ht⟩
  · cases h1
  · cases hv
    refine ⟨cur, hb, fun j hj => ?_⟩
    have h1 : (cur.toList.take (n * 1))[j]? = (u8s xs)[j]? := by rw [ht]
    rw [List.getElem?_take, if_pos (by omega)] at h1
    have hj' : j < xs.length := by omega
    refine ⟨xs[j], ?_⟩
    simpa [u8s, hj'] using h1

set_option maxHeartbeats 2000000 in
theorem do_fill {C : Nat → Prop} {w : World} {x s y G : Nat} {q : Q} {bv : Value} {bs : List Int} {i : Int} (hb : Both w x s y q G) (hv : SliceIn C w 1 bv bs.length (u8s bs)) (hC : ∀ b, C b → b ≠ x ∧ b ≠ s ∧ b ≠ y)
    (hlen : bs.length ≤ 140737488351232) (hd : q.dropped < 1000000) :
    Calls Try.prog 19 #[.pointer (some ⟨x, 0, none⟩), .pointer (some ⟨y, 0, none⟩), .agg #[.int .i64 0, bv, .int .i64 i]] w (Did w x s y (q.fill bs) (G + 1)) := by
  obtain ⟨j0, hj, hy0, hy1, hy2⟩ := info_parts info5
  have HV := hid hv
  obtain ⟨ao, vcap, rfl⟩ := hv.form
  have hlx := hb.ring.lt
  have hly := hb.ref.lt
  have hxy := hb.xy
  have hsy := hb.sy
  clear hv
  have k1 := (Kept.refl [] w).alloc (.cells #[.int .i64 0, .slice ao bs.length vcap, .int .i64 i] 30)
  have hbox := blk_new w (.cells #[.int .i64 0, .slice ao bs.length vcap, .int .i64 i] 30)
  have k2 := k1.alloc (.cells #[] 5)
  have hown0 := World.ownsRow_made (e := 5) (size := 1) (base := w.heap.size + 1) (w.alloc (.cells #[.int .i64 0, .slice ao bs.length vcap, .int .i64 i] 30)) #[] 0 (by simp) (Nat.zero_le _) rfl
  rw [World.size_alloc] at hown0
  have HO0 := hid hown0
  have HBX := hid hbox
  clear hown0 hbox
  go_enter Try.func19, Try.ntmps19
  go_wp2_with (at_builtin; refine wpList_append_in _ rfl (.tmp 22) (.tmp 24) 28 rfl (w.heap.size + 1) 5 j0 (.int .u8 0) 1 1 Try.underlying28 hj hy0 hy1 hy2 rfl (by decide) _ 0 [] rfl HO0.out C _ bs.length (u8s bs) rfl (HV.out.kept k2 (fun _ _ _ => by simp)) (u8s_one bs) (by unfold maxLen; omega) (by omega) (by simp) ?_)
  intro v1 w1 hown1 hgrow1 hnil
  have k3 := k2.grown hgrow1 (fun k h => by cases h; exact .inr (Nat.le_succ _))
  obtain ⟨g1, c1, rfl, hg1⟩ : ∃ g c, v1 = .slice (some ⟨g, 0, none⟩) bs.length c ∧ w.heap.size + 1 ≤ g := by
    rcases hown1.2 with ⟨h, _⟩ | ⟨g, c, _, h, hb, _⟩
    · exact absurd h hnil
    · exact ⟨g, c, h, hb⟩
  have hrow := ByteRow.owned hown1 rfl
  have hg1l := (hown1.lt g1 rfl).2
  have hbx1 := (Kept.grown (S := []) ((Kept.refl [] _).alloc (.cells #[] 5)) hgrow1 (fun k h => by cases h; exact .inr (by simp))).blk HBX.out (by simp)
  have hq1 := (hb.ring.old.kept k3 (by simp) (by simp) (fun _ _ _ => by simp)).mono (C := fun b => (b ≠ x ∧ b ≠ s ∧ b ≠ y) ∧ b ≠ g1) (fun b _ h => ⟨h.1, by omega⟩) (fun b h => ⟨h.1.1, h.1.2.1⟩)
  have hin1 := (SliceIn.owned hown1)
  have HI1 := hid hin1
  have HR := hid hrow
  have HBX1 := hid hbx1
  clear hown1 hin1 hrow hbx1
  have kz := k3.size
  go_wp2_with fail
  refine (fill_any hq1 (fun k hk => ⟨⟨by omega, by omega, by omega⟩, by omega⟩) (fun b hb => by omega) HI1.out hd).mono ?_
  rintro e w2 ⟨rfl, hq2, hk2⟩
  have hr2 := HR.out.kept hk2 (by simp; omega)
  have HR2 := hid hr2
  clear hr2
  go_wp2_with fail
  go_loopw [9] (fun i wr => ∃ k : Nat, k ≤ bs.length ∧ i = .int .i64 k ∧ ByteRow wr g1 bs.length ∧ Kept [g1] w2 wr) (fun i _ => bs.length - (intOf i).toNat)
  case atStart => exact ⟨0, Nat.zero_le _, rfl, HR2.out, Kept.refl _ _⟩
  case round =>
    obtain ⟨k, hk, rfl, hbr, hkp⟩ := hrel
    by_cases hlt : k < bs.length
    · have HBR := hid hbr
      obtain ⟨cur, hcur, hz⟩ := hbr
      obtain ⟨z, hz⟩ := hz k hlt
      have cz := (blk_cell hcur k).trans hz
      have cf := blk_free hcur
      clear hcur hz
      go_wp2
      go_roundw
      case rel => exact ⟨k + 1, by omega, by go_num, HBR.out.set _, hkp.setCell (.inl (by simp)) _⟩
      case measure => simp [intOf]; omega
    · have hq3 := hq2.kept hkp (by simp; omega) (by simp; omega) (fun b _ h => by simp [h.2])
      have k5 : Kept [x, s] w wr := (k3.tr0' hk2).trans hkp (fun j hj => by simp at hj; subst hj; exact .inr (by omega))
      have hr3 := (hb.ref.old.kept k5 (by simp; omega) (fun b _ h => by simp; omega)).mono (C := fun b => b ≠ x ∧ b ≠ s ∧ b ≠ y) (fun b _ h => h.1) (fun b h => h.2.2)
      have hbx := hkp.blk (hk2.blk HBX1.out (by simp; omega)) (by simp; omega)
      have d1 := blk_cell hbx 1
      simp at d1
      have hV3 := HV.out.kept k5 (fun b _ h => by have := hC b h; simp; omega)
      have HV3 := hid hV3
      have hwz := k5.size
      clear hbr hbx hV3
      go_wp2_with fail
      refine (reffill_any hr3 (fun k hk => ⟨by omega, by omega, by omega⟩) HV3.out hd).mono ?_
      rintro e w4 ⟨rfl, hr4, hk4⟩
      have hq4 := (hq3.kept hk4 (by simp; omega) (by simp; omega) (fun b _ h => by simp [h.1.2.2])).mono (C := fun b => b ≠ x ∧ b ≠ s ∧ b ≠ y) (fun b _ h => h.1) (fun b h => ⟨h.1, h.2.1⟩)
      go_wp2
      go_ret
      exact ⟨rfl, ⟨hq4, hr4.up (Nat.le_succ _), hxy, hsy⟩, (k5.mono (T := [x, s, y]) (by simp)).trans hk4 (by simp)⟩

theorem do_any {C : Nat → Prop} {w : World} {x s y G : Nat} {q : Q} {bv : Value} {bs : List Int} {d i : Int} (hb : Both w x s y q G) (hv : SliceIn C w 1 bv bs.length (u8s bs)) (hC : ∀ b, C b → b ≠ x ∧ b ≠ s ∧ b ≠ y)
    (hlen : bs.length ≤ 140737488351232) (hd : q.dropped < 1000000) (hG : G < 1000000) :
    Calls Try.prog 19 #[.pointer (some ⟨x, 0, none⟩), .pointer (some ⟨y, 0, none⟩), .agg #[.int .i64 d, bv, .int .i64 i]] w (Did w x s y (q.act d bs) (G + 1)) := by
  have hf : ∃ ao n c, bv = .slice ao n c := by obtain ⟨ao, c, h⟩ := hv.form; exact ⟨_, _, _, h⟩
  unfold Q.act
  by_cases h0 : d = 0
  · subst h0
    rw [if_pos rfl]
    exact do_fill hb hv hC hlen hd
  · rw [if_neg h0]
    by_cases h1 : d = 1
    · subst h1
      rw [if_pos rfl]
      exact do_take hb hf
    · rw [if_neg h1]
      by_cases h2 : d = 2
      · subst h2
        rw [if_pos rfl]
        exact do_give hb hf hG
      · rw [if_neg h2]
        exact do_own hb hf h0 h1 h2

theorem Q.act_n (q : Q) (d : Int) (bs : List Int) : (q.act d bs).n = q.n ∧ (q.act d bs).dropped ≤ q.dropped + 1 := by
  unfold Q.act Q.fill Q.take Q.give Q.filled Q.missed Q.taken Q.given
  repeat' split
  all_goals simp

end Go.Proofs.Ytnbbbhemlmkeiaa
