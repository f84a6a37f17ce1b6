/-
  judge.all, Judge, Owed, over marks that lie in memory.
-/
import Derived.Test.YtepadejkeokbcaaMark
namespace Go.Proofs.Ytepadejkeokbcaa
open Go.RowKit Go.Maps

def marksV (l : List Mark) : List Value := l.flatMap Mark.cells
theorem marksV_length (l : List Mark) : (marksV l).length = l.length * 10 := by
  induction l with
  | nil => rfl
  | cons m l ih =>
    have e : marksV (m :: l) = m.cells ++ marksV l := rfl
    rw [e, List.length_append, ih, List.length_cons]
    have : m.cells.length = 10 := rfl
    omega
theorem marksV_get : ∀ (l : List Mark) (k : Nat) (h : k < l.length) (j : Nat), j < 10 → (marksV l)[k * 10 + j]? = l[k].cells[j]?
  | m :: l, 0, h, j, hj => by
    have e : marksV (m :: l) = m.cells ++ marksV l := rfl
    rw [e, List.getElem?_append_left (by show 0 * 10 + j < 10; omega)]
    simp
  | m :: l, k + 1, h, j, hj => by
    have e : marksV (m :: l) = m.cells ++ marksV l := rfl
    rw [e, List.getElem?_append_right (by show 10 ≤ (k + 1) * 10 + j; omega)]
    have e2 : (k + 1) * 10 + j - m.cells.length = k * 10 + j := by show (k + 1) * 10 + j - 10 = _; omega
    rw [e2, marksV_get l k (by simpa using h) j hj]
    simp

/-- lv reads as the marks L. -/
structure MarksIn (w : World) (lv : Value) (L : List Mark) : Prop where
  row : SliceIn Any w 10 lv L.length (marksV L)
  here : ∀ m ∈ L, m.here w
  few : L.length ≤ 1000
theorem MarksIn.kept {w w' : World} {lv : Value} {L : List Mark} (h : MarksIn w lv L) (hk : Kept [] w w') : MarksIn w' lv L :=
  ⟨h.row.kept hk (fun _ _ _ => by simp), fun m hm => (h.here m hm).kept hk, h.few⟩

/-- The cells of mark k. -/
theorem MarksIn.cells {w : World} {ao : Option Addr} {cap : Nat} {L : List Mark} (h : MarksIn w (.slice ao L.length cap) L) {k : Nat} (hk : k < L.length) :
    ∃ b off, ao = some ⟨b, off, none⟩ ∧ b < w.heap.size ∧ ∀ j, j < 10 → w.cell? ⟨b, off + (k * 10 + j), none⟩ = L[k].cells[j]? := by
  obtain ⟨b, off, e, _, _, hb, hc⟩ := h.row.rows (by omega)
  refine ⟨b, off, e, hb, fun j hj => ?_⟩
  have hg := marksV_get L k hk j hj
  have hlt : j < L[k].cells.length := hj
  rw [List.getElem?_eq_getElem hlt] at hg ⊢
  exact hc _ _ hg

/-! ### In plain Lean -/

def court0 : Key → Sd := fun _ => Sd.new
def courtOf (L : List Mark) : Key → Sd := L.foldl (fun c m => (markR c m).2) court0
def judgeG (c : Key → Sd) : List Mark → Nat → Nat × Int
  | [], i => (i, 0)
  | m :: r, i => if (markR c m).1 ≠ 0 then (i, (markR c m).1) else judgeG (markR c m).2 r (i + 1)
def judgeOf (L : List Mark) : Nat × Int := judgeG court0 L 0

def Small (c : Key → Sd) (n : Nat) : Prop := (∀ k, (c k).sent.length ≤ n) ∧ ∀ k x, (c k).next x ≤ n

theorem Small.mono {c : Key → Sd} {n m : Nat} (h : Small c n) (hn : n ≤ m) : Small c m := ⟨fun k => Nat.le_trans (h.1 k) hn, fun k x => Nat.le_trans (h.2 k x) hn⟩
theorem small0 : Small court0 0 := ⟨fun _ => Nat.le_refl _, fun _ _ => Nat.le_refl _⟩
theorem Small.put {c : Key → Sd} {n : Nat} {k : Key} {a : Sd} (h : Small c n) (h1 : a.sent.length ≤ n) (h2 : ∀ x, a.next x ≤ n) : Small (upd c k a) n := by
  unfold upd
  refine ⟨fun k' => ?_, fun k' x => ?_⟩
  · show (if k' = k then a else c k').sent.length ≤ n
    split
    · exact h1
    · exact h.1 k'
  · show (if k' = k then a else c k').next x ≤ n
    split
    · exact h2 x
    · exact h.2 k' x
theorem small_mark {c : Key → Sd} {n : Nat} (h : Small c n) (m : Mark) : Small (markR c m).2 (n + 1) := by
  have h' := h.mono (Nat.le_succ n)
  unfold markR
  split
  · exact h'
  · unfold markI
    split
    · split
      · exact h'
      · exact h'.put (by have := h.1 m.key; simp [Sd.send]; omega) (fun x => h'.2 _ x)
    · split
      · dsimp only
        unfold got
        split
        · exact h'
        · split
          · exact h'.put (h'.1 m.key.other) (fun x => h'.2 m.key.other x)
          · refine Small.put (h'.put (h'.1 m.key.other) (fun x => h'.2 m.key.other x)) (h'.1 m.key) (fun x => ?_)
            unfold countAt
            dsimp only
            split
            · have := h.2 m.key x; omega
            · exact h'.2 _ x
      · split
        · exact h'.put (by rw [told_sent]; exact h'.1 _) (fun x => by rw [told_next]; exact h'.2 _ x)
        · split
          · split
            · exact h'
            · split
              · exact h'
              · exact h'.put (h'.1 _) (fun x => h'.2 _ x)
          · exact h'
theorem small_fold : ∀ (L : List Mark) (c : Key → Sd) (n : Nat), Small c n → Small (L.foldl (fun c m => (markR c m).2) c) (n + L.length)
  | [], _, _, h => h
  | m :: L, c, n, h => by
    have := small_fold L _ _ (small_mark h m)
    simp only [List.foldl_cons, List.length_cons]
    rwa [show n + (L.length + 1) = n + 1 + L.length by omega]
theorem small_of (L : List Mark) : Small (courtOf L) L.length := by simpa [courtOf] using small_fold L _ 0 small0

theorem courtOf_snoc {L : List Mark} {k : Nat} (h : k < L.length) : courtOf (L.take (k + 1)) = (markR (courtOf (L.take k)) L[k]).2 := by
  rw [List.take_succ_eq_append_getElem h, courtOf, List.foldl_append]
  rfl

/-- What 'all' answers. -/
def AllOf (w : World) (L : List Mark) (e : Ending) (w' : World) : Prop :=
  (∃ mb O F, e = .returned (.tuple #[.map (some mb), .int .i64 L.length, .int .i64 0]) ∧ judgeOf L = (L.length, 0) ∧ Court w w' mb (courtOf L) O F) ∨
  (∃ (n : Nat) (er : Int), e = .returned (.tuple #[.map none, .int .i64 n, .int .i64 er]) ∧ judgeOf L = (n, er) ∧ er ≠ 0 ∧ Kept [] w w')

set_option maxRecDepth 100000 in
set_option maxHeartbeats 4000000 in
theorem all_any {w : World} {lv : Value} {L : List Mark} (hl : MarksIn w lv L) : Calls Try.prog 18 #[lv] w (AllOf w L) := by
  obtain ⟨ao, cap, rfl⟩ := hl.row.form
  have HL := hid hl
  have hfew := hl.few
  have hmm := @run_makeMap Try.prog
  have HC0 := hid (Court.made w)
  have HP := hid (show ∀ e wq, AllOf w L e wq → AllOf w L e wq from fun _ _ h => h)
  clear hl
  go_enter Try.func18, Try.ntmps18
  go_wp2_with fail
  go_loopw [12] (fun i wr => ∃ k : Nat, k ≤ L.length ∧ i = .int .i64 k ∧ judgeG (courtOf (L.take k)) (L.drop k) k = judgeOf L ∧ ∃ O F, Court w wr w.heap.size (courtOf (L.take k)) O F) (fun i _ => L.length - (intOf i).toNat)
  case atStart => exact ⟨0, Nat.zero_le _, rfl, rfl, _, _, HC0.out⟩
  case round =>
    obtain ⟨k, hk, rfl, hj, O, F, hc⟩ := hrel
    have HC := hid hc
    have HJ := hid hj
    have HLr := hid (HL.out.kept hc.kept)
    clear hc hj
    by_cases hlt : k < L.length
    · obtain ⟨b, off, hao, hb, hcell⟩ := HLr.out.cells hlt
      subst hao
      have HM := hid (HL.out.here _ (List.getElem_mem hlt))
      have HST := hid (courtOf_snoc hlt)
      have hd : L.drop k = L[k] :: L.drop (k + 1) := List.drop_eq_getElem_cons hlt
      have hJ := HJ.out
      rw [hd, judgeG] at hJ
      have HJ2 := hid hJ
      have HSM := hid (small_of (L.take k))
      have hlen : (L.take k).length ≤ 1000 := by rw [List.length_take]; omega
      have HLEN := hid hlen
      clear hd hlen hJ
      generalize L[k] = m at *
      obtain ⟨mo, mc, hmv⟩ := HM.out.msg.data.form
      have HMV := hid hmv
      have c0 := hcell 0 (by omega)
      have c1 := hcell 1 (by omega)
      have c2 := hcell 2 (by omega)
      have c3 := hcell 3 (by omega)
      have c4 := hcell 4 (by omega)
      have c5 := hcell 5 (by omega)
      have c6 := hcell 6 (by omega)
      have c7 := hcell 7 (by omega)
      have c8 := hcell 8 (by omega)
      have c9 := hcell 9 (by omega)
      simp only [Mark.cells, hmv, List.getElem?_cons_zero, List.getElem?_cons_succ, Nat.add_zero, ← Nat.add_assoc] at c0 c1 c2 c3 c4 c5 c6 c7 c8 c9
      clear hcell hmv
      have hwk : IntKind.i64.wrap ((k : Int) + 1) = (k : Int) + 1 := IntWalk.i64_in _ (by omega)
      go_wp2_with fail
      have hmark := fun W hW => mark_any (w := W) (HC.out.stay (w' := W) hW) HM.out (fun q => Nat.le_trans (HSM.out.1 q) HLEN.out) (fun q x => Nat.le_trans (HSM.out.2 q x) HLEN.out)
      unfold Mark.val at hmark
      rw [HMV.out] at hmark
      refine (hmark _ ((Kept.refl _ _).alloc _)).mono ?_
      rintro e w1 ⟨rfl, O1, F1, hc1⟩
      have HC1 := hid hc1
      clear hmark hc1
      by_cases he : (markR (courtOf (L.take k)) m).1 = 0
      · have hJ := HJ2.out
        rw [if_neg (by simp [he])] at hJ
        have HJ3 := hid hJ
        clear hJ
        go_wp2
        go_roundw
        case rel => exact ⟨k + 1, by omega, by go_num, by rw [HST.out]; exact HJ3.out, O1, F1, by rw [HST.out]; exact HC1.out⟩
        case measure => simp [intOf]; omega
      · have hJ := HJ2.out
        rw [if_pos he] at hJ
        have HE := hid he
        have be : ((markR (courtOf (L.take k)) m).1 != 0) = true := by simpa using he
        have HZ := hid (show AllOf w L (.returned (.tuple #[.map none, .int .i64 k, .int .i64 (markR (courtOf (L.take k)) m).1])) w1 from .inr ⟨k, _, rfl, hJ.symm, he, HC1.out.kept⟩)
        clear hJ he
        go_wp2
        go_ret3
        exact HZ.out
    · obtain rfl : k = L.length := by omega
      have hJ := HJ.out
      rw [List.drop_length, judgeG] at hJ
      have hC := HC.out
      rw [List.take_length] at hC
      have HZ := hid (show AllOf w L (.returned (.tuple #[.map (some w.heap.size), .int .i64 L.length, .int .i64 0])) wr from .inl ⟨_, O, F, rfl, hJ.symm, hC⟩)
      clear hJ hC
      go_wp2
      go_ret3
      exact HZ.out

end Go.Proofs.Ytepadejkeokbcaa
