/-
  The ring in memory reads as a queue ('RingQ'); what New, Fill, Take, Give, Owner do to it.
-/
import Derived.Test.YtnbbbhemlmkeiaaQ
namespace Go.Proofs.Ytnbbbhemlmkeiaa
open Go.RowKit

def u8s (xs : List Int) : List Value := xs.map (Value.int .u8)
theorem u8s_length (xs : List Int) : (u8s xs).length = xs.length := by simp [u8s]
theorem u8s_one (xs : List Int) : ∀ u ∈ u8s xs, u.oneCell' = true := by
  intro u hu
  obtain ⟨_, _, rfl⟩ := List.mem_map.1 hu
  rfl

/-- The ring at block x, its descriptors at block s, reads as the queue q; what is filled lies in blocks of which B says yes. -/
structure RingQ (B : Nat → Prop) (w : World) (x s : Nat) (q : Q) : Prop where
  ok : q.ok
  ne : s ≠ x
  apart : ∀ b, B b → b ≠ x ∧ b ≠ s
  blk : ∃ cap cs, w.heap[x]? = some (.cells #[.slice (some ⟨s, 0, none⟩) q.n cap, .int .i64 q.fillIx, .int .i64 q.takeIx, .int .i64 q.r, .int .i64 q.dropped] 55 (0, 0)) ∧
    w.heap[s]? = some (.cells cs 61 (0, 0)) ∧ q.n ≤ cap ∧ cs.size = cap * 2 ∧ (∀ u ∈ cs.toList.take (q.n * 2), u.oneCell' = true) ∧ (∀ i, i < q.n → cs[i * 2]? = some (.int .i64 (q.own i))) ∧
    ∀ j xs, q.full[j]? = some xs → ∃ v, cs[idx q.n q.r (q.out + j) * 2 + 1]? = some v ∧ SliceIn B w 1 v xs.length (u8s xs)

theorem RingQ.kept {B : Nat → Prop} {w w' : World} {x s : Nat} {q : Q} {S : List Nat} (h : RingQ B w x s q) (hk : Kept S w w') (hx : x ∉ S) (hs : s ∉ S) (hS : ∀ b, b < w.heap.size → B b → b ∉ S) : RingQ B w' x s q := by
  obtain ⟨cap, cs, h1, h2, h3, h4, h5, h6, h7⟩ := h.blk
  exact ⟨h.ok, h.ne, h.apart, cap, cs, hk.blk h1 hx, hk.blk h2 hs, h3, h4, h5, h6, fun j xs hj => let ⟨v, hv, hb⟩ := h7 j xs hj; ⟨v, hv, hb.kept hk hS⟩⟩

theorem RingQ.mono {B C : Nat → Prop} {w : World} {x s : Nat} {q : Q} (h : RingQ B w x s q) (hc : ∀ b, b < w.heap.size → B b → C b) (ha : ∀ b, C b → b ≠ x ∧ b ≠ s) : RingQ C w x s q := by
  obtain ⟨cap, cs, h1, h2, h3, h4, h5, h6, h7⟩ := h.blk
  exact ⟨h.ok, h.ne, ha, cap, cs, h1, h2, h3, h4, h5, h6, fun j xs hj => let ⟨v, hv, hb⟩ := h7 j xs hj; ⟨v, hv, hb.mono hc⟩⟩

theorem RingQ.lt {B : Nat → Prop} {w : World} {x s : Nat} {q : Q} (h : RingQ B w x s q) : x < w.heap.size ∧ s < w.heap.size := by
  obtain ⟨cap, cs, h1, h2, _⟩ := h.blk
  exact ⟨lt_of_block h1, lt_of_block h2⟩

def Q.fits (bs : List Int) : Prop := 1 ≤ bs.length ∧ bs.length ≤ 1514
instance (bs : List Int) : Decidable (Q.fits bs) := inferInstanceAs (Decidable (_ ∧ _))
def Q.fill (q : Q) (bs : List Int) : Q := if Q.fits bs then (if q.out + q.full.length < q.n then q.filled bs else q.missed) else q
def Q.fillE (q : Q) (bs : List Int) : Int := if Q.fits bs then (if q.out + q.full.length < q.n then 0 else 10) else 6

def Filled (B : Nat → Prop) (w : World) (x s : Nat) (q : Q) (bs : List Int) (e : Ending) (w' : World) : Prop :=
  e = .returned (.int .i64 (q.fillE bs)) ∧ RingQ B w' x s (q.fill bs) ∧ Kept [x, s] w w'

theorem mem_set {cs : Array Value} {i k : Nat} {v : Value} (h : ∀ u ∈ cs.toList.take k, u.oneCell' = true) (hv : v.oneCell' = true) : ∀ u ∈ (cs.setIfInBounds i v).toList.take k, u.oneCell' = true := by
  intro u hu
  rw [Array.toList_setIfInBounds, List.take_set] at hu
  rcases List.mem_or_eq_of_mem_set hu with hu | hu
  · exact h u hu
  · subst hu; exact hv

theorem fill_close {B : Nat → Prop} {w w1 w2 : World} {x s cap g cg : Nat} {q : Q} {bs : List Int} {cs : Array Value} (hok : q.ok) (hne : s ≠ x) (hap : ∀ b, B b → b ≠ x ∧ b ≠ s) (hB : ∀ k, w.heap.size ≤ k → B k) (hfit : Q.fits bs) (hf : q.out + q.full.length < q.n)
    (hcap : q.n ≤ cap) (hsz : cs.size = cap * 2) (hone : ∀ u ∈ cs.toList.take (q.n * 2), u.oneCell' = true) (how : ∀ i, i < q.n → cs[i * 2]? = some (.int .i64 (q.own i)))
    (hby : ∀ j xs, q.full[j]? = some xs → ∃ v, cs[idx q.n q.r (q.out + j) * 2 + 1]? = some v ∧ SliceIn B w 1 v xs.length (u8s xs))
    (hx1 : w1.heap[x]? = some (.cells #[.slice (some ⟨s, 0, none⟩) q.n cap, .int .i64 (next q.n q.fillIx), .int .i64 q.takeIx, .int .i64 q.r, .int .i64 q.dropped] 55 (0, 0)))
    (hs1 : w1.heap[s]? = some (.cells (cs.setIfInBounds (q.fillIx * 2) (.int .i64 1)) 61 (0, 0))) (hk1 : Kept [x, s] w w1) (hz1 : w1.heap.size = w.heap.size) (hk2 : Kept [] w1 w2)
    (hown : w2.ownsRow w1.heap.size 5 1 (.slice (some ⟨g, 0, none⟩) bs.length cg) bs.length (u8s bs)) :
    Filled B w x s q bs (.returned (.int .i64 0)) (w2.setCell ⟨s, q.fillIx * 2 + 1, none⟩ (.slice (some ⟨g, 0, none⟩) bs.length cg)) := by
  have hI := hok.fillIx_lt
  have hx2 := hk2.blk hx1 (by simp)
  have hs2 := hk2.blk hs1 (by simp)
  have e1 : q.fill bs = q.filled bs := by simp [Q.fill, hfit, hf]
  have e2 : q.fillE bs = 0 := by simp [Q.fillE, hfit, hf]
  have hs3 := blk_set hs2 (q.fillIx * 2 + 1) (.slice (some ⟨g, 0, none⟩) bs.length cg)
  have hx3 := blk_other (p := ⟨s, q.fillIx * 2 + 1, none⟩) (.slice (some ⟨g, 0, none⟩) bs.length cg) (Ne.symm hne) hx2
  have hk3 : Kept [x, s] w (w2.setCell ⟨s, q.fillIx * 2 + 1, none⟩ (.slice (some ⟨g, 0, none⟩) bs.length cg)) := (hk1.tr0 hk2).setCell (.inl (by simp)) _
  refine ⟨by rw [e2], ?_, hk3⟩
  rw [e1]
  refine ⟨hok.filled hf hfit.1 hfit.2, hne, hap, cap, _, ?_, hs3, hcap, by simp [hsz], mem_set (mem_set hone rfl) rfl, fun i hi => ?_, fun j xs hj => ?_⟩
  · rw [Q.fillIx_filled hok hf]; exact hx3
  · have hi' : i < q.n := hi
    rw [hok.own_filled hf bs i hi', Array.getElem?_setIfInBounds, if_neg (by omega), Array.getElem?_setIfInBounds]
    by_cases h : i = q.fillIx
    · subst h
      simp; omega
    · rw [if_neg (by omega), if_neg h]; exact how i hi'
  · by_cases hj2 : j < q.full.length
    · have hj3 : q.full[j]? = some xs := by
        simp only [Q.filled] at hj
        rwa [List.getElem?_append_left hj2] at hj
      obtain ⟨v, hv, hb⟩ := hby j xs hj3
      refine ⟨v, ?_, hb.kept hk3 (fun b _ hB' => by have := hap b hB'; simp [this.1, this.2])⟩
      have hpl := hok.place_ne_fill hj2 hf
      show ((cs.setIfInBounds (q.fillIx * 2) (.int .i64 1)).setIfInBounds (q.fillIx * 2 + 1) _)[idx q.n q.r (q.out + j) * 2 + 1]? = _
      rw [Array.getElem?_setIfInBounds, if_neg (by omega), Array.getElem?_setIfInBounds, if_neg (by omega)]
      exact hv
    · have hj3 : j = q.full.length ∧ xs = bs := by
        simp only [Q.filled] at hj
        rw [List.getElem?_append_right (by omega)] at hj
        have := (List.getElem?_eq_some_iff.1 hj).1
        simp at this
        have hj0 : j - q.full.length = 0 := by omega
        rw [hj0] at hj
        simp at hj
        exact ⟨by omega, hj.symm⟩
      obtain ⟨rfl, rfl⟩ := hj3
      refine ⟨.slice (some ⟨g, 0, none⟩) xs.length cg, ?_, ?_⟩
      · show ((cs.setIfInBounds (q.fillIx * 2) (.int .i64 1)).setIfInBounds (q.fillIx * 2 + 1) _)[idx q.n q.r (q.out + q.full.length) * 2 + 1]? = _
        have : idx q.n q.r (q.out + q.full.length) = q.fillIx := rfl
        rw [this, Array.getElem?_setIfInBounds, if_pos rfl]
        simp; omega
      · have h4 : SliceIn (w1.heap.size ≤ ·) (w2.setCell ⟨s, q.fillIx * 2 + 1, none⟩ (.slice (some ⟨g, 0, none⟩) xs.length cg)) 1 (.slice (some ⟨g, 0, none⟩) xs.length cg) xs.length (u8s xs) :=
          (SliceIn.owned hown).kept (S := [s]) ((Kept.refl _ _).setCell (.inl (by simp)) _) (fun b _ hle => by
            have hsl := lt_of_block hs1
            simp; omega)
        exact h4.mono fun b _ hle => hB b (by omega)

set_option maxHeartbeats 400000 in
theorem fill_yes {B C : Nat → Prop} {w : World} {x s : Nat} {q : Q} {v : Value} {bs : List Int} (hq : RingQ B w x s q) (hB : ∀ k, w.heap.size ≤ k → B k) (hC : ∀ b, C b → b ≠ x ∧ b ≠ s) (hv : SliceIn C w 1 v bs.length (u8s bs))
    (hfit : Q.fits bs) (hf : q.out + q.full.length < q.n) : Calls Try.prog 10 #[.pointer (some ⟨x, 0, none⟩), v] w (Filled B w x s q bs) := by
  obtain ⟨hok, hne, hap, cap, cs, h1, h2, h3, h4, h5, h6, h7⟩ := hq
  have hI := hok.fillIx_lt
  have hst := step_ok x s 1 q.n q.fillIx cap _ cs 0 1 w h1 h2 hne rfl rfl (by decide) hI hok.le (by rw [h6 _ hI, hok.own_fill hf]; rfl)
  have HC := hid (fun (w1 w2 : World) (g cg : Nat) => @fill_close B w w1 w2 x s cap g cg q bs cs hok hne hap hB hfit hf h3 h4 h5 h6 h7)
  obtain ⟨hl1, hl2⟩ := hfit
  obtain ⟨ao, vcap, rfl⟩ := hv.form
  have b0 : ((bs.length : Int) == 0) = false := beq_eq_false_iff_ne.2 (by omega)
  have b1 : decide ((1514 : Int) < (bs.length : Int)) = false := decide_eq_false (by omega)
  have hcs : q.fillIx * 2 + 1 < cs.size := by rw [h4]; omega
  have HS := hid hst
  have HV := hid hv
  clear hst h6 h7 h1 h2 h5 hB hap hv h4 hok
  go_enter Try.func10, Try.ntmps10
  go_wp2_with fail
  refine HS.out.mono ?_
  rintro e w1 ⟨rfl, hx1, hs1, hk1, hz1⟩
  have HX := hid hx1
  have HS1 := hid hs1
  have HV1 := hid (HV.out.kept hk1 (fun b _ hb => by have := hC b hb; simp [this.1, this.2]))
  have HZ := hid hz1
  clear hx1 hs1 hz1
  go_wp2_with fail
  refine (clone_bytes C _ _ _ _ HV1.out (u8s_one bs) (by omega)).mono ?_
  rintro e w2 ⟨v', rfl, hown, hk2⟩
  obtain ⟨g, cg, rfl⟩ : ∃ g cg, v' = .slice (some ⟨g, 0, none⟩) bs.length cg := by
    rcases hown.2 with ⟨_, h⟩ | ⟨g, cg, _, h, _⟩
    · omega
    · exact ⟨g, cg, h⟩
  have hs2 := hk2.blk HS1.out (by simp)
  have c1 : ∃ u, w2.cell? ⟨s, q.fillIx * 2 + 1, none⟩ = some u := ⟨_, (blk_cell hs2 _).trans (Array.getElem?_eq_getElem (by simpa using hcs))⟩
  obtain ⟨u, c1⟩ := c1
  have f1 := blk_free hs2
  have HO := hid hown
  clear hs2 hown
  go_wp2
  go_ret
  exact HC.out _ _ _ _ HX.out HS1.out hk1 HZ.out hk2 HO.out

theorem RingQ.drewN {B : Nat → Prop} {w : World} {x s : Nat} {q : Q} (h : RingQ B w x s q) (n : Nat) : RingQ B (w.drewN n) x s q :=
  h.kept (S := []) ((Kept.refl _ w).drewN n) (by simp) (by simp) (fun _ _ _ => by simp)

theorem miss_close {B : Nat → Prop} {w : World} {x s : Nat} {q : Q} {bs : List Int} (hq : RingQ B w x s q) (hfit : Q.fits bs) (hf : ¬ q.out + q.full.length < q.n) (hd : q.dropped < 1000000) (m : Nat) :
    Filled B w x s q bs (.returned (.int .i64 10)) ((w.drewN m).setCell ⟨x, 4, none⟩ (.int .i64 ((q.dropped : Int) + 1))) := by
  obtain ⟨hok, hne, hap, cap, cs, h1, h2, h3, h4, h5, h6, h7⟩ := hq
  have e1 : q.fill bs = q.missed := by simp [Q.fill, hfit, hf]
  have e2 : q.fillE bs = 10 := by simp [Q.fillE, hfit, hf]
  have hk : Kept [x, s] w ((w.drewN m).setCell ⟨x, 4, none⟩ (.int .i64 ((q.dropped : Int) + 1))) := ((Kept.refl _ w).drewN m).setCell (.inl (by simp)) _
  refine ⟨by rw [e2], ?_, hk⟩
  rw [e1]
  refine ⟨hok.missed hd, hne, hap, cap, cs, blk_set (blk_drewN m h1) 4 _, blk_other _ (by exact hne) (blk_drewN m h2), h3, h4, h5, h6, fun j xs hj => ?_⟩
  obtain ⟨v, hv, hb⟩ := h7 j xs hj
  exact ⟨v, hv, hb.kept hk (fun b _ hB' => by have := hap b hB'; simp [this.1, this.2])⟩

set_option maxHeartbeats 400000 in
theorem fill_no {B C : Nat → Prop} {w : World} {x s : Nat} {q : Q} {v : Value} {bs : List Int} (hq : RingQ B w x s q) (hv : SliceIn C w 1 v bs.length (u8s bs))
    (hfit : Q.fits bs) (hf : ¬ q.out + q.full.length < q.n) (hd : q.dropped < 1000000) : Calls Try.prog 10 #[.pointer (some ⟨x, 0, none⟩), v] w (Filled B w x s q bs) := by
  have HM := hid (miss_close hq hfit hf hd)
  obtain ⟨hok, hne, hap, cap, cs, h1, h2, h3, h4, h5, h6, h7⟩ := hq
  have hI := hok.fillIx_lt
  have HS := hid (step_no x s 1 q.n q.fillIx cap _ cs (q.own q.fillIx) 0 1 w h1 h2 rfl rfl hI (h6 _ hI) (by have := hok.own_full hf _ hI; omega))
  obtain ⟨hl1, hl2⟩ := hfit
  obtain ⟨ao, vcap, rfl⟩ := hv.form
  have b0 : ((bs.length : Int) == 0) = false := beq_eq_false_iff_ne.2 (by omega)
  have b1 : decide ((1514 : Int) < (bs.length : Int)) = false := decide_eq_false (by omega)
  have c4 := blk_cell h1 4
  have f4 := blk_free h1
  simp at c4
  clear h1 h2 h3 h4 h5 h6 h7 hv hok hap
  go_enter Try.func10, Try.ntmps10
  go_wp2_with fail
  refine HS.out.mono ?_
  rintro e w1 ⟨rfl, m, rfl⟩
  go_wp2
  go_ret
  exact HM.out m

set_option maxHeartbeats 400000 in
theorem fill_bad {B C : Nat → Prop} {w : World} {x s : Nat} {q : Q} {v : Value} {bs : List Int} (hq : RingQ B w x s q) (hv : SliceIn C w 1 v bs.length (u8s bs))
    (hfit : ¬ Q.fits bs) : Calls Try.prog 10 #[.pointer (some ⟨x, 0, none⟩), v] w (Filled B w x s q bs) := by
  have e1 : q.fill bs = q := by simp [Q.fill, hfit]
  have e2 : q.fillE bs = 6 := by simp [Q.fillE, hfit]
  have HF := hid (show Filled B w x s q bs (.returned (.int .i64 6)) w from ⟨by rw [e2], by rw [e1]; exact hq, Kept.refl _ _⟩)
  obtain ⟨ao, vcap, rfl⟩ := hv.form
  clear hv e1 e2 hq
  by_cases h0 : bs.length = 0
  · have b0 : ((bs.length : Int) == 0) = true := beq_iff_eq.2 (by omega)
    clear h0
    go_enter Try.func10, Try.ntmps10
    go_wp2
    go_ret
    exact HF.out
  · have b0 : ((bs.length : Int) == 0) = false := beq_eq_false_iff_ne.2 (by omega)
    have b1 : decide ((1514 : Int) < (bs.length : Int)) = true := decide_eq_true (by unfold Q.fits at hfit; omega)
    clear h0 hfit
    go_enter Try.func10, Try.ntmps10
    go_wp2
    go_ret
    exact HF.out

theorem fill_any {B C : Nat → Prop} {w : World} {x s : Nat} {q : Q} {v : Value} {bs : List Int} (hq : RingQ B w x s q) (hB : ∀ k, w.heap.size ≤ k → B k) (hC : ∀ b, C b → b ≠ x ∧ b ≠ s) (hv : SliceIn C w 1 v bs.length (u8s bs))
    (hd : q.dropped < 1000000) : Calls Try.prog 10 #[.pointer (some ⟨x, 0, none⟩), v] w (Filled B w x s q bs) := by
  by_cases hfit : Q.fits bs
  · by_cases hf : q.out + q.full.length < q.n
    · exact fill_yes hq hB hC hv hfit hf
    · exact fill_no hq hv hfit hf hd
  · exact fill_bad hq hv hfit

theorem fill_nil (v : Value) (w : World) : Calls Try.prog 10 #[.pointer none, v] w fun e w' => e = .returned (.int .i64 1) ∧ w = w' := by
  go_enter Try.func10, Try.ntmps10
  go_wp2
  go_ret
  exact ⟨rfl, rfl⟩

end Go.Proofs.Ytnbbbhemlmkeiaa
