/-
  The reference's ring in memory reads as the same queue ('RefQ'); what its New, Fill, Take, Give, Owner, Fork do to it.
-/
import Derived.Test.YtnbbbhemlmkeiaaLive
namespace Go.Proofs.Ytnbbbhemlmkeiaa
open Go.RowKit

/-- A slice of byte slices. -/
def Rows2 (B : Nat → Prop) (w : World) (vf : Value) (fs : List (List Int)) : Prop :=
  ∃ vs : List Value, SliceIn B w 1 vf fs.length vs ∧ (∀ (j : Nat) (v : Value) (xs : List Int), vs[j]? = some v → fs[j]? = some xs → SliceIn B w 1 v xs.length (u8s xs)) ∧ ∀ u ∈ vs, u.oneCell' = true

theorem Rows2.kept {B : Nat → Prop} {w w' : World} {vf : Value} {fs : List (List Int)} {S : List Nat} (h : Rows2 B w vf fs) (hk : Kept S w w') (hS : ∀ b, b < w.heap.size → B b → b ∉ S) : Rows2 B w' vf fs := by
  obtain ⟨vs, h1, h2, h3⟩ := h
  exact ⟨vs, h1.kept hk hS, fun j v xs hv hx => (h2 j v xs hv hx).kept hk hS, h3⟩
theorem Rows2.mono {B C : Nat → Prop} {w : World} {vf : Value} {fs : List (List Int)} (h : Rows2 B w vf fs) (hc : ∀ b, b < w.heap.size → B b → C b) : Rows2 C w vf fs := by
  obtain ⟨vs, h1, h2, h3⟩ := h
  exact ⟨vs, h1.mono hc, fun j v xs hv hx => (h2 j v xs hv hx).mono hc, h3⟩

structure RefQ (B : Nat → Prop) (w : World) (y : Nat) (q : Q) (G : Nat) : Prop where
  ok : q.ok
  apart : ∀ b, B b → b ≠ y
  blk : ∃ vf gv, w.heap[y]? = some (.cells #[.int .i64 q.n, vf, .int .i64 q.out, .int .i64 (gv : Nat), .int .i64 q.dropped] 66 (0, 0)) ∧ q.r = gv % q.n ∧ gv ≤ G ∧ Rows2 B w vf q.full

theorem RefQ.kept {B : Nat → Prop} {w w' : World} {y G : Nat} {q : Q} {S : List Nat} (h : RefQ B w y q G) (hk : Kept S w w') (hy : y ∉ S) (hS : ∀ b, b < w.heap.size → B b → b ∉ S) : RefQ B w' y q G := by
  obtain ⟨vf, gv, h1, h2, h3, h4⟩ := h.blk
  exact ⟨h.ok, h.apart, vf, gv, hk.blk h1 hy, h2, h3, h4.kept hk hS⟩
theorem RefQ.mono {B C : Nat → Prop} {w : World} {y G : Nat} {q : Q} (h : RefQ B w y q G) (hc : ∀ b, b < w.heap.size → B b → C b) (ha : ∀ b, C b → b ≠ y) : RefQ C w y q G := by
  obtain ⟨vf, gv, h1, h2, h3, h4⟩ := h.blk
  exact ⟨h.ok, ha, vf, gv, h1, h2, h3, h4.mono hc⟩
theorem RefQ.lt {B : Nat → Prop} {w : World} {y G : Nat} {q : Q} (h : RefQ B w y q G) : y < w.heap.size := by
  obtain ⟨vf, gv, h1, _⟩ := h.blk
  exact lt_of_block h1
theorem RefQ.drewN {B : Nat → Prop} {w : World} {y G : Nat} {q : Q} (h : RefQ B w y q G) (n : Nat) : RefQ B (w.drewN n) y q G :=
  h.kept (S := []) ((Kept.refl _ w).drewN n) (by simp) (fun _ _ _ => by simp)

theorem info28 : (Try.prog.info? 28).map (fun i => (i.zero, i.size, i.bytes)) = some (some (.slice none 0 0), 1, 24) := by kernel_rfl

def RefFilled (B : Nat → Prop) (w : World) (y : Nat) (q : Q) (G : Nat) (bs : List Int) (e : Ending) (w' : World) : Prop :=
  e = .returned (.int .i64 (q.fillE bs)) ∧ RefQ B w' y (q.fill bs) G ∧ Kept [y] w w'

set_option maxHeartbeats 400000 in
theorem reffill_bad {B C : Nat → Prop} {w : World} {y G : Nat} {q : Q} {v : Value} {bs : List Int} (hq : RefQ B w y q G) (hv : SliceIn C w 1 v bs.length (u8s bs))
    (hfit : ¬ Q.fits bs) : Calls Try.prog 25 #[.pointer (some ⟨y, 0, none⟩), v] w (RefFilled B w y q G bs) := by
  have e1 : q.fill bs = q := by simp [Q.fill, hfit]
  have e2 : q.fillE bs = 6 := by simp [Q.fillE, hfit]
  have HF := hid (show RefFilled B w y q G bs (.returned (.int .i64 6)) w from ⟨by rw [e2], by rw [e1]; exact hq, Kept.refl _ _⟩)
  obtain ⟨ao, vcap, rfl⟩ := hv.form
  clear hv e1 e2 hq
  by_cases h0 : bs.length = 0
  · have b0 : decide ((bs.length : Int) < 1) = true := decide_eq_true (by omega)
    clear h0
    go_enter Try.func25, Try.ntmps25
    go_wp2
    go_ret
    exact HF.out
  · have b0 : decide ((bs.length : Int) < 1) = false := decide_eq_false (by omega)
    have b1 : decide ((1514 : Int) < (bs.length : Int)) = true := decide_eq_true (by unfold Q.fits at hfit; omega)
    clear h0 hfit
    go_enter Try.func25, Try.ntmps25
    go_wp2
    go_ret
    exact HF.out

theorem refmiss_close {B : Nat → Prop} {w : World} {y G : Nat} {q : Q} {bs : List Int} (hq : RefQ B w y q G) (hfit : Q.fits bs) (hf : ¬ q.out + q.full.length < q.n) (hd : q.dropped < 1000000) (m : Nat) :
    RefFilled B w y q G bs (.returned (.int .i64 10)) ((w.drewN m).setCell ⟨y, 4, none⟩ (.int .i64 ((q.dropped : Int) + 1))) := by
  obtain ⟨hok, hap, vf, gv, h1, h2, h3, h4⟩ := hq
  have e1 : q.fill bs = q.missed := by simp [Q.fill, hfit, hf]
  have e2 : q.fillE bs = 10 := by simp [Q.fillE, hfit, hf]
  have hk : Kept [y] w ((w.drewN m).setCell ⟨y, 4, none⟩ (.int .i64 ((q.dropped : Int) + 1))) := ((Kept.refl _ w).drewN m).setCell (.inl (by simp)) _
  refine ⟨by rw [e2], ?_, hk⟩
  rw [e1]
  exact ⟨hok.missed hd, hap, vf, gv, blk_set (blk_drewN m h1) 4 _, h2, h3, h4.kept hk (fun b _ hB => by simp [hap b hB])⟩

theorem Rows2.form {B : Nat → Prop} {w : World} {vf : Value} {fs : List (List Int)} (h : Rows2 B w vf fs) : ∃ ao cap, vf = .slice ao fs.length cap :=
  let ⟨_, h1, _⟩ := h; h1.form

set_option maxHeartbeats 400000 in
theorem reffill_no {B C : Nat → Prop} {w : World} {y G : Nat} {q : Q} {v : Value} {bs : List Int} (hq : RefQ B w y q G) (hv : SliceIn C w 1 v bs.length (u8s bs))
    (hfit : Q.fits bs) (hf : ¬ q.out + q.full.length < q.n) (hd : q.dropped < 1000000) : Calls Try.prog 25 #[.pointer (some ⟨y, 0, none⟩), v] w (RefFilled B w y q G bs) := by
  have HM := hid (refmiss_close hq hfit hf hd)
  obtain ⟨hok, hap, vf, gv, h1, h2, h3, h4⟩ := hq
  have HFIT := hid hfit
  obtain ⟨hl1, hl2⟩ := hfit
  obtain ⟨ao, vcap, rfl⟩ := hv.form
  obtain ⟨fo, fcap, rfl⟩ := h4.form
  have b0 : decide ((bs.length : Int) < 1) = false := decide_eq_false (by omega)
  have b1 : decide ((1514 : Int) < (bs.length : Int)) = false := decide_eq_false (by omega)
  have c0 := blk_cell h1 0
  have c1 := blk_cell h1 1
  have c2 := blk_cell h1 2
  have c4 := blk_cell h1 4
  have f4 := blk_free h1
  have hfit := hok.fit
  have hle := hok.le
  simp at c0 c1 c2 c4
  clear h1 h2 h3 h4 hv hok hap
  go_enter Try.func25, Try.ntmps25
  go_wp2
  go_quiet (fail)
  go_wp2
  go_ret
  exact HM.out _

theorem SliceIn.one {B : Nat → Prop} {w : World} {t : TypeId} {v : Value} (hB : B w.heap.size) : SliceIn B (w.alloc (.cells #[v] t)) 1 (.slice (some ⟨w.heap.size, 0, none⟩) 1 1) 1 [v] :=
  ⟨rfl, .inr ⟨w.heap.size, 0, 1, rfl, Nat.le_refl _, hB, by simp, fun j u hu => by
    rw [Nat.zero_add, blk_cell (blk_new w _)]
    simpa using hu⟩⟩

theorem Rows2.snoc {B C : Nat → Prop} {w w' : World} {fs : List (List Int)} {vs : List Value} {v v' : Value} {bs : List Int} {n : Nat} (hn : n = fs.length + 1)
    (hx : ∀ (j : Nat) (u : Value) (xs : List Int), vs[j]? = some u → fs[j]? = some xs → SliceIn B w 1 u xs.length (u8s xs)) (hl : vs.length = fs.length) (h1 : ∀ u ∈ vs, u.oneCell' = true) (hk : Kept [] w w')
    (hv : SliceIn C w' 1 v bs.length (u8s bs)) (hv' : SliceIn C w' 1 v' n (vs ++ [v])) (hB : ∀ b, b < w.heap.size → B b → C b) : Rows2 C w' v' (fs ++ [bs]) := by
  subst hn
  refine ⟨vs ++ [v], by simpa using hv', fun j u xs hu hxs => ?_, fun u hu => ?_⟩
  · by_cases hj : j < fs.length
    · rw [List.getElem?_append_left (by omega)] at hu
      rw [List.getElem?_append_left hj] at hxs
      exact ((hx j u xs hu hxs).mono hB).kept hk (fun _ _ _ => by simp)
    · rw [List.getElem?_append_right (by omega)] at hu
      rw [List.getElem?_append_right (by omega)] at hxs
      have hlt := (List.getElem?_eq_some_iff.1 hxs).1
      simp at hlt
      have e1 : j - fs.length = 0 := by omega
      have e2 : j - vs.length = 0 := by omega
      rw [e1] at hxs; rw [e2] at hu
      simp at hxs hu
      subst hxs; subst hu
      exact hv
  · rcases List.mem_append.1 hu with hu | hu
    · exact h1 u hu
    · rw [List.mem_singleton] at hu; subst hu
      obtain ⟨_, _, rfl⟩ := hv.form
      rfl

theorem reffill_close {B : Nat → Prop} {w w4 : World} {y G gv g cg : Nat} {q : Q} {bs : List Int} {vf v2 : Value} {vs : List Value} (hok : q.ok) (hap : ∀ b, B b → b ≠ y) (hB : ∀ k, w.heap.size ≤ k → B k) (hfit : Q.fits bs) (hf : q.out + q.full.length < q.n)
    (h1 : w.heap[y]? = some (.cells #[.int .i64 q.n, vf, .int .i64 q.out, .int .i64 (gv : Nat), .int .i64 q.dropped] 66 (0, 0))) (h2 : q.r = gv % q.n) (h3 : gv ≤ G)
    (hx : ∀ (j : Nat) (u : Value) (xs : List Int), vs[j]? = some u → q.full[j]? = some xs → SliceIn B w 1 u xs.length (u8s xs)) (hl : vs.length = q.full.length) (hone : ∀ u ∈ vs, u.oneCell' = true)
    (hk : Kept [] w w4) (hv : SliceIn (w.heap.size ≤ ·) w4 1 v2 bs.length (u8s bs)) (hv' : SliceIn (w.heap.size ≤ ·) w4 1 (.slice (some ⟨g, 0, none⟩) (q.full.length + 1) cg) (q.full.length + 1) (vs ++ [v2])) :
    RefFilled B w y q G bs (.returned (.int .i64 0)) (w4.setCell ⟨y, 1, none⟩ (.slice (some ⟨g, 0, none⟩) (q.full.length + 1) cg)) := by
  have e1 : q.fill bs = q.filled bs := by simp [Q.fill, hfit, hf]
  have e2 : q.fillE bs = 0 := by simp [Q.fillE, hfit, hf]
  have hyl := lt_of_block h1
  have hk4 : Kept [y] w4 (w4.setCell ⟨y, 1, none⟩ (.slice (some ⟨g, 0, none⟩) (q.full.length + 1) cg)) := (Kept.refl _ _).setCell (.inl (by simp)) _
  refine ⟨by rw [e2], ?_, hk.tr0' hk4⟩
  rw [e1]
  have hr := Rows2.snoc rfl hx hl hone hk (hv.mono (C := fun b => B b) (fun b _ h => hB b h)) (hv'.mono (C := fun b => B b) (fun b _ h => hB b h)) (fun b _ h => h)
  exact ⟨hok.filled hf hfit.1 hfit.2, hap, _, gv, blk_set (hk.blk h1 (by simp)) 1 _, h2, h3, hr.kept hk4 (fun b _ h => by simp [hap b h])⟩

set_option maxHeartbeats 400000 in
theorem reffill_yes {B C : Nat → Prop} {w : World} {y G : Nat} {q : Q} {v : Value} {bs : List Int} (hq : RefQ B w y q G) (hB : ∀ k, w.heap.size ≤ k → B k) (hv : SliceIn C w 1 v bs.length (u8s bs))
    (hfit : Q.fits bs) (hf : q.out + q.full.length < q.n) : Calls Try.prog 25 #[.pointer (some ⟨y, 0, none⟩), v] w (RefFilled B w y q G bs) := by
  obtain ⟨hok, hap, vf, gv, h1, h2, h3, h4⟩ := hq
  have HFIT := hid hfit
  obtain ⟨hl1, hl2⟩ := hfit
  obtain ⟨ao, vcap, rfl⟩ := hv.form
  obtain ⟨fo, fcap, rfl⟩ := h4.form
  have b0 : decide ((bs.length : Int) < 1) = false := decide_eq_false (by omega)
  have b1 : decide ((1514 : Int) < (bs.length : Int)) = false := decide_eq_false (by omega)
  have c0 := blk_cell h1 0
  have c1 := blk_cell h1 1
  have c2 := blk_cell h1 2
  have hyl := lt_of_block h1
  have hle := hok.le
  simp at c0 c1 c2
  have HV := hid hv
  obtain ⟨vs, hvs, hvx, hone⟩ := h4
  have HC := hid (fun (w4 : World) (g cg : Nat) (v2 : Value) => @reffill_close B w w4 y G gv g cg q bs _ v2 vs hok hap hB HFIT.out hf h1 h2 h3 hvx (by simpa using hvs.1) hone)
  have F4 := hid (blk_free h1)
  clear h1 h2 h3 hok hap hB
  obtain ⟨i0, hi, hz0, hz1, hz2⟩ := info_parts info28
  obtain ⟨j0, hj, hy0, hy1, hy2⟩ := info_parts info5
  have hfl : q.full.length ≤ 64 := by omega
  have HVS := hid hvs
  clear hv hvs hvx
  go_enter Try.func25, Try.ntmps25
  go_wp2
  go_quiet (fail)
  have hk0 : Kept [] w (w.drewN nq) := (Kept.refl [] w).drewN nq
  generalize w.drewN nq = w0 at hk0 ⊢
  have hyl0 : y < w0.heap.size := Nat.lt_of_lt_of_le hyl hk0.size
  have d1 := hk0.cell c1 (by simp)
  have k1 := hk0.alloc (.cells #[] 28)
  go_wp2_with (at_builtin; refine wpList_append_in _ rfl (.tmp 38) (.tmp 42) 27 rfl w0.heap.size 28 i0 (.slice none 0 0) 1 24 Try.underlying27 hi hz0 hz1 hz2 rfl (by decide) _ 0 [] rfl (World.ownsRow_made w0 #[] 0 (Nat.le_refl _) (Nat.zero_le _) rfl) B _ q.full.length vs rfl (HVS.out.kept k1 (fun _ _ _ => by simp)) hone (by unfold maxLen; omega) (by omega) (by simp) ?_)
  intro v1 w1 hown1 hgrow1 _
  have k2 := k1.grown hgrow1 (fun k h => by cases h; exact .inr hk0.size)
  have k3 := k2.alloc (.cells #[] 5)
  go_wp2_with (at_builtin; refine wpList_append_in _ rfl (.tmp 44) (.tmp 45) 28 rfl w1.heap.size 5 j0 (.int .u8 0) 1 1 Try.underlying28 hj hy0 hy1 hy2 rfl (by decide) _ 0 [] rfl (World.ownsRow_made w1 #[] 0 (Nat.le_refl _) (Nat.zero_le _) rfl) C _ bs.length (u8s bs) rfl (HV.out.kept k3 (fun _ _ _ => by simp)) (u8s_one bs) (by unfold maxLen; omega) (by omega) (by simp) ?_)
  intro v2 w2 hown2 hgrow2 _
  have k4 := k3.grown hgrow2 (fun k h => by cases h; exact .inr k2.size)
  have zz1 := hgrow1.size
  have zz2 := hgrow2.size
  simp at zz1 zz2
  have hin2 := SliceIn.owned hown2
  obtain ⟨ao2, cap2, rfl⟩ := hin2.form
  have hown1' : w2.ownsRow w0.heap.size 28 1 v1 q.full.length vs := by
    refine (hown1.alloc _).kept hgrow2 ?_
    right
    intro h
    have := (hown1.lt _ h).2
    exact absurd this (Nat.lt_irrefl _)
  have hlt1 := hown1.lt
  have HL1 := hid hlt1
  have HO2 := hid hin2
  have HO1 := hid hown1'
  clear hown1 hown2 hin2 hown1' hlt1
  go_wp2_with (at_builtin; refine wpList_append_in _ rfl (.tmp 43) (.tmp 47) 27 rfl w0.heap.size 28 i0 (.slice none 0 0) 1 24 Try.underlying27 hi hz0 hz1 hz2 rfl (by decide) _ _ _ rfl (HO1.out.alloc _) (fun _ => True) _ 1 [.slice ao2 bs.length cap2] rfl (SliceIn.one trivial) (fun u hu => by simp at hu; subst hu; rfl) (by unfold maxLen; omega) (by omega) (by simp; omega) ?_)
  intro v3 w3 hown3 hgrow3 _
  have k5 := (k4.alloc (.cells #[.slice ao2 bs.length cap2] 28)).grown hgrow3 (fun k h => .inr (Nat.le_trans hk0.size (HL1.out k h).1))
  obtain ⟨g, cg, rfl⟩ : ∃ g cg, v3 = .slice (some ⟨g, 0, none⟩) (q.full.length + 1) cg := by
    rcases hown3.2 with ⟨_, h⟩ | ⟨g, cg, _, h, _⟩
    · omega
    · exact ⟨g, cg, h⟩
  have d3 := k5.cell c1 (by simp)
  have f3 : w3.frozen? ⟨y, 1, none⟩ = false := (World.frozen?_of_block (k5.block y hyl (by simp))).trans (F4.out 1)
  have hv2 : SliceIn (w.heap.size ≤ ·) w3 1 (.slice ao2 bs.length cap2) bs.length (u8s bs) := by
    have zz3 := hgrow3.size
    simp at zz3
    refine (HO2.out.carry (w' := w3) (by omega) (fun b hb hB => ?_)).mono (fun b _ h => ?_)
    · have e1 := hgrow3.block b (by simp; omega) (fun e => by have := (HL1.out b e.symm).2; omega)
      rw [e1, Below.heap_alloc _ _ _ hb]
    · have h' : w1.heap.size ≤ b := h
      have := k2.size
      show w.heap.size ≤ b
      omega
  have hv3 := (SliceIn.owned hown3).mono (C := (w.heap.size ≤ ·)) (fun b _ h => Nat.le_trans hk0.size h)
  have HV2 := hid hv2
  have HV3 := hid hv3
  clear hown3 hv2 hv3
  go_wp2
  go_ret
  exact HC.out _ _ _ _ k5 HV2.out HV3.out

theorem reffill_any {B C : Nat → Prop} {w : World} {y G : Nat} {q : Q} {v : Value} {bs : List Int} (hq : RefQ B w y q G) (hB : ∀ k, w.heap.size ≤ k → B k) (hv : SliceIn C w 1 v bs.length (u8s bs))
    (hd : q.dropped < 1000000) : Calls Try.prog 25 #[.pointer (some ⟨y, 0, none⟩), v] w (RefFilled B w y q G bs) := by
  by_cases hfit : Q.fits bs
  · by_cases hf : q.out + q.full.length < q.n
    · exact reffill_yes hq hB hv hfit hf
    · exact reffill_no hq hv hfit hf hd
  · exact reffill_bad hq hv hfit

def RefTook (B : Nat → Prop) (w : World) (y : Nat) (q : Q) (G : Nat) (e : Ending) (w' : World) : Prop :=
  ∃ v', e = .returned (.tuple #[v', .int .i64 q.takeE]) ∧ SliceIn (fun _ => True) w' 1 v' q.head.length (u8s q.head) ∧ RefQ B w' y q.take G ∧ Kept [y] w w'

theorem reftake_close {B : Nat → Prop} {w w' : World} {y G gv b off cap : Nat} {q : Q} {vs : List Value} {v0 : Value} {ao : Option Addr} (hok : q.ok) (hap : ∀ b, B b → b ≠ y) (hf : q.full ≠ [])
    (h1 : w.heap[y]? = some (.cells #[.int .i64 q.n, .slice (some ⟨b, off, none⟩) q.full.length cap, .int .i64 q.out, .int .i64 (gv : Nat), .int .i64 q.dropped] 66 (0, 0))) (h2 : q.r = gv % q.n) (h3 : gv ≤ G)
    (hvs : SliceIn B w 1 (.slice (some ⟨b, off, none⟩) q.full.length cap) q.full.length vs)
    (hx : ∀ (j : Nat) (u : Value) (xs : List Int), vs[j]? = some u → q.full[j]? = some xs → SliceIn B w 1 u xs.length (u8s xs)) (hone : ∀ u ∈ vs, u.oneCell' = true) (h0 : vs[0]? = some v0)
    (ha : ao = some ⟨b, off + 1, none⟩ ∨ (cap = 1 ∧ ao = some ⟨b, off, none⟩))
    (hw : w' = (w.setCell ⟨y, 1, none⟩ (.slice ao (q.full.length - 1) (cap - 1))).setCell ⟨y, 2, none⟩ (.int .i64 ((q.out : Int) + 1))) :
    RefTook B w y q G (.returned (.tuple #[v0, .int .i64 0])) w' := by
  have e1 : q.take = q.taken := by simp [Q.take, hf]
  have e2 : q.takeE = 0 := by simp [Q.takeE, hf]
  have hl : vs.length = q.full.length := by simpa using hvs.1
  have hpos := List.length_pos_iff.2 hf
  have hk : Kept [y] w w' := by subst hw; exact ((Kept.refl _ w).setCell (.inl (by simp)) _).setCell (.inl (by simp)) _
  have hhead : q.full[0]? = some q.head := by unfold Q.head; cases h : q.full with | nil => exact absurd h hf | cons a l => rfl
  have hS : ∀ b', b' < w.heap.size → B b' → b' ∉ [y] := fun b' _ h => by simp [hap b' h]
  refine ⟨v0, by rw [e2], ((hx 0 v0 _ h0 hhead).kept hk hS).mono (fun _ _ _ => trivial), ?_, hk⟩
  rw [e1]
  refine ⟨hok.taken hf, hap, .slice ao (q.full.length - 1) (cap - 1), gv, ?_, h2, h3, ?_⟩
  · subst hw
    have := blk_set (blk_set h1 1 (.slice ao (q.full.length - 1) (cap - 1))) 2 (.int .i64 ((q.out : Int) + 1))
    exact this
  · refine Rows2.kept ⟨vs.tail, ?_, fun j u xs hu hxs => ?_, fun u hu => hone u (List.mem_of_mem_tail hu)⟩ hk hS
    · have hlt : q.taken.full.length = q.full.length - 1 := by simp [Q.taken]
      rw [hlt]
      refine ⟨by simp [hl], .inr ?_⟩
      rcases hvs.2 with ⟨h, _⟩ | ⟨b', off', cap', hv, hc1, hB, hb, hc⟩
      · omega
      cases hv
      rcases ha with ha | ⟨hc2, ha⟩
      · subst ha
        refine ⟨b, off + 1, cap - 1, rfl, by omega, hB, hb, fun j u hu => ?_⟩
        have := hc (j + 1) u (by simpa [List.getElem?_tail] using hu)
        rw [show off + 1 + j = off + (j + 1) from by omega]
        exact this
      · subst ha
        refine ⟨b, off, cap - 1, rfl, by omega, hB, hb, fun j u hu => ?_⟩
        have := (List.getElem?_eq_some_iff.1 hu).1
        simp [hl] at this
        omega
    · refine hx (j + 1) u xs (by simpa [List.getElem?_tail] using hu) ?_
      have : q.full.tail[j]? = some xs := hxs
      simpa [List.getElem?_tail] using this

set_option maxHeartbeats 400000 in
theorem reftake_any {B : Nat → Prop} {w : World} {y G : Nat} {q : Q} (hq : RefQ B w y q G) : Calls Try.prog 26 #[.pointer (some ⟨y, 0, none⟩)] w (RefTook B w y q G) := by
  have hq' := hq
  obtain ⟨hok, hap, vf, gv, h1, h2, h3, h4⟩ := hq
  by_cases hf : q.full = []
  · have e1 : q.take = q := by simp [Q.take, hf]
    have e2 : q.takeE = 13 := by simp [Q.takeE, hf]
    have e3 : q.head = [] := by simp [Q.head, hf]
    have HF := hid (show RefTook B w y q G (.returned (.tuple #[.slice none 0 0, .int .i64 13])) w from ⟨_, by rw [e2], by rw [e3]; exact SliceIn.nil _ _, by rw [e1]; exact hq', Kept.refl _ _⟩)
    obtain ⟨fo, fcap, rfl⟩ := h4.form
    have c1 := blk_cell h1 1
    simp [hf] at c1
    clear h1 h2 h3 h4 hap hok hq' e1 e2 e3 hf
    go_enter Try.func26, Try.ntmps26
    go_wp2
    go_ret2
    exact HF.out
  · obtain ⟨vs, hvs, hvx, hone⟩ := h4
    have hpos := List.length_pos_iff.2 hf
    have hl : vs.length = q.full.length := by simpa using hvs.1
    rcases id hvs.2 with ⟨h, _⟩ | ⟨b, off, cap, rfl, hc1, _, _, hc⟩
    · omega
    obtain ⟨v0, h0⟩ : ∃ v0, vs[0]? = some v0 := ⟨vs[0]'(by omega), by simp⟩
    have hc0 := hc 0 v0 h0
    have HC := hid (fun (w' : World) (ao : Option Addr) => @reftake_close B w w' y G gv b off cap q vs v0 ao hok hap hf h1 h2 h3 hvs hvx hone h0)
    have c1 := blk_cell h1 1
    have c2 := blk_cell h1 2
    have fy := blk_free h1
    simp at c1 c2 hc0
    have b0 : ((q.full.length : Int) == 0) = false := beq_eq_false_iff_ne.2 (by omega)
    have hfit := hok.fit
    have hle := hok.le
    by_cases hcap : cap = 1
    · subst hcap
      have hn1 : q.full.length = 1 := by omega
      have HN := hid hn1
      clear h1 h2 h3 hvs hvx hone hc h0 hap hok hq' hf hl hn1
      go_enter Try.func26, Try.ntmps26
      go_wp2
      go_ret2
      exact HC.out _ _ (.inr ⟨by trivial, rfl⟩) (by rw [HN.out])
    · clear h1 h2 h3 hvs hvx hone hc h0 hap hok hq' hf hl
      go_enter Try.func26, Try.ntmps26
      go_wp2
      go_ret2
      exact HC.out _ _ (.inl rfl) rfl

def RefGave (B : Nat → Prop) (w : World) (y : Nat) (q : Q) (G : Nat) (e : Ending) (w' : World) : Prop :=
  e = .returned (.int .i64 q.giveE) ∧ RefQ B w' y q.give (G + 1) ∧ Kept [y] w w'

theorem mod_next {a n : Nat} (h : 0 < n) : (a + 1) % n = next n (a % n) := by
  have := Nat.mod_lt a h
  unfold next
  split
  · rw [Nat.add_mod]
    by_cases h1 : n = 1
    · subst h1; omega
    · rw [Nat.mod_eq_of_lt (show 1 < n by omega), show a % n + 1 = n by assumption, Nat.mod_self]
  · rw [Nat.add_mod]
    by_cases h1 : n = 1
    · omega
    · rw [Nat.mod_eq_of_lt (show 1 < n by omega), Nat.mod_eq_of_lt (by omega)]

theorem refgave_close {B : Nat → Prop} {w w' : World} {y G gv : Nat} {q : Q} {vf : Value} (hok : q.ok) (hap : ∀ b, B b → b ≠ y) (hf : q.out ≠ 0)
    (h1 : w.heap[y]? = some (.cells #[.int .i64 q.n, vf, .int .i64 q.out, .int .i64 (gv : Nat), .int .i64 q.dropped] 66 (0, 0))) (h2 : q.r = gv % q.n) (h3 : gv ≤ G) (h4 : Rows2 B w vf q.full)
    (hw : w' = (w.setCell ⟨y, 2, none⟩ (.int .i64 ((q.out : Int) - 1))).setCell ⟨y, 3, none⟩ (.int .i64 ((gv : Int) + 1))) : RefGave B w y q G (.returned (.int .i64 0)) w' := by
  have e1 : q.give = q.given := by simp [Q.give, hf]
  have e2 : q.giveE = 0 := by simp [Q.giveE, hf]
  have hk : Kept [y] w w' := by subst hw; exact ((Kept.refl _ w).setCell (.inl (by simp)) _).setCell (.inl (by simp)) _
  refine ⟨by rw [e2], ?_, hk⟩
  rw [e1]
  refine ⟨hok.given, hap, vf, gv + 1, ?_, ?_, by omega, h4.kept hk (fun b _ h => by simp [hap b h])⟩
  · subst hw
    have h := blk_set (blk_set h1 2 (.int .i64 ((q.out : Int) - 1))) 3 (.int .i64 ((gv : Int) + 1))
    have e : ((q.given.out : Nat) : Int) = (q.out : Int) - 1 := by simp only [Q.given]; omega
    rw [e]
    exact h
  · show next q.n q.r = _
    rw [mod_next (by have := hok.pos; exact this)]
    rw [h2]; rfl

set_option maxHeartbeats 400000 in
theorem refgive_any {B : Nat → Prop} {w : World} {y G : Nat} {q : Q} (hq : RefQ B w y q G) (hG : G < 1000000) : Calls Try.prog 27 #[.pointer (some ⟨y, 0, none⟩)] w (RefGave B w y q G) := by
  have hq' := hq
  obtain ⟨hok, hap, vf, gv, h1, h2, h3, h4⟩ := hq
  have c2 := blk_cell h1 2
  have c3 := blk_cell h1 3
  have fy := blk_free h1
  simp at c2 c3
  have hfit := hok.fit
  have hle := hok.le
  by_cases hf : q.out = 0
  · have e1 : q.give = q := by simp [Q.give, hf]
    have e2 : q.giveE = 13 := by simp [Q.giveE, hf]
    have HF := hid (show RefGave B w y q G (.returned (.int .i64 13)) w from ⟨by rw [e2], by rw [e1]; exact ⟨hok, hap, vf, gv, h1, h2, by omega, h4⟩, Kept.refl _ _⟩)
    rw [hf] at c2
    clear h1 h2 h3 h4 hap hok hq' e1 e2 hf c3
    go_enter Try.func27, Try.ntmps27
    go_wp2
    go_ret
    exact HF.out
  · have HC := hid (fun (w' : World) => @refgave_close B w w' y G gv q vf hok hap hf h1 h2 h3 h4)
    have b0 : ((q.out : Int) == 0) = false := beq_eq_false_iff_ne.2 (by omega)
    have hpo : 1 ≤ q.out := by omega
    have hgv : gv < 1000000 := by omega
    clear h1 h2 h3 h4 hap hok hq' hf
    go_enter Try.func27, Try.ntmps27
    go_wp2
    go_ret
    exact HC.out _ rfl

end Go.Proofs.Ytnbbbhemlmkeiaa
