/-
  Take, Give, Owner on the ring in memory.
-/
import Derived.Test.YtnbbbhemlmkeiaaRing
namespace Go.Proofs.Ytnbbbhemlmkeiaa
open Go.RowKit

def Q.take (q : Q) : Q := if q.full = [] then q else q.taken
def Q.takeE (q : Q) : Int := if q.full = [] then 13 else 0
def Q.head (q : Q) : List Int := q.full.headD []
def Q.give (q : Q) : Q := if q.out = 0 then q else q.given
def Q.giveE (q : Q) : Int := if q.out = 0 then 13 else 0

def Took (B : Nat → Prop) (w : World) (x s : Nat) (q : Q) (e : Ending) (w' : World) : Prop :=
  ∃ v', e = .returned (.tuple #[v', .int .i64 q.takeE]) ∧ w'.ownsRow w.heap.size 5 1 v' q.head.length (u8s q.head) ∧ RingQ B w' x s q.take ∧ Kept [x, s] w w'

theorem took_close {B : Nat → Prop} {w w1 w2 : World} {x s : Nat} {q : Q} {v' : Value} (hq : RingQ B w x s q) (hf : q.full ≠ [])
    {cap : Nat} {cs : Array Value} (hok : q.ok) (hcap : q.n ≤ cap) (hsz : cs.size = cap * 2) (hone : ∀ u ∈ cs.toList.take (q.n * 2), u.oneCell' = true) (how : ∀ i, i < q.n → cs[i * 2]? = some (.int .i64 (q.own i)))
    (hby : ∀ j xs, q.full[j]? = some xs → ∃ v, cs[idx q.n q.r (q.out + j) * 2 + 1]? = some v ∧ SliceIn B w 1 v xs.length (u8s xs))
    (hx1 : w1.heap[x]? = some (.cells #[.slice (some ⟨s, 0, none⟩) q.n cap, .int .i64 q.fillIx, .int .i64 (next q.n q.takeIx), .int .i64 q.r, .int .i64 q.dropped] 55 (0, 0)))
    (hs1 : w1.heap[s]? = some (.cells (cs.setIfInBounds (q.takeIx * 2) (.int .i64 2)) 61 (0, 0))) (hk1 : Kept [x, s] w w1) (hz1 : w1.heap.size = w.heap.size) (hk2 : Kept [] w1 w2)
    (hown : w2.ownsRow w1.heap.size 5 1 v' q.head.length (u8s q.head)) : Took B w x s q (.returned (.tuple #[v', .int .i64 0])) w2 := by
  have hI := hok.takeIx_lt
  have e1 : q.take = q.taken := by simp [Q.take, hf]
  have e2 : q.takeE = 0 := by simp [Q.takeE, hf]
  have hk3 : Kept [x, s] w w2 := hk1.tr0 hk2
  have hap := hq.apart
  refine ⟨v', by rw [e2], by rw [hz1] at hown; exact hown, ?_, hk3⟩
  rw [e1]
  refine ⟨hok.taken hf, hq.ne, hap, cap, _, ?_, hk2.blk hs1 (by simp), hcap, by simp [hsz], mem_set hone rfl, fun i hi => ?_, fun j xs hj => ?_⟩
  · rw [Q.fillIx_taken hf, Q.takeIx_taken hok hf]; exact hk2.blk hx1 (by simp)
  · have hi' : i < q.n := hi
    rw [hok.own_taken hf i hi', Array.getElem?_setIfInBounds]
    by_cases h : i = q.takeIx
    · subst h
      simp; omega
    · rw [if_neg (by omega), if_neg h]; exact how i hi'
  · have hj' : q.full[j + 1]? = some xs := by
      simp only [Q.taken, List.getElem?_tail] at hj; exact hj
    obtain ⟨v, hv, hb⟩ := hby (j + 1) xs hj'
    refine ⟨v, ?_, hb.kept hk3 (fun b _ hB' => by have := hap b hB'; simp [this.1, this.2])⟩
    rw [Q.place_taken, Array.getElem?_setIfInBounds, if_neg (by omega)]
    exact hv

set_option maxHeartbeats 400000 in
theorem take_yes {B : Nat → Prop} {w : World} {x s : Nat} {q : Q} (hq : RingQ B w x s q) (hf : q.full ≠ []) : Calls Try.prog 11 #[.pointer (some ⟨x, 0, none⟩)] w (Took B w x s q) := by
  have hq' := hq
  obtain ⟨hok, hne, hap, cap, cs, h1, h2, h3, h4, h5, h6, h7⟩ := hq
  have hI := hok.takeIx_lt
  have hhead : q.full[0]? = some q.head := by unfold Q.head; cases h : q.full with | nil => exact absurd h hf | cons a l => rfl
  obtain ⟨v, hv, hb⟩ := h7 0 _ hhead
  have hlen := hok.len _ (List.mem_of_getElem? hhead)
  have HS := hid (step_ok x s 2 q.n q.takeIx cap _ cs 1 2 w h1 h2 hne rfl rfl (by decide) hI hok.le (by rw [h6 _ hI, hok.own_take hf]; rfl))
  have HC := hid (fun (w1 w2 : World) (v' : Value) => @took_close B w w1 w2 x s q v' hq' hf cap cs hok h3 h4 h5 h6 h7)
  have hv' : cs[q.takeIx * 2 + 1]? = some v := hv
  have HV := hid hv'
  have HB := hid hb
  have HAP := hid hap
  obtain ⟨ao, vc, rfl⟩ := hb.form
  clear h1 h2 h3 h4 h5 h6 h7 hv hv' hb hap hq' hhead hok
  go_enter Try.func11, Try.ntmps11
  go_wp2_with fail
  refine HS.out.mono ?_
  rintro e w1 ⟨rfl, hx1, hs1, hk1, hz1⟩
  have c1 : w1.cell? ⟨s, q.takeIx * 2 + 1, none⟩ = some (.slice ao q.head.length vc) := by
    rw [blk_cell hs1, Array.getElem?_setIfInBounds, if_neg (by omega)]; exact HV.out
  have HX := hid hx1
  have HS1 := hid hs1
  have HZ := hid hz1
  have HB1 := hid (HB.out.kept hk1 (fun b _ h => by have := HAP.out b h; simp [this.1, this.2]))
  clear hx1 hs1 hz1
  go_wp2_with fail
  refine (clone_bytes B _ _ _ _ HB1.out (u8s_one _) (by omega)).mono ?_
  rintro e w2 ⟨v', rfl, hown, hk2⟩
  have HO := hid hown
  clear hown
  go_wp2
  go_ret2
  exact HC.out _ _ _ HX.out HS1.out hk1 HZ.out hk2 HO.out

set_option maxHeartbeats 400000 in
theorem take_no {B : Nat → Prop} {w : World} {x s : Nat} {q : Q} (hq : RingQ B w x s q) (hf : q.full = []) : Calls Try.prog 11 #[.pointer (some ⟨x, 0, none⟩)] w (Took B w x s q) := by
  have hq' := hq
  obtain ⟨hok, hne, hap, cap, cs, h1, h2, h3, h4, h5, h6, h7⟩ := hq
  have hI := hok.takeIx_lt
  have HS := hid (step_no x s 2 q.n q.takeIx cap _ cs (q.own q.takeIx) 1 2 w h1 h2 rfl rfl hI (h6 _ hI) (by have := hok.own_empty hf; omega))
  have HF := hid (fun m => show Took B w x s q (.returned (.tuple #[.slice none 0 0, .int .i64 13])) (w.drewN m) from by
    have e1 : q.take = q := by simp [Q.take, hf]
    have e2 : q.takeE = 13 := by simp [Q.takeE, hf]
    have e3 : q.head = [] := by simp [Q.head, hf]
    exact ⟨_, by rw [e2], by rw [e3]; exact World.ownsRow_nil _ _ _ _, by rw [e1]; exact hq'.drewN m, (Kept.refl _ w).drewN m⟩)
  clear h1 h2 h3 h4 h5 h6 h7 hap hq' hok hf
  go_enter Try.func11, Try.ntmps11
  go_wp2_with fail
  refine HS.out.mono ?_
  rintro e w1 ⟨rfl, m, rfl⟩
  go_wp2
  go_ret2
  exact HF.out m

theorem take_any {B : Nat → Prop} {w : World} {x s : Nat} {q : Q} (hq : RingQ B w x s q) : Calls Try.prog 11 #[.pointer (some ⟨x, 0, none⟩)] w (Took B w x s q) := by
  by_cases hf : q.full = []
  · exact take_no hq hf
  · exact take_yes hq hf

theorem take_nil (w : World) : Calls Try.prog 11 #[.pointer none] w fun e w' => e = .returned (.tuple #[.slice none 0 0, .int .i64 1]) ∧ w = w' := by
  go_enter Try.func11, Try.ntmps11
  go_wp2
  go_ret2
  exact ⟨rfl, rfl⟩

def Gave (B : Nat → Prop) (w : World) (x s : Nat) (q : Q) (e : Ending) (w' : World) : Prop :=
  e = .returned (.int .i64 q.giveE) ∧ RingQ B w' x s q.give ∧ Kept [x, s] w w'

theorem gave_close {B : Nat → Prop} {w w1 : World} {x s : Nat} {q : Q} (hq : RingQ B w x s q) (hf : q.out ≠ 0)
    {cap : Nat} {cs : Array Value} (hok : q.ok) (hcap : q.n ≤ cap) (hsz : cs.size = cap * 2) (hone : ∀ u ∈ cs.toList.take (q.n * 2), u.oneCell' = true) (how : ∀ i, i < q.n → cs[i * 2]? = some (.int .i64 (q.own i)))
    (hby : ∀ j xs, q.full[j]? = some xs → ∃ v, cs[idx q.n q.r (q.out + j) * 2 + 1]? = some v ∧ SliceIn B w 1 v xs.length (u8s xs))
    (hx1 : w1.heap[x]? = some (.cells #[.slice (some ⟨s, 0, none⟩) q.n cap, .int .i64 q.fillIx, .int .i64 q.takeIx, .int .i64 (next q.n q.r), .int .i64 q.dropped] 55 (0, 0)))
    (hs1 : w1.heap[s]? = some (.cells (cs.setIfInBounds (q.r * 2) (.int .i64 0)) 61 (0, 0))) (hk1 : Kept [x, s] w w1) :
    Gave B w x s q (.returned (.int .i64 0)) (w1.setCell ⟨s, q.r * 2 + 1, none⟩ (.slice none 0 0)) := by
  have e1 : q.give = q.given := by simp [Q.give, hf]
  have e2 : q.giveE = 0 := by simp [Q.giveE, hf]
  have hk3 : Kept [x, s] w (w1.setCell ⟨s, q.r * 2 + 1, none⟩ (.slice none 0 0)) := hk1.setCell (.inl (by simp)) _
  have hap := hq.apart
  have hr := hok.r
  refine ⟨by rw [e2], ?_, hk3⟩
  rw [e1]
  refine ⟨hok.given, hq.ne, hap, cap, _, ?_, blk_set hs1 _ _, hcap, by simp [hsz], mem_set (mem_set hone rfl) rfl, fun i hi => ?_, fun j xs hj => ?_⟩
  · rw [Q.fillIx_given hok hf, Q.takeIx_given hok hf]; exact blk_other _ (Ne.symm hq.ne) hx1
  · have hi' : i < q.n := hi
    rw [hok.own_given hf i hi', Array.getElem?_setIfInBounds, if_neg (by omega), Array.getElem?_setIfInBounds]
    by_cases h : i = q.r
    · subst h
      simp; omega
    · rw [if_neg (by omega), if_neg h]; exact how i hi'
  · have hj' : q.full[j]? = some xs := hj
    have hjl := (List.getElem?_eq_some_iff.1 hj').1
    obtain ⟨v, hv, hb⟩ := hby j xs hj'
    have hpl := hok.place_ne_give hjl hf
    refine ⟨v, ?_, hb.kept hk3 (fun b _ hB' => by have := hap b hB'; simp [this.1, this.2])⟩
    rw [Q.place_given hok hf hjl, Array.getElem?_setIfInBounds, if_neg (by omega), Array.getElem?_setIfInBounds, if_neg (by omega)]
    exact hv

set_option maxHeartbeats 400000 in
theorem give_yes {B : Nat → Prop} {w : World} {x s : Nat} {q : Q} (hq : RingQ B w x s q) (hf : q.out ≠ 0) : Calls Try.prog 12 #[.pointer (some ⟨x, 0, none⟩)] w (Gave B w x s q) := by
  have hq' := hq
  obtain ⟨hok, hne, hap, cap, cs, h1, h2, h3, h4, h5, h6, h7⟩ := hq
  have hI := hok.r
  have HS := hid (step_ok x s 3 q.n q.r cap _ cs 2 0 w h1 h2 hne rfl rfl (by decide) hI hok.le (by rw [h6 _ hI, Q.ok.own_give hf]; rfl))
  have HC := hid (fun (w1 : World) => @gave_close B w w1 x s q hq' hf cap cs hok h3 h4 h5 h6 h7)
  have hcs : q.r * 2 + 1 < cs.size := by rw [h4]; omega
  clear h1 h2 h3 h4 h5 h6 h7 hap hq' hok hf
  go_enter Try.func12, Try.ntmps12
  go_wp2_with fail
  refine HS.out.mono ?_
  rintro e w1 ⟨rfl, hx1, hs1, hk1, hz1⟩
  obtain ⟨u, c1⟩ : ∃ u, w1.cell? ⟨s, q.r * 2 + 1, none⟩ = some u := ⟨_, (blk_cell hs1 _).trans (Array.getElem?_eq_getElem (by simpa using hcs))⟩
  have f1 := blk_free hs1
  have HX := hid hx1
  have HS1 := hid hs1
  clear hx1 hs1 hz1
  go_wp2
  go_ret
  exact HC.out _ HX.out HS1.out hk1

set_option maxHeartbeats 400000 in
theorem give_no {B : Nat → Prop} {w : World} {x s : Nat} {q : Q} (hq : RingQ B w x s q) (hf : q.out = 0) : Calls Try.prog 12 #[.pointer (some ⟨x, 0, none⟩)] w (Gave B w x s q) := by
  have hq' := hq
  obtain ⟨hok, hne, hap, cap, cs, h1, h2, h3, h4, h5, h6, h7⟩ := hq
  have hI := hok.r
  have HS := hid (step_no x s 3 q.n q.r cap _ cs (q.own q.r) 2 0 w h1 h2 rfl rfl hI (h6 _ hI) (by have := Q.ok.own_none hf; omega))
  have HF := hid (fun m => show Gave B w x s q (.returned (.int .i64 13)) (w.drewN m) from by
    have e1 : q.give = q := by simp [Q.give, hf]
    have e2 : q.giveE = 13 := by simp [Q.giveE, hf]
    exact ⟨by rw [e2], by rw [e1]; exact hq'.drewN m, (Kept.refl _ w).drewN m⟩)
  clear h1 h2 h3 h4 h5 h6 h7 hap hq' hok hf
  go_enter Try.func12, Try.ntmps12
  go_wp2_with fail
  refine HS.out.mono ?_
  rintro e w1 ⟨rfl, m, rfl⟩
  go_wp2
  go_ret
  exact HF.out m

theorem give_any {B : Nat → Prop} {w : World} {x s : Nat} {q : Q} (hq : RingQ B w x s q) : Calls Try.prog 12 #[.pointer (some ⟨x, 0, none⟩)] w (Gave B w x s q) := by
  by_cases hf : q.out = 0
  · exact give_no hq hf
  · exact give_yes hq hf

theorem give_nil (w : World) : Calls Try.prog 12 #[.pointer none] w fun e w' => e = .returned (.int .i64 1) ∧ w = w' := by
  go_enter Try.func12, Try.ntmps12
  go_wp2
  go_ret
  exact ⟨rfl, rfl⟩

def Q.ownAt (q : Q) (i : Int) : Int := if 0 ≤ i ∧ i < q.n then q.own i.toNat else 0
def Q.ownE (q : Q) (i : Int) : Int := if 0 ≤ i ∧ i < q.n then 0 else 2

def Owned (q : Q) (i : Int) (w : World) (e : Ending) (w' : World) : Prop := e = .returned (.tuple #[.int .i64 (q.ownAt i), .int .i64 (q.ownE i)]) ∧ w = w'

set_option maxHeartbeats 400000 in
theorem owner_any {B : Nat → Prop} {w : World} {x s : Nat} {q : Q} (hq : RingQ B w x s q) (i : Int) : Calls Try.prog 16 #[.pointer (some ⟨x, 0, none⟩), .int .i64 i] w (Owned q i w) := by
  obtain ⟨hok, hne, hap, cap, cs, h1, h2, h3, h4, h5, h6, h7⟩ := hq
  have c0 := blk_cell h1 0
  simp at c0
  by_cases h0 : i < 0
  · have HF := hid (show Owned q i w (.returned (.tuple #[.int .i64 0, .int .i64 2])) w from ⟨by simp [Q.ownAt, Q.ownE, show ¬ (0 ≤ i) by omega], rfl⟩)
    clear h1 h2 h3 h4 h5 h6 h7 hap hok
    go_enter Try.func16, Try.ntmps16
    go_wp2
    go_ret2
    exact HF.out
  · by_cases hn : i < q.n
    · obtain ⟨k, rfl⟩ : ∃ k : Nat, i = k := ⟨i.toNat, by omega⟩
      have ck := (blk_cell h2 (k * 2)).trans (h6 k (by omega))
      have HF := hid (show Owned q k w (.returned (.tuple #[.int .i64 (q.own k), .int .i64 0])) w from ⟨by simp [Q.ownAt, Q.ownE, show k < q.n by omega], rfl⟩)
      have hk : k < q.n := by omega
      have hle := hok.le
      clear h1 h2 h3 h4 h5 h6 h7 hap hok
      go_enter Try.func16, Try.ntmps16
      go_wp2
      go_ret2
      exact HF.out
    · have HF := hid (show Owned q i w (.returned (.tuple #[.int .i64 0, .int .i64 2])) w from ⟨by simp [Q.ownAt, Q.ownE, hn], rfl⟩)
      clear h1 h2 h3 h4 h5 h6 h7 hap hok
      go_enter Try.func16, Try.ntmps16
      go_wp2
      go_ret2
      exact HF.out

theorem owner_nil (i : Int) (w : World) : Calls Try.prog 16 #[.pointer none, .int .i64 i] w fun e w' => e = .returned (.tuple #[.int .i64 0, .int .i64 1]) ∧ w = w' := by
  go_enter Try.func16, Try.ntmps16
  go_wp2
  go_ret2
  exact ⟨rfl, rfl⟩

end Go.Proofs.Ytnbbbhemlmkeiaa
