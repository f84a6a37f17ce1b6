/-
  Count, New, Fork on the ring in memory.
-/
import Derived.Test.YtnbbbhemlmkeiaaRing2
namespace Go.Proofs.Ytnbbbhemlmkeiaa
open Go.RowKit

/-- Of the places below k, how many stand less than m behind r. -/
def Fc (n r m k : Nat) : Nat := min (min k r) (m - (n - r)) + min (k - r) m

theorem Fc_succ {n r m k : Nat} (hr : r < n) (hm : m ≤ n) (hk : k < n) : Fc n r m (k + 1) = Fc n r m k + if dist n r k < m then 1 else 0 := by
  unfold Fc dist; repeat' split
  all_goals omega
theorem Fc_zero {n r m : Nat} : Fc n r m 0 = 0 := by unfold Fc; omega
theorem Fc_all {n r m : Nat} (hr : r < n) (hm : m ≤ n) : Fc n r m n = m := by unfold Fc; omega
theorem Fc_mono {n r m m' k : Nat} (h : m ≤ m') : Fc n r m k ≤ Fc n r m' k := by unfold Fc; omega
theorem Fc_le {n r m k : Nat} : Fc n r m k ≤ k := by unfold Fc; omega

def Q.c0 (q : Q) (k : Nat) : Nat := k - Fc q.n q.r (q.out + q.full.length) k
def Q.c1 (q : Q) (k : Nat) : Nat := Fc q.n q.r (q.out + q.full.length) k - Fc q.n q.r q.out k
def Q.c2 (q : Q) (k : Nat) : Nat := Fc q.n q.r q.out k

theorem Q.ok.count_succ {q : Q} (h : q.ok) {k : Nat} (hk : k < q.n) :
    q.c0 (k + 1) = q.c0 k + (if q.own k = 0 then 1 else 0) ∧ q.c1 (k + 1) = q.c1 k + (if q.own k = 1 then 1 else 0) ∧ q.c2 (k + 1) = q.c2 k + (if q.own k = 2 then 1 else 0) := by
  have hfit := h.fit
  have e1 := Fc_succ h.r (show q.out ≤ q.n by omega) hk
  have e2 := Fc_succ h.r hfit hk
  have l1 : Fc q.n q.r q.out k ≤ Fc q.n q.r (q.out + q.full.length) k := Fc_mono (by omega)
  have l2 : Fc q.n q.r (q.out + q.full.length) k ≤ k := Fc_le
  unfold Q.c0 Q.c1 Q.c2 Q.own
  rw [e1, e2]
  generalize Fc q.n q.r q.out k = a at *
  generalize Fc q.n q.r (q.out + q.full.length) k = b at *
  by_cases h1 : dist q.n q.r k < q.out
  · have h2 : dist q.n q.r k < q.out + q.full.length := by omega
    simp [h1, h2]
  · by_cases h2 : dist q.n q.r k < q.out + q.full.length
    · simp [h1, h2]; omega
    · simp [h1, h2]; omega
theorem Q.c_zero (q : Q) : q.c0 0 = 0 ∧ q.c1 0 = 0 ∧ q.c2 0 = 0 := by
  unfold Q.c0 Q.c1 Q.c2; rw [Fc_zero, Fc_zero]; simp
theorem Q.c_le (q : Q) (k : Nat) : q.c0 k ≤ k ∧ q.c1 k ≤ k ∧ q.c2 k ≤ k := by
  have l2 : Fc q.n q.r (q.out + q.full.length) k ≤ k := Fc_le
  have l1 : Fc q.n q.r q.out k ≤ k := Fc_le
  unfold Q.c0 Q.c1 Q.c2; omega

theorem Q.own_le (q : Q) (i : Nat) : q.own i = 0 ∨ q.own i = 1 ∨ q.own i = 2 := by
  unfold Q.own
  by_cases h1 : dist q.n q.r i < q.out
  · simp [h1]
  · by_cases h2 : dist q.n q.r i < q.out + q.full.length <;> simp [h1, h2]

def Counted (q : Q) (w : World) (e : Ending) (w' : World) : Prop :=
  e = .returned (.tuple #[.int .i64 ((q.n : Int) - (q.out : Int) - (q.full.length : Int)), .int .i64 (q.full.length : Nat), .int .i64 (q.out : Nat), .int .i64 (q.dropped : Nat)]) ∧ Kept [] w w'

theorem count_close {w w' : World} {q : Q} (hok : q.ok) (hk : Kept [] w w') :
    Counted q w (.returned (.tuple #[.int .i64 (q.c0 q.n), .int .i64 (q.c1 q.n), .int .i64 (q.c2 q.n), .int .i64 (q.dropped : Nat)])) w' := by
  have hfit := hok.fit
  have e2 := Fc_all hok.r (show q.out ≤ q.n by omega)
  have e1 := Fc_all hok.r hfit
  refine ⟨?_, hk⟩
  unfold Q.c0 Q.c1 Q.c2
  rw [e1, e2]
  have a1 : ((q.n - (q.out + q.full.length) : Nat) : Int) = (q.n : Int) - (q.out : Int) - (q.full.length : Int) := by omega
  have a2 : q.out + q.full.length - q.out = q.full.length := by omega
  rw [a1, a2]

theorem count_step {wr : World} {N k : Nat} {q : Q} (hok : q.ok) (hlt : k < q.n) (hb : wr.heap[N]? = some (.cells #[.int .i64 (q.c0 k), .int .i64 (q.c1 k), .int .i64 (q.c2 k)] 44 (0, 0))) :
    (q.own k = 0 → (wr.setCell ⟨N, 0, none⟩ (.int .i64 ((q.c0 k : Int) + 1))).heap[N]? = some (.cells #[.int .i64 (q.c0 (k + 1)), .int .i64 (q.c1 (k + 1)), .int .i64 (q.c2 (k + 1))] 44 (0, 0))) ∧
    (q.own k = 1 → (wr.setCell ⟨N, 1, none⟩ (.int .i64 ((q.c1 k : Int) + 1))).heap[N]? = some (.cells #[.int .i64 (q.c0 (k + 1)), .int .i64 (q.c1 (k + 1)), .int .i64 (q.c2 (k + 1))] 44 (0, 0))) ∧
    (q.own k = 2 → (wr.setCell ⟨N, 2, none⟩ (.int .i64 ((q.c2 k : Int) + 1))).heap[N]? = some (.cells #[.int .i64 (q.c0 (k + 1)), .int .i64 (q.c1 (k + 1)), .int .i64 (q.c2 (k + 1))] 44 (0, 0))) := by
  obtain ⟨e0, e1, e2⟩ := hok.count_succ hlt
  rw [e0, e1, e2]
  refine ⟨fun h => ?_, fun h => ?_, fun h => ?_⟩ <;> rw [h, blk_set hb] <;> simp

set_option maxHeartbeats 1000000 in
theorem count_any {B : Nat → Prop} {w : World} {x s : Nat} {q : Q} (hq : RingQ B w x s q) : Calls Try.prog 14 #[.pointer (some ⟨x, 0, none⟩)] w (Counted q w) := by
  obtain ⟨hok, hne, hap, cap, cs, h1, h2, h3, h4, h5, h6, h7⟩ := hq
  have c0 := blk_cell h1 0
  have c4 := blk_cell h1 4
  simp at c0 c4
  have hle := hok.le
  have hxl := lt_of_block h1
  have hsl := lt_of_block h2
  have hnew := blk_new w (.cells #[.int .i64 0, .int .i64 0, .int .i64 0] 44)
  have HN := hid hnew
  have H1 := hid h1
  have H2 := hid h2
  have H6 := hid h6
  have HOK := hid hok
  clear h1 h2 h3 h4 h5 h6 h7 hap hok hnew
  go_enter Try.func14, Try.ntmps14
  go_wp2
  go_loopw [15] (fun i wr => ∃ k : Nat, k ≤ q.n ∧ i = .int .i64 k ∧ wr.heap[w.heap.size]? = some (.cells #[.int .i64 (q.c0 k), .int .i64 (q.c1 k), .int .i64 (q.c2 k)] 44 (0, 0)) ∧ Kept [] w wr) (fun i _ => q.n - (intOf i).toNat)
  case atStart =>
    obtain ⟨z0, z1, z2⟩ := q.c_zero
    exact ⟨0, Nat.zero_le _, rfl, by rw [z0, z1, z2]; exact HN.out, (Kept.refl [] w).alloc _⟩
  case round =>
    obtain ⟨k, hk, rfl, hb, hkp⟩ := hrel
    have d0 := (Kept.cell hkp c0 (by simp))
    have d4 := (Kept.cell hkp c4 (by simp))
    by_cases hlt : k < q.n
    · have hs := hkp.blk H2.out (by simp)
      have ds := (blk_cell hs (k * 2)).trans (H6.out k hlt)
      have b0 := blk_cell hb 0
      have b1 := blk_cell hb 1
      have b2 := blk_cell hb 2
      simp at b0 b1 b2
      have bf := blk_free hb
      have hcs := count_step HOK.out hlt hb
      have HCS := hid hcs
      obtain ⟨l0, l1, l2⟩ := q.c_le k
      clear hb hs hcs
      rcases q.own_le k with ho | ho | ho
      · rw [ho] at ds
        have HO := hid ho
        clear ho
        go_wp2
        go_roundw
        case rel => exact ⟨k + 1, by omega, by go_num, HCS.out.1 HO.out, hkp.setCell (.inr (Nat.le_refl _)) _⟩
        case measure => simp [intOf]; omega
      · rw [ho] at ds
        have HO := hid ho
        clear ho
        go_wp2
        go_roundw
        case rel => exact ⟨k + 1, by omega, by go_num, HCS.out.2.1 HO.out, hkp.setCell (.inr (Nat.le_refl _)) _⟩
        case measure => simp [intOf]; omega
      · rw [ho] at ds
        have HO := hid ho
        clear ho
        go_wp2
        go_roundw
        case rel => exact ⟨k + 1, by omega, by go_num, HCS.out.2.2 HO.out, hkp.setCell (.inr (Nat.le_refl _)) _⟩
        case measure => simp [intOf]; omega
    · obtain rfl : k = q.n := by omega
      have b0 := blk_cell hb 0
      have b1 := blk_cell hb 1
      have b2 := blk_cell hb 2
      simp at b0 b1 b2
      clear hb
      go_wp2
      go_quiet (fail)
      go_wp2
      exact bodyPost_ret (v := .tuple #[.int .i64 (q.c0 q.n), .int .i64 (q.c1 q.n), .int .i64 (q.c2 q.n), .int .i64 (q.dropped : Nat)]) (by simp [results, Try.results14, go_sem]) rfl (count_close HOK.out (hkp.drewN _))

def Q.new (n : Nat) : Q := { n := n, r := 0, out := 0, full := [], dropped := 0 }

def Made (n : Nat) (w : World) (e : Ending) (w' : World) : Prop :=
  ∃ x s, e = .returned (.tuple #[.pointer (some ⟨x, 0, none⟩), .int .i64 0]) ∧ w.heap.size ≤ x ∧ w.heap.size ≤ s ∧ (∀ C : Nat → Prop, (∀ b, C b → b ≠ x ∧ b ≠ s) → RingQ C w' x s (Q.new n)) ∧ Kept [] w w'

theorem two_cells (n i : Nat) (hi : i < n) : (madeCells #[.int .i64 0, .slice none 0 0] (n * 2))[i * 2]? = some (.int .i64 0) := by
  unfold madeCells
  rw [Array.getElem?_map, Array.getElem?_range, if_pos (by omega)]
  simp

theorem two_one (n : Nat) : ∀ u ∈ (madeCells #[.int .i64 0, .slice none 0 0] (n * 2)).toList, u.oneCell' = true := by
  intro u hu
  unfold madeCells at hu
  simp at hu
  obtain ⟨a, _, rfl⟩ := hu
  rcases Nat.mod_two_eq_zero_or_one a with h | h <;> simp [h, Value.oneCell']

theorem made_close {n : Nat} {w : World} (h1 : 1 ≤ n) (h2 : n ≤ 64) :
    Made n w (.returned (.tuple #[.pointer (some ⟨w.heap.size + 1, 0, none⟩), .int .i64 0]))
      ((w.alloc (.cells (madeCells #[.int .i64 0, .slice none 0 0] (n * 2)) 61)).alloc (.cells #[.slice (some ⟨w.heap.size, 0, none⟩) n n, .int .i64 0, .int .i64 0, .int .i64 0, .int .i64 0] 55)) := by
  refine ⟨w.heap.size + 1, w.heap.size, rfl, by omega, by omega, fun C hC => ?_, ((Kept.refl [] w).alloc _).alloc _⟩
  have hok : (Q.new n).ok := ⟨h1, h2, h1, by simp [Q.new], fun xs hx => by simp [Q.new] at hx, by simp [Q.new]⟩
  have hx := blk_new (w.alloc (.cells (madeCells #[.int .i64 0, .slice none 0 0] (n * 2)) 61)) (.cells #[.slice (some ⟨w.heap.size, 0, none⟩) n n, .int .i64 0, .int .i64 0, .int .i64 0, .int .i64 0] 55)
  rw [World.size_alloc] at hx
  have e0 : (Q.new n).fillIx = 0 := by simp [Q.fillIx, Q.new, idx]
  have e1 : (Q.new n).takeIx = 0 := by simp [Q.takeIx, Q.new, idx]
  refine ⟨hok, by omega, hC, n, _, ?_, blk_alloc _ (blk_new w _), Nat.le_refl _, by simp [size_madeCells], fun u hu => two_one n u (List.mem_of_mem_take hu), fun i hi => ?_, fun j xs hj => by simp [Q.new] at hj⟩
  · rw [e0, e1]; exact hx
  · have : (Q.new n).own i = 0 := by simp [Q.own, Q.new]
    rw [this]; exact two_cells n i hi

theorem make53 (n : Nat) (hn : n ≤ 64) (w : World) : (Instr.makeSlice 53 (.int .i64 n) (.int .i64 n)).run Try.prog w =
    .ok (.slice (some ⟨w.heap.size, 0, none⟩) n n) (w.alloc (.cells (madeCells #[.int .i64 0, .slice none 0 0] (n * 2)) 61)) := by
  obtain ⟨i0, hi, hz0, hz1, hz2⟩ := info_parts info61
  have h := run_make (P := Try.prog) w 53 61 i0 _ Try.underlying53 hi hz0 .i64 .i64 n n (by omega) (Int.le_refl _) (by rw [hz2]; omega) (by omega)
  rw [hz1] at h
  simp only [Int.toNat_natCast] at h
  exact h

set_option maxHeartbeats 400000 in
theorem new_yes (n : Nat) (w : World) (h1 : 1 ≤ n) (h2 : n ≤ 64) : Calls Try.prog 9 #[.int .i64 n] w (Made n w) := by
  have HC := hid (made_close (w := w) h1 h2)
  have hmk := make53 n h2
  go_enter Try.func9, Try.ntmps9
  go_wp2
  go_ret2
  exact HC.out

theorem new_no (n : Int) (w : World) (h : n < 1 ∨ 64 < n) : Calls Try.prog 9 #[.int .i64 n] w fun e w' => e = .returned (.tuple #[.pointer none, .int .i64 2]) ∧ w = w' := by
  by_cases h1 : n < 1
  · clear h
    go_enter Try.func9, Try.ntmps9
    go_wp2
    go_ret2
    exact ⟨rfl, rfl⟩
  · have h2 : 64 < n := by omega
    clear h
    go_enter Try.func9, Try.ntmps9
    go_wp2
    go_ret2
    exact ⟨rfl, rfl⟩

def Forked (B : Nat → Prop) (w : World) (q : Q) (e : Ending) (w' : World) : Prop :=
  ∃ x s, e = .returned (.pointer (some ⟨x, 0, none⟩)) ∧ w.heap.size ≤ x ∧ w.heap.size ≤ s ∧ RingQ (fun b => B b ∧ b < w.heap.size) w' x s q ∧ Kept [] w w'

theorem fork_close {B : Nat → Prop} {w w2 : World} {x s g cg cap : Nat} {q : Q} {cs : Array Value} (hq : RingQ B w x s q) (hone : ∀ u ∈ cs.toList.take (q.n * 2), u.oneCell' = true) (how : ∀ i, i < q.n → cs[i * 2]? = some (.int .i64 (q.own i)))
    (hby : ∀ j xs, q.full[j]? = some xs → ∃ v, cs[idx q.n q.r (q.out + j) * 2 + 1]? = some v ∧ SliceIn B w 1 v xs.length (u8s xs))
    (hk : Kept [] (w.alloc (.cells #[.slice (some ⟨s, 0, none⟩) q.n cap, .int .i64 q.fillIx, .int .i64 q.takeIx, .int .i64 q.r, .int .i64 q.dropped] 55)) w2)
    (hown : w2.ownsRow (w.heap.size + 1) 61 2 (.slice (some ⟨g, 0, none⟩) q.n cg) q.n (cs.toList.take (q.n * 2))) :
    Forked B w q (.returned (.pointer (some ⟨w.heap.size, 0, none⟩))) (w2.setCell ⟨w.heap.size, 0, none⟩ (.slice (some ⟨g, 0, none⟩) q.n cg)) := by
  have hok := hq.ok
  rcases hown.2 with ⟨h, _⟩ | ⟨g', cg', cur, hv, hg, hb, hn, hm, hc, ht⟩
  · cases h
  cases hv
  have hx2 := hk.blk (blk_new w _) (by simp)
  have hx3 := blk_set hx2 0 (.slice (some ⟨g, 0, none⟩) q.n cg)
  have hs3 := blk_other (p := ⟨w.heap.size, 0, none⟩) (.slice (some ⟨g, 0, none⟩) q.n cg) (by simp; omega) hb
  have hk3 : Kept [] w (w2.setCell ⟨w.heap.size, 0, none⟩ (.slice (some ⟨g, 0, none⟩) q.n cg)) := (((Kept.refl [] w).alloc _).tr hk).setCell (.inr (by simp)) _
  have hcur : ∀ j, j < q.n * 2 → cur[j]? = cs[j]? := by
    intro j hj
    have h1 : (cur.toList.take (q.n * 2))[j]? = (cs.toList.take (q.n * 2))[j]? := by rw [ht]
    rw [List.getElem?_take, List.getElem?_take, if_pos hj, if_pos hj] at h1
    simpa using h1
  have hx3' : (w2.setCell ⟨w.heap.size, 0, none⟩ (.slice (some ⟨g, 0, none⟩) q.n cg)).heap[w.heap.size]? = some (.cells #[.slice (some ⟨g, 0, none⟩) q.n cg, .int .i64 q.fillIx, .int .i64 q.takeIx, .int .i64 q.r, .int .i64 q.dropped] 55 (0, 0)) := hx3
  have hone' : ∀ u ∈ (cur.toList.take (q.n * 2)), u.oneCell' = true := fun u hu => by
    rw [ht] at hu; exact hone u hu
  refine ⟨w.heap.size, g, rfl, Nat.le_refl _, by omega, ⟨hok, by omega, fun b hb' => by omega, cg, cur, hx3', hs3, hn, hc, ?_, fun i hi => ?_, fun j xs hj => ?_⟩, hk3⟩
  · exact hone'
  · rw [hcur _ (by omega)]; exact how i hi
  · obtain ⟨v, hv, hbs⟩ := hby j xs hj
    have hpl := hok.place_lt (List.getElem?_eq_some_iff.1 hj).1
    refine ⟨v, by rw [hcur _ (by omega)]; exact hv, ?_⟩
    exact ((hbs.mono (C := fun b => B b ∧ b < w.heap.size) (fun b h1 h2 => ⟨h2, h1⟩)).kept hk3 (fun _ _ _ => by simp))

theorem slots_in {w : World} {s n cap : Nat} {cs : Array Value} (h2 : w.heap[s]? = some (.cells cs 61 (0, 0))) (hle : n ≤ cap) (hsz : cs.size = cap * 2) :
    SliceIn (· = s) w 2 (.slice (some ⟨s, 0, none⟩) n cap) n (cs.toList.take (n * 2)) := by
  refine ⟨by simp [hsz]; omega, .inr ⟨s, 0, cap, rfl, hle, rfl, lt_of_block h2, fun j u hu => ?_⟩⟩
  rw [Nat.zero_add, blk_cell h2]
  rw [List.getElem?_take] at hu
  split at hu
  · simpa using hu
  · cases hu

set_option maxHeartbeats 400000 in
theorem fork_any {B : Nat → Prop} {w : World} {x s : Nat} {q : Q} (hq : RingQ B w x s q) : Calls Try.prog 17 #[.pointer (some ⟨x, 0, none⟩)] w (Forked B w q) := by
  have hq' := hq
  obtain ⟨hok, hne, hap, cap, cs, h1, h2, h3, h4, h5, h6, h7⟩ := hq
  have HC := hid (fun (w2 : World) (g cg : Nat) => @fork_close B w w2 x s g cg cap q cs hq' h5 h6 h7)
  have HIN := hid (slots_in h2 h3 h4)
  have HONE := hid h5
  have c0 := blk_cell h1 0
  have c1 := blk_cell h1 1
  have c2 := blk_cell h1 2
  have c3 := blk_cell h1 3
  have c4 := blk_cell h1 4
  simp at c0 c1 c2 c3 c4
  have hxl := lt_of_block h1
  have hle := hok.le
  have hpos := hok.pos
  clear h1 h2 h3 h4 h5 h6 h7 hap hok hq'
  go_enter Try.func17, Try.ntmps17
  go_wp2_with fail
  refine (clone_slots (· = s) _ q.n _ _ (HIN.out.kept ((Kept.refl [] w).alloc _) (fun _ _ _ => by simp)) HONE.out (by omega)).mono ?_
  rintro e w2 ⟨v', rfl, hown, hk2⟩
  obtain ⟨g, cg, rfl⟩ : ∃ g cg, v' = .slice (some ⟨g, 0, none⟩) q.n cg := by
    rcases hown.2 with ⟨_, h⟩ | ⟨g, cg, _, h, _⟩
    · omega
    · exact ⟨g, cg, h⟩
  rw [World.size_alloc] at hown
  have hb := hk2.blk (blk_new w _) (by simp)
  have d0 := blk_cell hb 0
  have df := blk_free hb
  simp at d0
  have HO := hid hown
  clear hown hb
  go_wp2
  go_ret
  exact HC.out _ _ _ hk2 HO.out

theorem fork_nil (w : World) : Calls Try.prog 17 #[.pointer none] w fun e w' => e = .returned (.pointer none) ∧ w = w' := by
  go_enter Try.func17, Try.ntmps17
  go_wp2
  go_ret
  exact ⟨rfl, rfl⟩

theorem count_nil (w : World) : Calls Try.prog 14 #[.pointer none] w fun e w' => e = .returned (.tuple #[.int .i64 0, .int .i64 0, .int .i64 0, .int .i64 0]) ∧ w = w' := by
  go_enter Try.func14, Try.ntmps14
  go_wp2
  exact bodyPost_ret (v := .tuple #[.int .i64 0, .int .i64 0, .int .i64 0, .int .i64 0]) (by simp [results, Try.results14, go_sem]) rfl ⟨rfl, rfl⟩

end Go.Proofs.Ytnbbbhemlmkeiaa
