/-
  live: what must be whatever is asked.
-/
import Derived.Test.YtepadejkeokbcaaShort
namespace Go.Proofs.Ytepadejkeokbcaa
open Go.RowKit Go.Maps

theorem freeze_new (w : World) (x : Value) : (w.alloc (.cells #[x] 5)).freeze ⟨w.heap.size, 1, none⟩ 1 = w.alloc (.cells #[x] 5 (1, 2)) := by
  have h : ((w.heap.push (.cells #[x] 5 (0, 0))).modify w.heap.size fun | .cells c elem (lo, hi) => .cells c elem (if lo == hi then (1, 1 + 1) else (min lo 1, max hi (1 + 1))) | o => o) = w.heap.push (.cells #[x] 5 (1, 2)) := by
    apply Array.ext_getElem?
    intro i
    rw [Array.getElem?_modify, Array.getElem?_push, Array.getElem?_push]
    by_cases hi : w.heap.size = i
    · subst hi; simp
    · rw [if_neg hi, if_neg (Ne.symm hi), if_neg (Ne.symm hi)]
  unfold World.freeze
  rw [if_neg (by decide)]
  show ({ w with heap := _ } : World) = { w with heap := _ }
  exact congrArg (fun q => ({ w with heap := q } : World)) h
theorem conv_same (w : World) (x : Value) : (convert 39 39 (.slice (some ⟨w.heap.size, 0, none⟩) 1 1)).run Try.prog (w.alloc (.cells #[x] 5)) = .ok (.slice (some ⟨w.heap.size, 0, none⟩) 1 1) (w.alloc (.cells #[x] 5 (1, 2))) := by
  have hs : (w.alloc (.cells #[x] 5)).shape? w.heap.size = some (5, 1) := by unfold World.shape?; rw [blk_new]; rfl
  have hm : (markStringish ⟨w.heap.size, 0, none⟩).run Try.prog (w.alloc (.cells #[x] 5)) = .ok () (w.alloc (.cells #[x] 5 (1, 2))) := by
    unfold markStringish
    simp only [Sem.run_bind, run_shape, hs, Result.andThen, run_freeze]
    rw [freeze_new]
  simp [convert, run_underlying Try.underlying39, run_underlying Try.underlying5, hm, Result.andThen]

def lmsg (b : Nat) : Msg := ⟨1, 0, 0, false, [120], .slice (some ⟨b, 0, none⟩) 1 1⟩
def lsent (b : Nat) : Mark := ⟨1, 0, 3, 4, lmsg b, 0⟩
def lgot (b : Nat) : Mark := ⟨2, 1, 4, 3, lmsg b, 0⟩

theorem live_two (b : Nat) : judgeOf [lsent b, lgot b] = (2, 0) := by rfl
theorem live_three (b : Nat) : judgeOf [lsent b, lgot b, lgot b] = (2, 16) := by rfl
theorem live_owed (b : Nat) : owedOf [lsent b] ⟨0, 3, 4⟩ = (1, true) := by rfl

theorem blocks_in {w : World} {b size n : Nat} {cs : Array Value} {t : TypeId} {fr : Nat × Nat} (h : w.heap[b]? = some (.cells cs t fr)) (hs : cs.size = n * size) : SliceIn Any w size (.slice (some ⟨b, 0, none⟩) n n) n cs.toList := by
  refine ⟨by simpa using hs, .inr ⟨b, 0, n, rfl, Nat.le_refl _, trivial, lt_of_block h, fun j u hu => ?_⟩⟩
  rw [Nat.zero_add, blk_cell h, ← Array.getElem?_toList]
  exact hu

set_option maxRecDepth 100000 in
set_option maxHeartbeats 4000000 in
theorem live_any (w : World) : Calls Try.prog 12 #[] w fun e w' => e = .returned (.bool true) ∧ Kept [] w w' := by
  have hcv := conv_same
  generalize hA : Obj.cells #[.int .u8 120] 5 (1, 2) = A
  generalize hB : Obj.cells #[.int .u16 1, .int .u16 0, .int .u32 0, .bool false, .slice (some ⟨w.heap.size, 0, none⟩) 1 1] 41 = B
  generalize hC : Obj.cells #[.int .i64 1, .int .i64 0, .int .u32 3, .int .u32 4, .int .u16 1, .int .u16 0, .int .u32 0, .bool false, .slice (some ⟨w.heap.size, 0, none⟩) 1 1, .int .i64 0,
    .int .i64 2, .int .i64 1, .int .u32 4, .int .u32 3, .int .u16 1, .int .u16 0, .int .u32 0, .bool false, .slice (some ⟨w.heap.size, 0, none⟩) 1 1, .int .i64 0,
    .int .i64 2, .int .i64 1, .int .u32 4, .int .u32 3, .int .u16 1, .int .u16 0, .int .u32 0, .bool false, .slice (some ⟨w.heap.size, 0, none⟩) 1 1, .int .i64 0] 44 = C
  have hk : Kept [] w (((w.alloc A).alloc B).alloc C) := (((Kept.refl [] w).alloc _).alloc _).alloc _
  have hsz : ((w.alloc A).alloc B).heap.size = w.heap.size + 1 + 1 := by show ((w.heap.push A).push B).size = _; simp
  have hbC := blk_new ((w.alloc A).alloc B) C
  rw [hsz] at hbC
  have hbC := hbC.trans (congrArg some hC.symm)
  have hbA : (((w.alloc A).alloc B).alloc C).heap[w.heap.size]? = some A := blk_alloc _ (blk_alloc _ (blk_new w A))
  have hbA := hbA.trans (congrArg some hA.symm)
  have hmsg : (lmsg w.heap.size).here (((w.alloc A).alloc B).alloc C) := ⟨blocks_in hbA rfl, by simp [lmsg], by simp [lmsg], by simp [lmsg]⟩
  have hraw : MarksRaw (((w.alloc A).alloc B).alloc C) (.slice (some ⟨w.heap.size + 1 + 1, 0, none⟩) 3 3) [lsent w.heap.size, lgot w.heap.size, lgot w.heap.size] :=
    ⟨blocks_in hbC rfl, fun m hm => by
      simp only [List.mem_cons, List.not_mem_nil, or_false] at hm
      rcases hm with rfl | rfl | rfl
      · exact ⟨hmsg, by simp [Key.ok, Mark.key, lsent]⟩
      · exact ⟨hmsg, by simp [Key.ok, Mark.key, lgot]⟩
      · exact ⟨hmsg, by simp [Key.ok, Mark.key, lgot]⟩⟩
  have h2 := slice_to (L := [lsent w.heap.size, lgot w.heap.size, lgot w.heap.size]) hraw (k := 2) (by simp)
  have h1 := slice_to (L := [lsent w.heap.size, lgot w.heap.size, lgot w.heap.size]) hraw (k := 1) (by simp)
  have HK := hid hk
  have HR := hid hraw
  have H2 := hid h2.2
  have H1 := hid h1.2
  subst hA hB hC
  clear hk hsz hbC hbA hmsg hraw h2 h1
  go_enter Try.func12, Try.ntmps12
  go_wp2_with fail
  refine (Judge_any (H2.out.few (by simp))).mono ?_
  rintro e w1 ⟨rfl, hk1⟩
  rw [show [lsent w.heap.size, lgot w.heap.size, lgot w.heap.size].take 2 = [lsent w.heap.size, lgot w.heap.size] from rfl, live_two]
  have HK1 := hid hk1
  clear hk1
  go_wp2_with fail
  refine (Judge_any ((HR.out.kept HK1.out).few (by simp))).mono ?_
  rintro e w2 ⟨rfl, hk2⟩
  rw [live_three]
  have HK2 := hid (HK1.out.tr hk2)
  clear hk2
  go_wp2_with fail
  refine (Owed_any (k := ⟨0, 3, 4⟩) ((H1.out.kept HK2.out).few (by simp)) (by simp [Key.ok])).mono ?_
  rintro e w3 ⟨rfl, hk3⟩
  rw [show [lsent w.heap.size, lgot w.heap.size, lgot w.heap.size].take 1 = [lsent w.heap.size] from rfl, live_owed]
  have HK3 := hid (HK.out.tr (HK2.out.tr hk3))
  clear hk3
  go_wp2
  go_ret
  exact ⟨rfl, HK3.out⟩

end Go.Proofs.Ytepadejkeokbcaa
