/-
  (court).side: the side of a key, made where there is none.
-/
import Derived.Test.YtepadejkeokbcaaCourt
namespace Go.Proofs.Ytepadejkeokbcaa
open Go.RowKit Go.Maps

theorem Try.underlying48 : Try.prog.underlying 48 = some (.map 59 56) := by kernel_rfl
theorem zero56 (w : World) : (zeroValue 56).run Try.prog w = .ok (.pointer none) w := by kernel_rfl
theorem Try.underlying53 : Try.prog.underlying 53 = some (.map 38 3) := by kernel_rfl
theorem zero3 (w : World) : (zeroValue 3).run Try.prog w = .ok (.int .i64 0) w := by kernel_rfl

/-- What 'side' does. -/
def Sided (w0 w : World) (mb : Nat) (c : Key → Sd) (F : Key → Option Nat) (k : Key) (e : Ending) (w' : World) : Prop :=
  ∃ s O' F', e = .returned (ptr s) ∧ Court w0 w' mb c O' F' ∧ F' k = some s ∧ (∀ k' s', F k' = some s' → F' k' = some s') ∧ Kept [mb] w w'

set_option maxRecDepth 100000 in
set_option maxHeartbeats 1000000 in
theorem side_any {w0 w : World} {mb : Nat} {c : Key → Sd} {O : Owner} {F : Key → Option Nat} {k : Key} (hc : Court w0 w mb c O F) (hk : k.ok) : Calls Try.prog 20 #[.map (some mb), k.val] w (Sided w0 w mb c F k) := by
  have HC := hid hc
  obtain ⟨l, hl⟩ := key59 hk
  have HL := hid hl
  have hk1 : ∀ o, Kept [] w (w.alloc o) := fun o => (Kept.refl [] w).alloc o
  have hlook : ∀ w', Kept [] w w' → (Instr.lookup 48 (.map (some mb)) k.val false).run Try.prog w' = .ok (((F k).map ptr).getD (.pointer none)) w' := fun w' hkw =>
    (hc.map.kept hkw (by simp)).lookup law59 Key.inj Try.underlying48 (zero56 w') hl
  have hmm := @run_makeMap Try.prog
  cases hF : F k with
  | some s =>
    have HF := hid hF
    have hq := hlook (w.alloc (.cells #[.int .i64 k.host, .int .u32 k.own, .int .u32 k.peer] 59)) (hk1 _)
    rw [hF] at hq
    have HZ := hid (show Sided w0 w mb c F k (.returned (ptr s)) (w.alloc (.cells #[.int .i64 k.host, .int .u32 k.own, .int .u32 k.peer] 59)) from
      ⟨s, O, F, rfl, hc.stay (hk1 _), hF, fun _ _ h => h, (hk1 _).mono (by simp)⟩)
    generalize Sided w0 w mb c F k = Post at *
    clear hlook hk1 hc hF hl
    unfold Key.val at *
    simp only [Option.map, Option.getD, ptr] at hq HZ
    go_enter Try.func20, Try.ntmps20
    go_wp2_with fail
    exact HZ.out
  | none =>
    have HF := hid hF
    have hq := hlook (w.alloc (.cells #[.int .i64 k.host, .int .u32 k.own, .int .u32 k.peer] 59)) (hk1 _)
    rw [hF] at hq
    generalize hA : Obj.cells #[.int .i64 k.host, .int .u32 k.own, .int .u32 k.peer] 59 = A at *
    generalize hB : Obj.cells #[.slice none 0 0, .slice none 0 0, .map (some (w.heap.size + 1)), .bool false, .bool false, .bool false] 55 = B at *
    have hs1 : (w.alloc A).heap.size = w.heap.size + 1 := by show (w.heap.push A).size = _; simp
    have hs2 : ((w.alloc A).alloc (.map #[] 0)).heap.size = w.heap.size + 2 := by show ((w.heap.push A).push _).size = _; simp
    have hk3 : Kept [] w (((w.alloc A).alloc (.map #[] 0)).alloc B) := ((hk1 A).alloc _).alloc _
    obtain ⟨w4, hu, hm4, hk4⟩ := (hc.map.kept hk3 (by simp)).update law59 Key.inj Try.underlying48 hl (ptr (w.heap.size + 2))
    have hmlt := hc.map.lt
    have hnb : MapIs Try.prog 38 (Value.int .u16) w4 (w.heap.size + 1) (fun _ => none) := by
      have := MapIs.made (P := Try.prog) (k := 38) (enc := Value.int .u16) (w.alloc A)
      rw [hs1] at this
      exact (this.kept (S := []) ((Kept.refl [] _).alloc B) (by simp)).kept hk4 (by simp; omega)
    have hsb : w4.heap[w.heap.size + 2]? = some B := by
      have := blk_new ((w.alloc A).alloc (.map #[] 0)) B
      rw [hs2] at this
      exact hk4.blk this (by simp; omega)
    have hkk : Kept [mb] w w4 := (hk3.mono (by simp)).tr hk4
    have hka : w4.heap[w.heap.size]? = some A := hk4.blk (blk_alloc _ (blk_alloc _ (blk_new w A))) (by simp; omega)
    rw [← hA] at hka
    have ca0 := blk_cell hka 0
    have ca1 := blk_cell hka 1
    have ca2 := blk_cell hka 2
    simp only [List.getElem?_toArray, List.getElem?_cons_zero, List.getElem?_cons_succ] at ca0 ca1 ca2
    clear hka
    obtain ⟨O', hO'⟩ := hc.add hF hkk hm4 hnb (by rw [hsb, ← hB]) (by omega) (by omega) (by omega)
    have HZ := hid (show Sided w0 w mb c F k (.returned (ptr (w.heap.size + 2))) w4 from
      ⟨_, O', _, rfl, hO', by simp [upd], fun k' s' e => by
        unfold upd
        split
        · rename_i e1
          rw [e1, hF] at e
          cases e
        · exact e, hkk⟩)
    have hl4 : (Instr.lookup 48 (.map (some mb)) k.val false).run Try.prog w4 = .ok (ptr (w.heap.size + 2)) w4 := by
      have := hm4.lookup law59 Key.inj Try.underlying48 (zero56 w4) hl
      simpa using this
    generalize Sided w0 w mb c F k = Post at *
    subst hA hB
    clear hlook hk1 hc hF hl hnb hsb hO' hm4 hkk hk4 hk3 hs1 hs2 hmlt
    unfold Key.val at *
    simp only [Option.map, Option.getD, ptr] at hq HZ hu hl4
    go_enter Try.func20, Try.ntmps20
    go_wp2_with fail
    exact HZ.out

end Go.Proofs.Ytepadejkeokbcaa
