/-
  Both trackers side by side: same, do.
-/
import Derived.Test.YthdcodjdecnniaaRefC
import Derived.Test.YthdcodjdecnniaaRefE
import Derived.Test.YthdcodjdecnniaaSameB
namespace Go.Proofs.Ythdcodjdecnniaa
open Go.RowKit

/-- x and y hold the same tracker, o is x's own row, B the blocks of y's. -/
structure Pair (B : Nat → Prop) (w : World) (x y : Nat) (o : Option Nat) (t : T) : Prop where
  here : Track w x o t
  there : Ref B w y t
  ne : x ≠ y
  xB : ¬ B x
  oy : o ≠ some y
  oB : ∀ k, o = some k → ¬ B k

section
variable {B : Nat → Prop} {w w' : World} {x y : Nat} {o : Option Nat} {t t' : T}
theorem Pair.kept0 (h : Pair B w x y o t) (hk : Kept [] w w') : Pair B w' x y o t :=
  ⟨h.here.kept hk (by simp) (by simp), h.there.kept0 hk, h.ne, h.xB, h.oy, h.oB⟩

/-- Behind an operation on x, and one on y. -/
theorem Pair.moved {w1 w2 : World} {o' : Option Nat} (h : Pair B w x y o t) (h1 : Track w1 x o' t') (ho : o' = o ∨ ∀ k, o' = some k → w.heap.size ≤ k) {B' : Nat → Prop} (h2 : Ref B' w2 y t')
    (hB : ∀ b, B' b → B b ∨ w1.heap.size ≤ b) (hk2 : Kept [y] w1 w2) : Pair B' w2 x y o' t' := by
  have ho1 : ∀ k, o' = some k → k < w1.heap.size ∧ k ≠ y ∧ ¬ B k := by
    intro k hk
    refine ⟨h1.own k hk, ?_⟩
    rcases ho with e | e
    · exact ⟨fun hy => h.oy (by rw [← e, hk, hy]), h.oB k (by rw [← e, hk])⟩
    · have := e k hk
      exact ⟨fun hy => by have := h.there.lt; omega, fun hb => by have := h.there.low k hb; omega⟩
  have hxs := h1.lt
  refine ⟨h1.kept hk2 (by simpa using h.ne) (fun k hk => by simpa using (ho1 k hk).2.1), h2, h.ne, ?_, ?_, ?_⟩
  · intro hb
    rcases hB x hb with hb | hb
    · exact h.xB hb
    · omega
  · intro he; exact (ho1 y he).2.1 rfl
  · intro k hk hb
    obtain ⟨q1, q2, q3⟩ := ho1 k hk
    rcases hB k hb with hb | hb
    · exact q3 hb
    · omega
theorem Pair.ref1 {w1 : World} (h : Pair B w x y o t) (hk1 : Kept (x :: o.toList) w w1) : Ref B w1 y t :=
  h.there.kept hk1 (by
    simp only [List.mem_cons, Option.mem_toList, not_or]
    exact ⟨fun e => h.ne e.symm, fun e => h.oy e⟩) (fun b hb => by
    simp only [List.mem_cons, Option.mem_toList, not_or]
    exact ⟨fun e => h.xB (e ▸ hb), fun e => h.oB b e hb⟩)
end

set_option maxHeartbeats 1000000 in
theorem same_any {B : Nat → Prop} {w : World} {x y : Nat} {o : Option Nat} {t : T} (h : Pair B w x y o t) {n : Int} (hn : 0 ≤ n ∧ n < 4294967296) :
    Calls Try.prog 27 #[.pointer (some ⟨x, 0, none⟩), .pointer (some ⟨y, 0, none⟩), .int .u32 n] w fun e w' => e = .returned (.bool true) ∧ Kept [] w w' := by
  have H := hid h
  have HN := hid hn
  clear h hn
  go_enter Try.func27, Try.ntmps27
  go_wp2_with fail
  refine (Cum_any H.out.here).mono ?_
  rintro e w1 ⟨rfl, rfl⟩
  go_wp2_with fail
  refine (RefCum_any H.out.there).mono ?_
  rintro e w1 ⟨rfl, rfl⟩
  go_wp2_with fail
  refine (Top_any H.out.here).mono ?_
  rintro e w1 ⟨rfl, hk⟩
  have HK1 := hid hk
  have H := hid (H.out.kept0 hk)
  clear hk
  go_wp2_with fail
  refine (RefTop_any H.out.there).mono ?_
  rintro e w2 ⟨rfl, hk⟩
  have HK2 := hid (HK1.out.tr hk)
  have H := hid (H.out.kept0 hk)
  clear hk
  go_wp2_with fail
  refine (Has_any H.out.here HN.out).mono ?_
  rintro e w3 ⟨rfl, hk⟩
  have HK3 := hid (HK2.out.tr hk)
  have H := hid (H.out.kept0 hk)
  clear hk
  go_wp2_with fail
  refine (RefHas_any H.out.there HN.out).mono ?_
  rintro e w4 ⟨rfl, hk⟩
  have HK4 := hid (HK3.out.tr hk)
  have H := hid (H.out.kept0 hk)
  clear hk
  go_wp2_with fail
  refine (Blocks_any H.out.here).mono ?_
  rintro e w5 ⟨v1, rfl, hv1, hk⟩
  have HK5 := hid (HK4.out.tr hk)
  have H := hid (H.out.kept0 hk)
  have HV1 := hid (SliceIn.owned hv1)
  clear hk hv1
  go_wp2_with fail
  refine (RefBlocks_any H.out.there).mono ?_
  rintro e w6 ⟨v2, rfl, hv2, hk⟩
  have HK6 := hid (HK5.out.tr hk)
  have HV1 := hid (HV1.out.kept hk (fun _ _ _ => by simp))
  have HV2 := hid hv2
  clear hk hv2
  go_wp2_with fail
  refine (SameB_any HV1.out HV2.out (by simp [blocksOf]; omega)).mono ?_
  rintro e w7 ⟨rfl, hk⟩
  have HK7 := hid (HK6.out.tr hk)
  clear hk
  go_wp2
  go_ret
  exact ⟨rfl, HK7.out⟩

/-- A deed. -/
def T.deed (t : T) (first by' : Int) (ask : Bool) : T := if ask = true then t.told else t.add ((first + by') % 4294967296)

def Done (B : Nat → Prop) (w : World) (x y : Nat) (o : Option Nat) (t' : T) (e : Ending) (w' : World) : Prop :=
  e = .returned (.bool true) ∧ ∃ o' B', Pair B' w' x y o' t' ∧ Kept (x :: y :: o.toList) w w' ∧ (∀ k, o' = some k → o = some k ∨ w.heap.size ≤ k) ∧ (∀ b, B' b → B b ∨ w.heap.size ≤ b)

set_option maxHeartbeats 1000000 in
theorem do_ask {B : Nat → Prop} {w : World} {x y : Nat} {o : Option Nat} {t : T} (h : Pair B w x y o t) {first b : Int} :
    Calls Try.prog 26 #[.pointer (some ⟨x, 0, none⟩), .pointer (some ⟨y, 0, none⟩), .int .u32 first, .agg #[.int .i16 b, .bool true]] w (Done B w x y o t.told) := by
  have hk0 := (Kept.refl [] w).alloc (.cells #[.int .i16 b, .bool true] 44)
  have H0 := hid (h.kept0 hk0)
  have HK0 := hid hk0
  have hxl := h.here.lt
  have hyl := h.there.lt
  have hfew := h.here.ok.few
  clear h hk0
  go_enter Try.func26, Try.ntmps26
  go_wp2_with fail
  refine (Dups_any H0.out.here).mono ?_
  rintro e w1 ⟨dv, rfl, r1, r2, r3, hk1⟩
  have hr1 := (H0.out.ref1 (hk1.mono (T := x :: o.toList) (by simp)))
  have HT1 := hid r3
  have HK1 := hid hk1
  have HR1 := hid hr1
  have hD := SliceIn.owned r1
  obtain ⟨ao, cap, rfl⟩ := hD.form
  have HD := hid r1
  have HO := hid r2
  clear hr1 r1 r2 r3 hk1 hD
  go_wp2_with fail
  refine (RefDups_any HR1.out).mono ?_
  rintro e w2 ⟨dw, rfl, s1, s2, hk2⟩
  obtain ⟨bo, bc, rfl⟩ := s1.form
  have HD2 := hid (SliceIn.owned (ownsRow_kept HD.out hk2 (fun k e => by
    rw [HO.out] at e
    simp only [List.mem_singleton]
    intro hy; subst hy; exact H0.out.oy e)))
  have HS1 := hid s1
  have HP := hid (H0.out.moved HT1.out (.inr (fun k h => by cases h)) s2 (fun _ h => .inl h) hk2)
  have HK2 := hid (((HK0.out.mono (T := x :: y :: o.toList) (by simp)).tr (HK1.out.mono (by simp))).tr (hk2.mono (by simp)))
  clear s1 s2 hk2
  go_wp2_with fail
  refine (Same_any HD2.out HS1.out (by omega)).mono ?_
  rintro e w3 ⟨rfl, hk3⟩
  have HF := hid (show Done B w x y o t.told (.returned (.bool true)) w3 from ⟨rfl, none, B, HP.out.kept0 hk3, HK2.out.tr0 hk3, (fun k h => by cases h), fun _ h => .inl h⟩)
  have hdec : decide (t.dups = t.dups) = true := by simp
  clear hk3
  go_wp2
  go_ret
  exact HF.out

set_option maxHeartbeats 1000000 in
theorem do_take {B : Nat → Prop} {w : World} {x y : Nat} {o : Option Nat} {t : T} (h : Pair B w x y o t) {first b : Int} :
    Calls Try.prog 26 #[.pointer (some ⟨x, 0, none⟩), .pointer (some ⟨y, 0, none⟩), .int .u32 first, .agg #[.int .i16 b, .bool false]] w (Done B w x y o (t.add ((first + b) % 4294967296))) := by
  have hk0 := (Kept.refl [] w).alloc (.cells #[.int .i16 b, .bool false] 44)
  have H0 := hid (h.kept0 hk0)
  have HK0 := hid hk0
  have hxl := h.here.lt
  have hyl := h.there.lt
  have hs0 : w.heap.size ≤ (w.alloc (.cells #[.int .i16 b, .bool false] 44)).heap.size := hk0.size
  have HS0 := hid hs0
  have hwr : (first + b % 4294967296) % 4294967296 = (first + b) % 4294967296 := by omega
  have hu : IntKind.u32.wrap b = b % 4294967296 := by rw [IntKind.wrap_u32]
  clear h hk0 hs0
  have hm : 0 ≤ (first + b) % 4294967296 ∧ (first + b) % 4294967296 < 4294967296 := by omega
  generalize (first + b) % 4294967296 = n at *
  go_enter Try.func26, Try.ntmps26
  go_wp2_with fail
  refine (Add_any H0.out.here hm).mono ?_
  rintro e w1 ⟨rfl, o', r1, hk1, ho⟩
  have HR1 := hid (H0.out.ref1 hk1)
  have HT1 := hid r1
  have HK1 := hid hk1
  have HO := hid ho
  clear r1 hk1 ho
  go_wp2_with fail
  refine (RefAdd_any HR1.out hm).mono ?_
  rintro e w2 ⟨rfl, B', s1, s2, hk2⟩
  have HP := hid (H0.out.moved HT1.out HO.out s1 s2 hk2)
  have HK2 := hid (((HK0.out.mono (T := x :: y :: o.toList) (by simp)).tr (HK1.out.mono (fun z hz => .inl (by simp at hz ⊢; exact hz.imp id .inr)))).tr (hk2.mono (by simp)))
  have HB := hid (fun b (hb : B' b) => (s2 b hb).imp id (fun h => Nat.le_trans (Nat.le_trans HS0.out HK1.out.size) h))
  clear s1 s2 hk2
  have hn1 : 0 ≤ (n + 1) % 4294967296 ∧ (n + 1) % 4294967296 < 4294967296 := by omega
  go_wp2_with fail
  refine (same_any HP.out hn1).mono ?_
  rintro e w3 ⟨rfl, hk3⟩
  have HF := hid (show Done B w x y o (t.add n) (.returned (.bool true)) w3 from ⟨rfl, o', B', HP.out.kept0 hk3, HK2.out.tr0 hk3, (fun k h => by
    rcases HO.out with e | e
    · exact .inl (e ▸ h)
    · exact .inr (Nat.le_trans HS0.out (e k h))), HB.out⟩)
  clear hk3
  go_wp2
  go_ret
  exact HF.out

theorem do_any {B : Nat → Prop} {w : World} {x y : Nat} {o : Option Nat} {t : T} (h : Pair B w x y o t) {first b : Int} {ask : Bool} :
    Calls Try.prog 26 #[.pointer (some ⟨x, 0, none⟩), .pointer (some ⟨y, 0, none⟩), .int .u32 first, .agg #[.int .i16 b, .bool ask]] w (Done B w x y o (t.deed first b ask)) := by
  cases ask with
  | true => exact do_ask h
  | false => exact do_take h

end Go.Proofs.Ythdcodjdecnniaa
