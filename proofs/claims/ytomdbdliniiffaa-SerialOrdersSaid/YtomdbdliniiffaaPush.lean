/-
  'append' onto a row of the call's own, over any program: the row stays where it is, or lies in a new block behind all that was there. No condition.
-/
import Derived.Test.YtomdbdliniiffaaBase
namespace Go.Proofs.Ytomdbdliniiffaa
open Go.RowKit

theorem ownsRow_low {w : World} {b c : Nat} {e : TypeId} {size n : Nat} {v : Value} {xs : List Value} (h : w.ownsRow b e size v n xs) (hle : c ≤ b) : w.ownsRow c e size v n xs := by
  refine ⟨h.1, ?_⟩
  rcases h.2 with h | ⟨g, cap, cur, h1, h2, h3⟩
  · exact .inl h
  · exact .inr ⟨g, cap, cur, h1, Nat.le_trans hle h2, h3⟩

theorem wpList_append_fresh {P : Program} (w : World) {ops : Array Oper} {rest : List Oper} {o : Oper} {a : Act} {Q : Exit → Act → World → Prop} (hgd : o.guard = none) (s x : Operand) (t : TypeId)
    (ho : o.op = .call { callee := .builtin .append, args := #[s, x], argTypes := #[t, t] })
    (base : Nat) (e : TypeId) (i : TypeInfo) (z : Value) (size bytes : Nat) (ht : P.underlying t = some (.slice e)) (hi : P.info? e = some i) (hz : i.zero = some z)
    (hsize : i.size = size) (hby : i.bytes = bytes) (hzs : z.cells.size = size) (hsz : 0 < size)
    (v : Value) (n : Nat) (xs : List Value) (hs : a.eval s = v) (hown : w.ownsRow base e size v n xs)
    (B : Nat → Prop) (xv : Value) (m : Nat) (news : List Value) (hx : a.eval x = xv) (hin : SliceIn B w size xv m news) (h1 : ∀ u ∈ news, u.oneCell' = true)
    (h63 : n + m ≤ maxLen) (hbytes : (n + m) * bytes ≤ 140737488355328) (hbase : base ≤ w.heap.size)
    (h : ∀ v' w', w'.ownsRow base e size v' (n + m) (xs ++ news) → w.grownBy w' v.ownBlock → (v'.ownBlock = v.ownBlock ∨ (∀ k, v'.ownBlock = some k → w.heap.size ≤ k)) → wpList P ops Q rest (a.put o.dst v') w') : wpList P ops Q (o :: rest) a w := by
  obtain ⟨ao, cap, rfl, hc', hnil⟩ : ∃ ao cap, xv = .slice ao m cap ∧ (∀ ad, ao = some ad → ∀ j u, news[j]? = some u → w.cell? (ad.add j) = some u) ∧ (ao = none → m = 0 ∧ cap = 0) := by
    rcases hin.2 with ⟨rfl, ao, cap, rfl, hc0⟩ | ⟨b, off, cap, rfl, _, _, _, hc⟩
    · have hnews : news = [] := List.eq_nil_of_length_eq_zero (by simpa using hin.1)
      subst hnews
      exact ⟨ao, cap, rfl, fun _ _ j u hu => by simp at hu, fun h => ⟨rfl, hc0 h⟩⟩
    · refine ⟨_, cap, rfl, fun ad had j u hu => ?_, fun h => by cases h⟩
      cases had
      have hadd : (⟨b, off, none⟩ : Addr).add j = ⟨b, off + j, none⟩ := by unfold Addr.add; split <;> simp_all
      rw [hadd]
      exact hc j u hu
  cases ao with
  | none =>
    obtain ⟨rfl, rfl⟩ := hnil rfl
    have hnews : news = [] := List.eq_nil_of_length_eq_zero (by simpa using hin.1)
    subst hnews
    refine wpList_append_own_none hgd s x t ho base e i size ht hi v n xs hs hown hx (h v w ?_ (World.grownBy.refl w _) (.inl rfl))
    simpa using hown
  | some ad =>
    have hc' := hc' ad rfl
    rcases id hown.2 with ⟨rfl, rfl⟩ | ⟨g, vc, cur, rfl, hg, hb, hn, hm, hcs, htk⟩
    · have hxs : xs = [] := List.eq_nil_of_length_eq_zero (by simpa using hown.1)
      subst hxs
      by_cases hm0 : m = 0
      · refine wpList_append_own w hgd s x t ho base e i z size bytes ht hi hz hsize hby hzs hsz _ 0 [] hs hown ad m cap news hx hin.1 hc' h1 h63 hbytes hbase (fun v' w' r1 r2 r3 => ?_)
        exact h v' w' r1 r2 (.inl (by rw [r3.2 ⟨rfl, hm0⟩]))
      · refine wpList_append_grows w hgd s x t ho e i z size bytes ht hi hz hsize hby hzs hsz none 0 0 [] hs (fun _ => ⟨rfl, rfl⟩) (by simp) (fun b hb => by cases hb) ad m cap news hx hin.1 hc' h1 (by omega) h63 hbytes (fun v' w' r1 r2 => ?_)
        exact h v' w' (ownsRow_low r1 hbase) ⟨r2.os, r2.tape, r2.output, r2.size, fun k hk _ => r2.block k hk (by simp)⟩ (.inr fun k hk => (r1.lt k hk).1)
    · by_cases hroom : n + m ≤ vc
      · refine wpList_append_fits w hgd s x t ho base e i size ht hi hsize g n vc xs hs hown ad m cap news hx hin.1 hc' h1 hroom (fun w' r1 r2 => ?_)
        exact h _ w' r1 r2 (.inl rfl)
      · refine wpList_append_grows w hgd s x t ho e i z size bytes ht hi hz hsize hby hzs hsz (some ⟨g, 0, none⟩) n vc xs hs (fun hne => by cases hne) hown.1 (fun b' hb' j u hu => ?_) ad m cap news hx hin.1 hc' h1 (by omega) h63 hbytes (fun v' w' r1 r2 => ?_)
        · cases hb'
          exact hown.cells (g := g) rfl j u hu
        · exact h v' w' (ownsRow_low r1 hbase) ⟨r2.os, r2.tape, r2.output, r2.size, fun k hk _ => r2.block k hk (by simp)⟩ (.inr fun k hk => (r1.lt k hk).1)

end Go.Proofs.Ytomdbdliniiffaa
