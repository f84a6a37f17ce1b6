/-
  What is carried through the two appends of a mark that sends.
-/
import Derived.Test.YtepadejkeokbcaaGot
import Derived.Test.YtepadejkeokbcaaLate
import Derived.Deep.AppendLies
namespace Go.Proofs.Ytepadejkeokbcaa
open Go.RowKit Go.Maps

def Sd.send (a : Sd) (m : Msg) : Sd := { a with sent := a.sent ++ [m], used := a.used ++ [false] }

structure Ctx (O : Owner) (k : Key) (L : List Nat) (wb w : World) (v1 : Value) (n1 : Nat) (xs1 : List Value) (v2 : Value) (n2 : Nat) (xs2 : List Value) : Prop where
  r1 : w.ownsRow 0 41 5 v1 n1 xs1
  r2 : w.ownsRow 0 4 1 v2 n2 xs2
  kp : Kept L wb w
  o1 : ∀ b, v1.ownBlock = some b → (b ∈ L ∧ O b = some (k, 1)) ∨ wb.heap.size ≤ b
  o2 : ∀ b, v2.ownBlock = some b → (b ∈ L ∧ O b = some (k, 2)) ∨ wb.heap.size ≤ b
  d : ∀ b, v1.ownBlock = some b → v2.ownBlock ≠ some b

section
variable {O : Owner} {k : Key} {L : List Nat} {wb w w' : World} {v1 v2 : Value} {n1 n2 g cap : Nat} {xs1 xs2 ys : List Value}

theorem Ctx.go (h : Ctx O k L wb w v1 n1 xs1 v2 n2 xs2) (hk : Kept [] w w') : Ctx O k L wb w' v1 n1 xs1 v2 n2 xs2 :=
  ⟨ownsRow_kept h.r1 hk (by simp), ownsRow_kept h.r2 hk (by simp), h.kp.tr0 hk, h.o1, h.o2, h.d⟩

theorem Ctx.app1 {m : Nat} (h : Ctx O k L wb w v1 n1 xs1 v2 n2 xs2) (hr : w'.ownsRow 0 41 5 (.slice (some ⟨g, 0, none⟩) m cap) m ys) (hg : w.grownBy w' v1.ownBlock) (hat : v1.ownBlock = some g ∨ g = w.heap.size) :
    Ctx O k L wb w' (.slice (some ⟨g, 0, none⟩) m cap) m ys v2 n2 xs2 := by
  have hk : Kept v1.ownBlock.toList w w' := (Kept.refl _ w).grown hg (fun b e => .inl (by simp [e]))
  refine ⟨hr, ownsRow_kept h.r2 hk (fun b e hb => h.d b (by simpa using hb) e), h.kp.grown hg (fun b e => (h.o1 b e).imp (·.1) id), fun b e => ?_, h.o2, fun b e e2 => ?_⟩
  · have : g = b := by simpa [Value.ownBlock] using e
    subst this
    rcases hat with h1 | h1
    · exact h.o1 g h1
    · exact .inr (by rw [h1]; exact h.kp.size)
  · have : g = b := by simpa [Value.ownBlock] using e
    subst this
    rcases hat with h1 | h1
    · exact h.d g h1 e2
    · have := own_lt h.r2 g e2; omega

theorem Ctx.app2 {m : Nat} (h : Ctx O k L wb w v1 n1 xs1 v2 n2 xs2) (hr : w'.ownsRow 0 4 1 (.slice (some ⟨g, 0, none⟩) m cap) m ys) (hg : w.grownBy w' v2.ownBlock) (hat : v2.ownBlock = some g ∨ g = w.heap.size) :
    Ctx O k L wb w' v1 n1 xs1 (.slice (some ⟨g, 0, none⟩) m cap) m ys := by
  have hk : Kept v2.ownBlock.toList w w' := (Kept.refl _ w).grown hg (fun b e => .inl (by simp [e]))
  refine ⟨ownsRow_kept h.r1 hk (fun b e hb => h.d b e (by simpa using hb)), hr, h.kp.grown hg (fun b e => (h.o2 b e).imp (·.1) id), h.o1, fun b e => ?_, fun b e e2 => ?_⟩
  · have : g = b := by simpa [Value.ownBlock] using e
    subst this
    rcases hat with h1 | h1
    · exact h.o2 g h1
    · exact .inr (by rw [h1]; exact h.kp.size)
  · have : g = b := by simpa [Value.ownBlock] using e2
    subst this
    rcases hat with h1 | h1
    · exact h.d g e h1
    · have := own_lt h.r1 g e; omega
end

/-- What a side's blocks are at the start. -/
theorem SideAt.ctx {w : World} {O : Owner} {k : Key} {s : Nat} {a : Sd} (h : SideAt w O k s a) : ∃ so sc uo uc nb L, Opened w O k s a so sc uo uc nb ∧ (∀ b ∈ L, ∃ p, O b = some (k, p) ∧ p ≠ 0) ∧
    Ctx O k L w w (.slice so a.sent.length sc) a.sent.length (msgsV a.sent) (.slice uo a.used.length uc) a.used.length (boolsV a.used) ∧ (∀ b ∈ L, ∃ cs e, w.heap[b]? = some (.cells cs e (0, 0)) ∧ (e = 41 ∨ e = 4)) ∧ (∀ b ∈ L, b ≠ nb) := by
  obtain ⟨so, sc, uo, uc, nb, hop⟩ := h.opened
  obtain ⟨sv, uv, nb', h1, h2, h3, h4, h5, h6, h7⟩ := h.blk
  have e := hop.blk
  rw [h1] at e
  simp [sideCells] at e
  obtain ⟨rfl, rfl, rfl⟩ := e
  refine ⟨so, sc, uo, uc, _, (Value.slice so a.sent.length sc).ownBlock.toList ++ (Value.slice uo a.used.length uc).ownBlock.toList, hop, fun b hb => ?_, ⟨h2, h4, Kept.refl _ _, fun b e => .inl ⟨by simp [e], h3 b e⟩, fun b e => .inl ⟨by simp [e], h5 b e⟩, fun b e e2 => ?_⟩, fun b hb => ?_, fun b hb e => ?_⟩
  · rcases List.mem_append.1 hb with hb | hb
    · exact ⟨1, h3 b (by simpa using hb), by omega⟩
    · exact ⟨2, h5 b (by simpa using hb), by omega⟩
  · have q1 := h3 b e; have q2 := h5 b e2; rw [q1] at q2; cases q2
  · rcases List.mem_append.1 hb with hb | hb
    · rcases h2.2 with ⟨e, _⟩ | ⟨g, cap, cur, e, _, hg, _⟩
      · rw [e] at hb; simp [Value.ownBlock] at hb
      · rw [e] at hb
        simp [Value.ownBlock] at hb
        exact ⟨cur, 41, by rw [hb]; exact hg, .inl rfl⟩
    · rcases h4.2 with ⟨e, _⟩ | ⟨g, cap, cur, e, _, hg, _⟩
      · rw [e] at hb; simp [Value.ownBlock] at hb
      · rw [e] at hb
        simp [Value.ownBlock] at hb
        exact ⟨cur, 4, by rw [hb]; exact hg, .inr rfl⟩
  · subst e
    rcases List.mem_append.1 hb with hb | hb
    · have q1 := h3 b (by simpa using hb); rw [h7] at q1; cases q1
    · have q1 := h5 b (by simpa using hb); rw [h7] at q1; cases q1

/-- Both rows are appended to, both slices stored. -/
theorem send_final {w0 wb wz wf : World} {mb : Nat} {c : Key → Sd} {O : Owner} {F : Key → Option Nat} {k : Key} {s nb : Nat} {m : Msg} {v1 v2 : Value} {L : List Nat} {so : Option Addr} {sc : Nat} {uo : Option Addr} {uc : Nat}
    (hc : Court w0 wb mb c O F) (hF : F k = some s) (hop : Opened wb O k s (c k) so sc uo uc nb) (hL : ∀ b ∈ L, ∃ p, O b = some (k, p) ∧ p ≠ 0) (hLn : ∀ b ∈ L, b ≠ nb)
    {ys : List Value} (hys : ys = m.cells) (hx : Ctx O k L wb wz v1 ((c k).sent.length + 1) (msgsV (c k).sent ++ ys) v2 ((c k).used.length + 1) (boolsV (c k).used ++ [.bool false]))
    (hk : Kept [s] wz wf) (hb : wf.heap[s]? = some (.cells (sideCells v1 v2 (.map (some nb)) (c k)) 55 (0, 0))) (hm : m.here w0) :
    ∃ O' F', Court w0 wf mb (upd c k ((c k).send m)) O' F' := by
  subst hys
  have hs := hc.side k s hF
  have hO0 := hs.own
  have hsb : s < wb.heap.size := hs.lt
  have hnbl : nb < wb.heap.size := hop.next.lt
  have hsL : s ∉ L := fun h => by obtain ⟨p, e, hp⟩ := hL s h; rw [hO0] at e; cases e; exact hp rfl
  have hns : nb ≠ s := fun e => by have := hop.nbo; rw [e, hO0] at this; cases this
  have h1s : ∀ b, v1.ownBlock = some b → b ∉ [s] := fun b e hb => by
    simp at hb; subst hb
    rcases hx.o1 b e with ⟨h, _⟩ | h
    · exact hsL h
    · omega
  have h2s : ∀ b, v2.ownBlock = some b → b ∉ [s] := fun b e hb => by
    simp at hb; subst hb
    rcases hx.o2 b e with ⟨h, _⟩ | h
    · exact hsL h
    · omega
  refine ⟨fun b => if b < wb.heap.size then O b else if v1.ownBlock = some b then some (k, 1) else if v2.ownBlock = some b then some (k, 2) else none, F, hc.put (S := s :: L) hF ((hx.kp.mono (fun x hx => .inl (by simp [hx]))).tr (hk.mono (fun x hx => .inl (by simp at hx; simp [hx])))) (fun b hb => ?_) (fun b hb => by simp [hb]) ⟨?_, ?_, v1, v2, nb, hb, ?_, fun b e => ?_, ?_, fun b e => ?_, ?_, ?_⟩ (fun q hq => ?_)⟩
  · rcases List.mem_cons.1 hb with rfl | hb
    · exact ⟨0, hO0⟩
    · obtain ⟨p, e, _⟩ := hL b hb; exact ⟨p, e⟩
  · rw [if_pos hsb]; exact hO0
  · simp [Sd.send, hop.same]
  · have := ownsRow_kept hx.r1 hk h1s
    have e1 : ((c k).send m).sent.length = (c k).sent.length + 1 := by simp [Sd.send]
    have e2 : msgsV ((c k).send m).sent = msgsV (c k).sent ++ m.cells := by simp [Sd.send, msgsV]
    rw [e1, e2]; exact this
  · by_cases hlt : b < wb.heap.size
    · rw [if_pos hlt]
      rcases hx.o1 b e with ⟨_, h⟩ | h
      · exact h
      · omega
    · rw [if_neg hlt, if_pos e]
  · have := ownsRow_kept hx.r2 hk h2s
    have e1 : ((c k).send m).used.length = (c k).used.length + 1 := by simp [Sd.send]
    have e2 : boolsV ((c k).send m).used = boolsV (c k).used ++ [.bool false] := by simp [Sd.send, boolsV]
    rw [e1, e2]; exact this
  · by_cases hlt : b < wb.heap.size
    · rw [if_pos hlt]
      rcases hx.o2 b e with ⟨_, h⟩ | h
      · exact h
      · omega
    · rw [if_neg hlt, if_neg (fun e1 => hx.d b e1 e), if_pos e]
  · exact (hop.next.kept hx.kp (fun h => hLn nb h rfl)).kept hk (by simpa using hns)
  · rw [if_pos hnbl]; exact hop.nbo
  · rcases List.mem_append.1 hq with hq | hq
    · exact hc.msgs k q hq
    · simp at hq; subst hq; exact hm

end Go.Proofs.Ytepadejkeokbcaa
