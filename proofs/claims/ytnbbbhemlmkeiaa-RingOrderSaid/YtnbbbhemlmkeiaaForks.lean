/-
  The law RingForks, walked: whatever the number and the two scripts, it returns true.
-/
import Derived.Test.YtnbbbhemlmkeiaaPlay
namespace Go.Proofs.Ytnbbbhemlmkeiaa
open Go.RowKit

/-- Ring and reference read as one queue, and all of theirs lies below N. -/
structure BothIn (N : Nat) (w : World) (x s y : Nat) (q : Q) (G : Nat) : Prop where
  ring : RingQ (fun b => (b ≠ x ∧ b ≠ s ∧ b ≠ y) ∧ b < N) w x s q
  ref : RefQ (fun b => (b ≠ x ∧ b ≠ s ∧ b ≠ y) ∧ b < N) w y q G
  xy : x ≠ y
  sy : s ≠ y
  lt : x < N ∧ s < N ∧ y < N

theorem Both.into {w : World} {x s y G : Nat} {q : Q} (h : Both w x s y q G) : BothIn w.heap.size w x s y q G :=
  ⟨h.ring.old, h.ref.old, h.xy, h.sy, h.ring.lt.1, h.ring.lt.2, h.ref.lt⟩
theorem BothIn.both {N : Nat} {w : World} {x s y G : Nat} {q : Q} (h : BothIn N w x s y q G) : Both w x s y q G :=
  ⟨h.ring.mono (fun _ _ h => h.1) (fun _ h => ⟨h.1, h.2.1⟩), h.ref.mono (fun _ _ h => h.1) (fun _ h => h.2.2), h.xy, h.sy⟩
theorem BothIn.kept {N : Nat} {w w' : World} {x s y G : Nat} {q : Q} {S : List Nat} (h : BothIn N w x s y q G) (hk : Kept S w w') (hS : ∀ k ∈ S, N ≤ k) : BothIn N w' x s y q G := by
  have hn : ∀ b, b < N → b ∉ S := fun b hb hm => by have := hS b hm; omega
  obtain ⟨h1, h2, h3⟩ := h.lt
  exact ⟨h.ring.kept hk (hn _ h1) (hn _ h2) (fun b _ hb => hn b hb.2), h.ref.kept hk (hn _ h3) (fun b _ hb => hn b hb.2), h.xy, h.sy, h.lt⟩

theorem Q.ok.head_le {q : Q} (h : q.ok) : q.head.length ≤ 1514 := by
  unfold Q.head
  cases hf : q.full with
  | nil => simp
  | cons b l => exact (h.len b (by rw [hf]; simp)).2

set_option maxRecDepth 100000 in
set_option maxHeartbeats 4000000 in
theorem forks_any {base : Nat} {w : World} {lv mv : Value} {m mm : Nat} {D DD : Nat → Int} {Bs BB : Nat → List Int} {I II : Nat → Int} (hl : DeedsAt base w lv m D Bs I) (hm : DeedsAt base w mv mm DD BB II) (a : Nat) (ha : a < 256) :
    Calls Try.prog 7 #[.int .u8 a, lv, mv] w fun e w' => e = .returned (.bool true) ∧ Kept [] w w' := by
  obtain ⟨K, hK, hK1, hK2⟩ : ∃ K : Nat, 1 + (a : Int) % 64 = (K : Int) ∧ 1 ≤ K ∧ K ≤ 64 := ⟨1 + a % 64, by omega, by omega, by omega⟩
  have HK := hid hK
  have HP := hid (play_yes hl K hK1 hK2)
  have HM := hid hm
  obtain ⟨ao, cap, rfl⟩ := hl.form
  obtain ⟨bo, bcap, rfl⟩ := hm.form
  have hbase := hl.lt
  clear hl hK hm
  go_enter Try.func7, Try.ntmps7
  go_wp2_with fail
  rw [HK.out]
  refine HP.out.mono ?_
  rintro e w0 ⟨x, s, y, q, G, rfl, hx, hs, hy, hb, hqn, hqd, hqG, _, hk0⟩
  clear hqn
  have HI := hid hb.into
  have HB := hid hb
  clear hb
  go_wp2_with fail
  refine (fork_any HB.out.ring).mono ?_
  rintro e w1 ⟨f, fs, rfl, hf, hfs, hq1, hk1⟩
  go_wp2_with fail
  refine (reffork_any (HI.out.kept hk1 (by simp)).ref).mono ?_
  rintro e w2 ⟨g, rfl, hg, hr2, hk2⟩
  have hz01 := hk1.size
  have hlf := hq1.lt
  have hI2 := (HI.out.kept hk1 (by simp)).kept hk2 (by simp)
  have hb2 : Both w2 f fs g q G := by
    refine ⟨(hq1.kept hk2 (by simp) (by simp) (fun _ _ _ => by simp)).mono (fun b _ h => ⟨by omega, by omega, by omega⟩) (fun b h => ⟨h.1, h.2.1⟩), hr2.mono (fun b _ h => ⟨by omega, by omega, by omega⟩) (fun b h => h.2.2), by omega, by omega⟩
  have HB2 := hid hb2
  have HI2 := hid hI2
  have hk02 := (hk0.tr hk1).tr hk2
  have hzz := hk0.size
  clear hb2 hI2 hq1 hr2
  go_wp2_with fail
  go_loopw [12] (fun i wr => ∃ (k : Nat) (p : Q) (H : Nat), k ≤ mm ∧ k ≤ 200 ∧ i = .int .i64 k ∧ Both wr f fs g p H ∧ p.dropped ≤ 200 + k ∧ H ≤ 200 + k ∧ Kept [f, fs, g] w2 wr) (fun i _ => 200 - (intOf i).toNat)
  case atStart => exact ⟨0, q, G, Nat.zero_le _, Nat.zero_le _, rfl, HB2.out, by omega, by omega, Kept.refl _ _⟩
  case round =>
    obtain ⟨k, p, H, hkm, hk200, rfl, hbw, hpd, hH, hkw⟩ := hrel
    have HBW := hid hbw
    clear hbw
    by_cases hlt : k < mm ∧ k < 200
    · obtain ⟨hlt, h200⟩ := hlt
      have hlw := (HM.out.kept hk02 (by simp)).kept hkw (by simp; omega)
      rcases hlw.rows with ⟨h, _⟩ | ⟨b, off, cap', hv, hbb, hc⟩
      · omega
      cases hv
      obtain ⟨bv, e1, e2, e3, e4, e5⟩ := hc k hlt
      have HE4 := hid e4
      have HE5 := hid e5
      obtain ⟨co, bc, rfl⟩ := e4.form
      clear hc e4 e5 hlw
      go_wp2_with fail
      refine (do_any HBW.out HE4.out (fun b hb => by omega) HE5.out (by omega) (by omega)).mono ?_
      rintro e w3 ⟨rfl, hb3, hk3⟩
      have hpa := p.act_n (DD k) (BB k)
      go_wp2_with fail
      go_roundw
      case rel => exact ⟨k + 1, _, H + 1, by omega, by omega, by go_num, hb3, by omega, by omega, hkw.tr hk3⟩
      case measure => simp [intOf]; omega
    · have hI3 := HI2.out.kept hkw (by simp; omega)
      have HI3 := hid hI3
      have k3 : Kept [] w wr := hk02.trans hkw (by simp; omega)
      clear hI3
      have hdec : ¬ k < mm ∨ (k < mm ∧ ¬ k < 200) := by omega
      clear hlt
      rcases hdec with hdec | ⟨hd1, hdec⟩
      all_goals
        go_wp2_with fail
        refine (same_any HI3.out.both).mono ?_
        rintro e w4 ⟨rfl, hk4⟩
        go_wp2_with fail
        refine (same_any (HBW.out.kept hk4)).mono ?_
        rintro e w5 ⟨rfl, hk5⟩
        have hI5 := (HI3.out.kept hk4 (by simp)).kept hk5 (by simp)
        have hk35 := (k3.tr hk4).tr hk5
        have HI5 := hid hI5
        clear hI5
        go_wp2_with fail
        refine (fork_any HI5.out.ring).mono ?_
        rintro e w6 ⟨h, hs', rfl, hh, hhs, hq6, hk6⟩
        go_wp2_with fail
        refine (take_any hq6).mono ?_
        rintro e w7 ⟨v', rfl, hown, hq7, hk7⟩
        clear hq6 hq7
        obtain ⟨bo', bc', rfl⟩ := (SliceIn.owned hown).form
        have hI7 := (HI5.out.kept hk6 (by simp)).kept hk7 (S := [h, hs']) (by have := HI5.out.lt; have := hk5.size; have := hk4.size; have := hkw.size; have := hk2.size; simp; omega)
        have hk37 := (hk35.tr hk6).trans hk7 (by have := hk35.size; simp; omega)
        have HI7 := hid hI7
        clear hI7
        have hrow : q.head.length = 0 ∨ ∃ gb, bo' = some ⟨gb, 0, none⟩ ∧ w6.heap.size ≤ gb ∧ ByteRow w7 gb q.head.length := by
          rcases id hown.2 with ⟨_, h⟩ | ⟨gb, cb, _, h, hgb, _⟩
          · exact .inl h
          · cases h; exact .inr ⟨gb, rfl, hgb, ByteRow.owned hown rfl⟩
        clear hown
        rcases hrow with hrow | ⟨gb, rfl, hgb, hrow⟩
        · rw [hrow]
          clear hrow
          go_wp2_with fail
          refine wp_loop_rounds 1 ?_
          rw [rounds_succ]
          go_wp2_with fail
          refine (live_any _).mono ?_
          rintro e w8 ⟨rfl, hk8⟩
          have hI8 := HI7.out
          have HB8 := hid (hI8.kept hk8 (by simp)).both
          clear hI8
          go_wp2_with fail
          refine (do_any (C := fun _ => False) (bs := []) HB8.out (SliceIn.nil _ _) (fun b hb => hb.elim) (by simp) (by omega) (by omega)).mono ?_
          rintro e w9 ⟨rfl, _, hk9⟩
          go_wp2
          go_ret
          exact ⟨rfl, (hk37.tr hk8).trans hk9 (by simp; omega)⟩
        · have HR := hid hrow
          clear hrow
          have hg0 : w.heap.size ≤ gb ∧ w0.heap.size ≤ gb := by have := hk6.size; have := hk5.size; have := hk4.size; have := hkw.size; have := hk2.size; omega
          have hhl := HB.out.ring.ok.head_le
          go_wp2_with fail
          go_loopw [16] (fun i wl => ∃ j : Nat, j ≤ q.head.length ∧ i = .int .i64 j ∧ ByteRow wl gb q.head.length ∧ Kept [gb] w7 wl) (fun i _ => q.head.length - (intOf i).toNat)
          case atStart => exact ⟨0, Nat.zero_le _, rfl, HR.out, Kept.refl _ _⟩
          case round =>
            obtain ⟨j, hj, rfl, hbr, hkp⟩ := hrel
            by_cases hlt : j < q.head.length
            · have HBR := hid hbr
              obtain ⟨cur, hcur, hz⟩ := hbr
              obtain ⟨z, hz⟩ := hz j hlt
              have cz := (blk_cell hcur j).trans hz
              have cf := blk_free hcur
              clear hcur hz
              go_wp2
              go_roundw
              case rel => exact ⟨j + 1, by omega, by go_num, HBR.out.set _, hkp.setCell (.inl (by simp)) _⟩
              case measure => simp [intOf]; omega
            · clear hbr
              go_wp2_with fail
              refine (live_any _).mono ?_
              rintro e w8 ⟨rfl, hk8⟩
              have hI8 := HI7.out.kept hkp (by simp; omega)
              have HB8 := hid (hI8.kept hk8 (by simp)).both
              clear hI8
              go_wp2_with fail
              refine (do_any (C := fun _ => False) (bs := []) HB8.out (SliceIn.nil _ _) (fun b hb => hb.elim) (by simp) (by omega) (by omega)).mono ?_
              rintro e w9 ⟨rfl, _, hk9⟩
              go_wp2
              go_ret
              exact ⟨rfl, ((hk37.trans hkp (by simp; omega)).tr hk8).trans hk9 (by simp; omega)⟩

end Go.Proofs.Ytnbbbhemlmkeiaa
