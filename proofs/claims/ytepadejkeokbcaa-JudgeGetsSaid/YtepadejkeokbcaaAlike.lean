/-
  Messages and marks in memory; slices.Equal, alike (the judge's and the reference's), Of, key.other: what they return.
-/
import Derived.Test.YtepadejkeokbcaaKeys
import Derived.Laws.BytesArg
namespace Go.Proofs.Ytepadejkeokbcaa
open Go.RowKit

def u8s (xs : List Int) : List Value := xs.map (Value.int .u8)
theorem u8s_length (xs : List Int) : (u8s xs).length = xs.length := by simp [u8s]
theorem u8s_get {xs : List Int} {k : Nat} (h : k < xs.length) : (u8s xs)[k]? = some (.int .u8 (xs.getD k 0)) := by simp [u8s, List.getD, h]
theorem u8s_one (xs : List Int) : ∀ u ∈ u8s xs, u.oneCell' = true := by
  intro u hu
  obtain ⟨_, _, rfl⟩ := List.mem_map.1 hu
  rfl

/-- A message: what it says, and the value of its Data. -/
structure Msg where
  stream : Int
  ssn : Int
  ppid : Int
  free : Bool
  data : List Int
  dv : Value

structure Mark where
  is : Int
  host : Int
  own : Int
  peer : Int
  msg : Msg
  notice : Int

def Msg.cells (m : Msg) : List Value := [.int .u16 m.stream, .int .u16 m.ssn, .int .u32 m.ppid, .bool m.free, m.dv]
def Mark.cells (k : Mark) : List Value := [.int .i64 k.is, .int .i64 k.host, .int .u32 k.own, .int .u32 k.peer, .int .u16 k.msg.stream, .int .u16 k.msg.ssn, .int .u32 k.msg.ppid, .bool k.msg.free, k.msg.dv, .int .i64 k.notice]
def Msg.val (m : Msg) : Value := .agg #[.int .u16 m.stream, .int .u16 m.ssn, .int .u32 m.ppid, .bool m.free, m.dv]
def Mark.val (k : Mark) : Value := .agg #[.int .i64 k.is, .int .i64 k.host, .int .u32 k.own, .int .u32 k.peer, .int .u16 k.msg.stream, .int .u16 k.msg.ssn, .int .u32 k.msg.ppid, .bool k.msg.free, k.msg.dv, .int .i64 k.notice]
def Mark.key (k : Mark) : Key := ⟨k.host, k.own, k.peer⟩

def Any : Nat → Prop := fun _ => True

/-- A message's bytes lie there, and its numbers are of their kinds. -/
structure Msg.here (w : World) (m : Msg) : Prop where
  data : SliceIn Any w 1 m.dv m.data.length (u8s m.data)
  bytes : ∀ z ∈ m.data, 0 ≤ z ∧ z ≤ 255
  len : m.data.length ≤ 140737488355328
  stream : 0 ≤ m.stream ∧ m.stream < 65536
structure Mark.here (w : World) (k : Mark) : Prop where
  msg : k.msg.here w
  key : k.key.ok

theorem Msg.here.kept {w w' : World} {m : Msg} (h : m.here w) (hk : Kept [] w w') : m.here w' := ⟨h.data.kept hk (fun _ _ _ => by simp), h.bytes, h.len, h.stream⟩
theorem Mark.here.kept {w w' : World} {k : Mark} (h : k.here w) (hk : Kept [] w w') : k.here w' := ⟨h.msg.kept hk, h.key⟩

def Msg.alike (a b : Msg) : Bool := a.stream == b.stream && a.ppid == b.ppid && a.free == b.free && decide (a.data = b.data)

theorem strOfNums_inj {xs ys : List Int} (hx : ∀ z ∈ xs, 0 ≤ z ∧ z ≤ 255) (hy : ∀ z ∈ ys, 0 ≤ z ∧ z ≤ 255) (h : strOfNums xs = strOfNums ys) : xs = ys := by
  have h1 : xs.map (fun n => UInt8.ofNat n.toNat) = ys.map (fun n => UInt8.ofNat n.toNat) := by
    rw [← strOfNums_data, ← strOfNums_data, h]
  have key : ∀ zs : List Int, (∀ z ∈ zs, 0 ≤ z ∧ z ≤ 255) → (zs.map (fun n => UInt8.ofNat n.toNat)).map (fun u => (u.toNat : Int)) = zs := fun zs hz => by
    rw [List.map_map]
    refine (List.map_congr_left (g := id) (fun z h => ?_)).trans (List.map_id zs)
    have := hz z h
    simp [UInt8.toNat_ofNat']
    omega
  rw [← key xs hx, ← key ys hy, h1]

theorem strOfNums_beq {xs ys : List Int} (hx : ∀ z ∈ xs, 0 ≤ z ∧ z ≤ 255) (hy : ∀ z ∈ ys, 0 ≤ z ∧ z ≤ 255) : (strOfNums xs == strOfNums ys) = decide (xs = ys) := by
  by_cases h : xs = ys
  · subst h
    rw [decide_eq_true rfl]
    exact (MapKept.bytes_beq _ _).2 rfl
  · rw [decide_eq_false h]
    cases hb : strOfNums xs == strOfNums ys
    · rfl
    · exact absurd (strOfNums_inj hx hy ((MapKept.bytes_beq _ _).1 hb)) h

set_option maxHeartbeats 1000000 in
theorem Equal_any {B C : Nat → Prop} {w : World} {va vb : Value} {xs ys : List Int} (ha : SliceIn B w 1 va xs.length (u8s xs)) (hb : SliceIn C w 1 vb ys.length (u8s ys)) (hl : xs.length ≤ 140737488355328) :
    Calls Try.prog 27 #[va, vb] w fun e w' => e = .returned (.bool (decide (xs = ys))) ∧ Kept [] w w' := by
  have HA := hid ha
  have HB := hid hb
  obtain ⟨ao, ac, rfl⟩ := ha.form
  obtain ⟨bo, bc, rfl⟩ := hb.form
  have HK := hid (Kept.refl [] w)
  clear ha hb
  by_cases hlen : xs.length = ys.length
  · have bl : ((xs.length : Int) != (ys.length : Int)) = false := by rw [hlen]; simp
    go_enter Try.func27, Try.ntmps27
    go_wp2_with fail
    go_loopw [5, 13] (fun _ i wr => ∃ k : Nat, k ≤ xs.length ∧ i = .int .i64 k ∧ xs.take k = ys.take k ∧ Kept [] w wr) (fun _ i wr => xs.length - (intOf i).toNat)
    case atStart => exact ⟨0, Nat.zero_le _, rfl, by simp, HK.out⟩
    case round =>
      obtain ⟨k, hk, rfl, he, hkw⟩ := hrel
      have HE := hid he
      have HKW := hid hkw
      have HA' := hid (HA.out.kept hkw (fun _ _ _ => by simp))
      have HB' := hid (HB.out.kept hkw (fun _ _ _ => by simp))
      clear he hkw
      by_cases hlt : k < xs.length
      · obtain ⟨b1, o1, e1, _, _, _, hc1⟩ := HA'.out.rows (by omega)
        obtain ⟨b2, o2, e2, _, _, _, hc2⟩ := HB'.out.rows (by omega)
        subst e1 e2
        have c1 := hc1 k _ (u8s_get hlt)
        have c2 := hc2 k _ (u8s_get (by omega))
        have hlt2 : k < ys.length := by omega
        have HX := hid (show xs.getD k 0 = xs[k] from by simp [List.getD, hlt])
        have HY := hid (show ys.getD k 0 = ys[k] from by simp [List.getD, hlt2])
        clear hc1 hc2
        have hwk : IntKind.i64.wrap ((k : Int) + 1) = (k : Int) + 1 := IntWalk.i64_in _ (by omega)
        generalize hxz : xs.getD k 0 = x at *
        generalize hyz : ys.getD k 0 = y at *
        clear hxz hyz
        by_cases hxy : x = y
        · have bx : (x != y) = false := by simp [hxy]
          have HN := hid (show xs.take (k + 1) = ys.take (k + 1) from by
            rw [List.take_succ_eq_append_getElem hlt, List.take_succ_eq_append_getElem hlt2, HE.out, ← HX.out, ← HY.out, hxy])
          clear hxy
          go_wp2_with fail
          go_quiet (fail)
          go_wp2
          go_roundw
          case rel => exact ⟨k + 1, by omega, by go_num, HN.out, HKW.out.drewN _⟩
          case measure => simp [intOf]; omega
        · have bx : (x != y) = true := by simpa using hxy
          have HN := hid (show decide (xs = ys) = false from decide_eq_false (fun h => hxy (by rw [HX.out, HY.out]; subst h; rfl)))
          clear hxy
          go_wp2_with fail
          go_quiet (fail)
          go_wp2
          go_ret
          rw [HN.out]
          exact ⟨rfl, HKW.out.drewN _⟩
      · have HN := hid (show decide (xs = ys) = true from decide_eq_true (by
          have := HE.out
          rwa [List.take_of_length_le (by omega), List.take_of_length_le (by omega)] at this))
        go_wp2
        go_ret
        rw [HN.out]
        exact ⟨rfl, HKW.out⟩
  · have bl : ((xs.length : Int) != (ys.length : Int)) = true := by simpa using fun h => hlen (by omega)
    have HN := hid (show decide (xs = ys) = false from decide_eq_false (fun h => hlen (by rw [h])))
    clear hlen
    go_enter Try.func27, Try.ntmps27
    go_wp2
    go_ret
    rw [HN.out]
    exact ⟨rfl, HK.out⟩

end Go.Proofs.Ytepadejkeokbcaa
