/-
  The two key types of the judge's maps.
-/
import Derived.Test.YtepadejkeokbcaaMaps
import Derived.DeepKeys4
namespace Go.Proofs.Ytepadejkeokbcaa
open Go.RowKit Go.Maps

structure Key where
  host : Int
  own : Int
  peer : Int
deriving DecidableEq

def Key.ok (k : Key) : Prop := (-9223372036854775808 ≤ k.host ∧ k.host ≤ 9223372036854775807) ∧ (0 ≤ k.own ∧ k.own < 4294967296) ∧ (0 ≤ k.peer ∧ k.peer < 4294967296)
def Key.cells (k : Key) : List Value := [.int .i64 k.host, .int .u32 k.own, .int .u32 k.peer]
def Key.val (k : Key) : Value := .agg #[.int .i64 k.host, .int .u32 k.own, .int .u32 k.peer]
theorem Key.inj : ∀ a b : Key, a.val = b.val → a = b := by
  rintro ⟨a1, a2, a3⟩ ⟨b1, b2, b3⟩ h
  simp [Key.val] at h
  simp [h]

theorem Try.laid : laidOutB Try.prog = true := by kernel_rfl
theorem Try.underlying38 : Try.prog.underlying 38 = some (.int .u16) := by kernel_rfl
theorem Try.underlying3 : Try.prog.underlying 3 = some (.int .i64) := by kernel_rfl
theorem Try.underlying29 : Try.prog.underlying 29 = some (.int .u32) := by kernel_rfl
theorem Try.parts59 : (match Try.prog.underlying 59 with | some (.struct fs) => (fs.toList.map (fun f => (f.type, f.offset)), fs.all (·.name != "_")) | _ => ([], false)) = ([(3, 0), (29, 1), (29, 2)], true) := by kernel_rfl
theorem Try.struct59 : ∃ fs : Array Field, Try.prog.underlying 59 = some (.struct fs) ∧ fs.toList.map (fun f => (f.type, f.offset)) = [(3, 0), (29, 1), (29, 2)] ∧ fs.all (·.name != "_") = true := by
  have h := Try.parts59
  split at h
  · rename_i fs e
    simp only [Prod.mk.injEq] at h
    exact ⟨fs, e, h.1, h.2⟩
  · simp at h
theorem Try.cells59 : Try.prog.cellsOf 59 = 3 := by kernel_rfl
theorem Try.cells3 : Try.prog.cellsOf 3 = 1 := by kernel_rfl
theorem Try.cells29 : Try.prog.cellsOf 29 = 1 := by kernel_rfl
theorem Try.key59 : Try.prog.keyType 59 = true := by kernel_rfl
theorem Try.row59 : 59 < Try.prog.types.size := Nat.le_of_ble_eq_true (n := 60) (by kernel_rfl)
theorem law38 : Keyed Try.prog 38 := int_keyed Try.underlying38
theorem law59 : Keyed Try.prog 59 := Keyed.of_law (deep_law_laid Try.laid (m := 2) (by omega) Try.row59 (by kernel_rfl) (by kernel_rfl))

theorem wf_u16 {x : Int} (h : 0 ≤ x ∧ x < 65536) : (Lit.int .u16 x).wf = true := by
  simp [Lit.wf, IntKind.min, IntKind.max, IntKind.signed, IntKind.bits]; omega
theorem wf_u32 {x : Int} (h : 0 ≤ x ∧ x < 4294967296) : (Lit.int .u32 x).wf = true := by
  simp [Lit.wf, IntKind.min, IntKind.max, IntKind.signed, IntKind.bits]; omega
theorem wf_i64 {x : Int} (h : -9223372036854775808 ≤ x ∧ x ≤ 9223372036854775807) : (Lit.int .i64 x).wf = true := by
  simp [Lit.wf, IntKind.min, IntKind.max, IntKind.signed, IntKind.bits]; omega
theorem key38 {x : Int} (h : 0 ≤ x ∧ x < 65536) : keyOf Try.prog 38 (.int .u16 x) = some (.int .u16 x) := keyOf_int_mk Try.underlying38 (wf_u16 h)

theorem lits_int {t : TypeId} {q : IntKind} {x : Int} {d : Nat} (hu : Try.prog.underlying t = some (.int q)) (h : (Lit.int q x).wf = true) : Try.prog.keyLits (d + 1) t [.int q x] = some [.int q x] := by
  unfold Program.keyLits
  simp only [hu]
  simp [h]
theorem key59 {k : Key} (h : k.ok) : ∃ l, keyOf Try.prog 59 k.val = some l := by
  obtain ⟨h1, h2, h3⟩ := h
  obtain ⟨fs, u59, fs59_parts, fs59_names⟩ := Try.struct59
  have e0 : k.val.formed Try.prog 59 = true := by
    simp only [Value.formed, Key.val, u59, Try.cells59]
    rfl
  have e1 : k.val.cells.toList = k.cells := rfl
  have e2 : ∀ d, Try.prog.keyLits (d + 2) 59 k.cells = some [.int .i64 k.host, .int .u32 k.own, .int .u32 k.peer] := fun d => by
    have e3 : (fs.toList.mapM fun f => Try.prog.keyLits (d + 1) f.type ((k.cells.drop f.offset).take (Try.prog.cellsOf f.type))) = ([(3, 0), (29, 1), (29, 2)] : List (TypeId × Nat)).mapM fun p => Try.prog.keyLits (d + 1) p.1 ((k.cells.drop p.2).take (Try.prog.cellsOf p.1)) := by
      rw [← fs59_parts, List.mapM_map]
      rfl
    unfold Program.keyLits
    simp only [u59]
    rw [if_pos ⟨by rw [Try.cells59]; rfl, fs59_names⟩, e3]
    simp [Key.cells, Try.cells3, Try.cells29, lits_int Try.underlying3 (wf_i64 h1), lits_int Try.underlying29 (wf_u32 h2), lits_int Try.underlying29 (wf_u32 h3)]
  unfold keyOf
  rw [u59]
  simp only [Try.key59, e0, e1, Bool.and_self, if_true]
  obtain ⟨n, hn⟩ : ∃ n, Try.prog.types.size = n + 1 := ⟨Try.prog.types.size - 1, by have := Try.row59; omega⟩
  rw [hn, e2]
  exact ⟨_, rfl⟩

end Go.Proofs.Ytepadejkeokbcaa
