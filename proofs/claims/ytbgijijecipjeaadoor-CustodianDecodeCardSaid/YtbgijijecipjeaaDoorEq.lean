/- Equality of members and digests as values. -/
import Derived.Test.YtbgijijecipjeaaDoorStmt
import Derived.Test.YtbgijijecipjeaaDoorEqA
import Derived.DeepKeys
namespace Go.Proofs.YtbgijijecipjeaaDoor
open Go.RowKit Go.IntWalk Go.Proofs.YtbgijijecipjeaaDoorW.PrintWords

theorem list16 (l : List UInt8) (h : l.length = 16) : ∃ a b c d e f g i j k m n o p q r, l = [a, b, c, d, e, f, g, i, j, k, m, n, o, p, q, r] := by
  match l, h with
  | [a, b, c, d, e, f, g, i, j, k, m, n, o, p, q, r], _ => exact ⟨a, b, c, d, e, f, g, i, j, k, m, n, o, p, q, r, rfl⟩

theorem key_u8 (d : Nat) (b : UInt8) : Tryd.prog.keyLits (d + 1) 5 [.int .u8 (b.toNat : Int)] = some [.int .u8 (b.toNat : Int)] := by
  have hb := b.toNat_lt
  have hw : (Lit.int IntKind.u8 (b.toNat : Int)).wf = true := by
    simp [Lit.wf, IntKind.min, IntKind.max, IntKind.signed, IntKind.bits]; omega
  simp [Program.keyLits, Tryd.underlying5, hw]
theorem key_str (d : Nat) (s : ByteArray) (h : s.size ≤ maxLen) : Tryd.prog.keyLits (d + 1) 9 [.string s] = some [.string s.data.toList] := by
  simp [Program.keyLits, Tryd.underlying9, h]
theorem key_int (d : Nat) (n : Int) (h : in64 n) : Tryd.prog.keyLits (d + 1) 3 [.int .i64 n] = some [.int .i64 n] := by
  have hw : (Lit.int IntKind.i64 n).wf = true := by
    simp [Lit.wf, IntKind.min, IntKind.max, IntKind.signed, IntKind.bits]; unfold in64 at h; omega
  simp [Program.keyLits, Tryd.underlying3, hw]
theorem cells36 : Tryd.prog.cellsOf 36 = 16 := by kernel_rfl
theorem cells5 : Tryd.prog.cellsOf 5 = 1 := by kernel_rfl
def digLits (l : List UInt8) : List Lit := l.map fun b => .int .u8 (b.toNat : Int)
theorem key_dig (d : Nat) (l : List UInt8) (h : l.length = 16) : Tryd.prog.keyLits (d + 2) 36 (Lib.byteCells l) = some (digLits l) := by
  have hl : (Lib.byteCells l).length = 16 := by rw [Lib.byteCells_length]; exact h
  unfold Program.keyLits
  rw [Tryd.underlying36]
  simp only [hl, cells36, if_true, cells5]
  obtain ⟨a, b, c, d', e, f, g, i, j, k, m, n, o, p, q, r, rfl⟩ := list16 l h
  simp [List.range, List.range.loop, Lib.byteCells, key_u8, digLits]

def memLits (m : Mem) : List Lit := .string m.name.data.toList :: (digLits m.pub ++ [.int .i64 m.ht])
theorem digLits_inj (a b : List UInt8) (h : digLits a = digLits b) : a = b := by
  induction a generalizing b with
  | nil => cases b with
    | nil => rfl
    | cons y b => simp [digLits] at h
  | cons x a ih => cases b with
    | nil => simp [digLits] at h
    | cons y b =>
      simp only [digLits, List.map_cons, List.cons.injEq, Lit.int.injEq, true_and] at h
      obtain ⟨h1, h2⟩ := h
      have hxy : x = y := UInt8.toNat_inj.1 (by omega)
      rw [hxy, ih b h2]
theorem memLits_inj (a b : Mem) (ha : a.pub.length = 16) (hb : b.pub.length = 16) (h : memLits a = memLits b) : a = b := by
  obtain ⟨n1, p1, h1⟩ := a
  obtain ⟨n2, p2, h2⟩ := b
  simp only [memLits, List.cons.injEq, Lit.string.injEq] at h
  obtain ⟨e1, e2⟩ := h
  have hl : (digLits p1).length = (digLits p2).length := by simp only [digLits, List.length_map]; exact ha.trans hb.symm
  obtain ⟨e3, e4⟩ := List.append_inj e2 hl
  have e5 := digLits_inj _ _ e3
  have e6 : n1 = n2 := by
    cases n1; cases n2
    simp only [ByteArray.mk.injEq]
    exact Array.toList_inj.1 e1
  have e7 : h1 = h2 := by simpa using e4
  rw [e5, e6, e7]
theorem key_mem (d : Nat) (m : Mem) (hp : m.pub.length = 16) (hs : m.name.size ≤ maxLen) (hh : in64 m.ht) : Tryd.prog.keyLits (d + 3) 47 (memRow m) = some (memLits m) := by
  have hl := memRow_length m hp
  have c47 : Tryd.prog.cellsOf 47 = 18 := by kernel_rfl
  have c9 : Tryd.prog.cellsOf 9 = 1 := by kernel_rfl
  have c3 : Tryd.prog.cellsOf 3 = 1 := by kernel_rfl
  have hb : (Lib.byteCells m.pub).length = 16 := by rw [Lib.byteCells_length]; exact hp
  unfold Program.keyLits
  rw [Tryd.underlying47]
  simp only [hl, c47, true_and]
  simp [cells36, c9, c3, memRow, key_str _ _ hs, hb]
  rw [key_dig d m.pub hp, key_int (d + 1) m.ht hh]
  simp [memLits]
theorem formed_mem (m : Mem) (hp : m.pub.length = 16) : (Value.agg (memRow m).toArray).formed Tryd.prog 47 = true := by
  have c47 : Tryd.prog.cellsOf 47 = 18 := by kernel_rfl
  simp [Value.formed, Tryd.underlying47, c47, memRow_length m hp]
theorem formed_dig (l : List UInt8) (h : l.length = 16) : (Value.agg (Lib.byteCells l).toArray).formed Tryd.prog 36 = true := by
  simp [Value.formed, Tryd.underlying36, cells36, Lib.byteCells_length, h]
instance : DecidableEq Mem := fun a b =>
  if h : a.name = b.name ∧ a.pub = b.pub ∧ a.ht = b.ht then isTrue (by cases a; cases b; simp only [Mem.mk.injEq]; exact h) else isFalse (fun e => h (by subst e; exact ⟨rfl, rfl, rfl⟩))
set_option maxRecDepth 100000 in
/-- Two members are equal as values exactly if they are equal. -/
theorem eq_mem (a b : Mem) (w : World) (ha : a.pub.length = 16) (hb : b.pub.length = 16) (h1 : a.name.size ≤ maxLen) (h2 : b.name.size ≤ maxLen) (h3 : in64 a.ht) (h4 : in64 b.ht) :
    (Op.equalIn 10000 47 (.agg (memRow a).toArray) (.agg (memRow b).toArray)).run Tryd.prog w = .ok (decide (a = b)) w := by
  obtain ⟨r, hr, hiff⟩ := run_equalIn_deep (P := Tryd.prog) 9996 4 47 (by kernel_rfl) w 3 3 _ _ (memLits a) (memLits b) (formed_mem a ha) (formed_mem b hb) (key_mem 0 a ha h1 h3) (key_mem 0 b hb h2 h4)
  have e : r = decide (a = b) := by
    by_cases h : a = b
    · rw [decide_eq_true h]; exact hiff.2 (by rw [h])
    · rw [decide_eq_false h]
      rcases r with _ | _
      · rfl
      · exact absurd (memLits_inj a b ha hb (hiff.1 rfl)) h
  rw [← e]; exact hr
set_option maxRecDepth 100000 in
/-- Two digests likewise. -/
theorem eq_dig (a b : List UInt8) (w : World) (ha : a.length = 16) (hb : b.length = 16) :
    (Op.equalIn 10000 36 (.agg (Lib.byteCells a).toArray) (.agg (Lib.byteCells b).toArray)).run Tryd.prog w = .ok (decide (a = b)) w := by
  obtain ⟨r, hr, hiff⟩ := run_equalIn_deep (P := Tryd.prog) 9996 4 36 (by kernel_rfl) w 2 2 _ _ (digLits a) (digLits b) (formed_dig a ha) (formed_dig b hb) (key_dig 0 a ha) (key_dig 0 b hb)
  have e : r = decide (a = b) := by
    by_cases h : a = b
    · rw [decide_eq_true h]; exact hiff.2 (by rw [h])
    · rw [decide_eq_false h]
      rcases r with _ | _
      · rfl
      · exact absurd (digLits_inj a b (hiff.1 rfl)) h
  rw [← e]; exact hr
end Go.Proofs.YtbgijijecipjeaaDoor
