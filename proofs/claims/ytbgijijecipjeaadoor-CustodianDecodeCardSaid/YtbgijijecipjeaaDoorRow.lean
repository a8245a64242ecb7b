/- Laws on rows of cells that the kit lacks: an array value is indexed. -/
import Derived.WalkKit
import Derived.WalkLawsBesides
import Derived.Laws.CopyOwn
import Derived.KernelRfl
import Derived.Lib.BufferWrite
import Derived.Lib.SlBuf
namespace Go.Proofs.YtbgijijecipjeaaDoor
open Go.RowKit

/-! Below and a block's content, along the worlds of a walk. -/
theorem bl_then {w W w2 : World} (h2 : Below W.heap.size W w2) (h : Below w.heap.size w W) : Below w.heap.size w w2 := h.trans (h2.mono h.size)
theorem bl_alloc {w W : World} (h : Below w.heap.size w W) (o : Obj) : Below w.heap.size w (W.alloc o) := h.alloc h.size o
theorem bl_drew {w W : World} (h : Below w.heap.size w W) : Below w.heap.size w W.drew := h.drew
theorem bl_drewN {w W : World} (h : Below w.heap.size w W) (n : Nat) : Below w.heap.size w (W.drewN n) := below_drewN h n
theorem bl_setRow {w W : World} (h : Below w.heap.size w W) (g : Nat) (cs : Array Value) (hg : w.heap.size ≤ g) : Below w.heap.size w (W.setRow g cs) := below_setRow h hg cs
theorem hp_alloc {W : World} {i : Nat} {X : Obj} (h : W.heap[i]? = some X) (o : Obj) : (W.alloc o).heap[i]? = some X :=
  (heap_alloc_old W o (Array.getElem?_eq_some_iff.1 h).1).trans h
theorem hp_drew {W : World} {i : Nat} {X : Obj} (h : W.heap[i]? = some X) : W.drew.heap[i]? = some X := h
theorem hp_drewN {W : World} {i : Nat} {X : Obj} (h : W.heap[i]? = some X) (n : Nat) : (W.drewN n).heap[i]? = some X := h
theorem hp_then {W w2 : World} (h2 : Below W.heap.size W w2) {i : Nat} {X : Obj} (h : W.heap[i]? = some X) : w2.heap[i]? = some X :=
  (h2.block i (Array.getElem?_eq_some_iff.1 h).1).trans h
/-- What a call that makes memory leaves: blocks, cells and marks below. -/
theorem bcell {W w1 : World} (hb : Below W.heap.size W w1) : (∀ b o, b < W.heap.size → w1.cell? ⟨b, o, none⟩ = W.cell? ⟨b, o, none⟩) ∧ (∀ b o, b < W.heap.size → w1.frozen? ⟨b, o, none⟩ = W.frozen? ⟨b, o, none⟩) ∧ (∀ b : Nat, b < W.heap.size → w1.heap[b]? = W.heap[b]?) :=
  ⟨fun b o h => hb.cell (p := ⟨b, o, none⟩) h, fun b o h => hb.frozen (p := ⟨b, o, none⟩) h, fun b h => hb.block b h⟩
theorem hp_lt {W : World} {i : Nat} {X : Obj} (h : W.heap[i]? = some X) : i < W.heap.size := (Array.getElem?_eq_some_iff.1 h).1
theorem run_index_row {P : Program} (w : World) (t e : TypeId) (n i : Nat) (cs : Array Value) (k kk : IntKind) (v : Value) (ht : P.underlying t = some (.array n e)) (he : P.underlying e = some (.int kk)) (hs : (P.info? e).map (·.size) = some 1)
    (hi : i < n) (hv : cs[i]? = some v) : (Instr.index t (.agg cs) (.int k (i : Int))).run P w = .ok v w := by
  obtain ⟨i0, h0, h1⟩ := Option.map_eq_some_iff.1 hs
  unfold Instr.index
  simp [Sem.run_bind, run_underlying ht, asIntOf, sizeOf, typeInfo, h0, h1, hi, part, run_underlying he, isAgg]
  rw [hv]; rfl
/-- 'a[l:]' of an array variable. -/
theorem run_sliceAt_from {P : Program} (wx : World) (t e : TypeId) (n b o l : Nat) (kl : IntKind) (ht : P.underlying t = some (.array n e)) (hs : (P.info? e).map (·.size) = some 1) (hl : l < n) :
    (Instr.sliceAt t (.pointer (some ⟨b, o, none⟩)) (some (.int kl (l : Int))) none none).run P wx = .ok (.slice (some ⟨b, o + l, none⟩) (n - l) (n - l)) wx := by
  obtain ⟨i0, h0, h1⟩ := Option.map_eq_some_iff.1 hs
  have hal : P.arrayLen t = n := by simp [Program.arrayLen, ht]
  have hel : P.elem t = e := by simp [Program.elem, ht]
  rw [run_sliceAt_array_l wx t _ (by rw [hal, hel]; exact ht) kl (l : Int) (by omega) (by rw [hal]; omega), hal, hel]
  have hadd : (⟨b, o, none⟩ : Addr).add l = ⟨b, o + l, none⟩ := by unfold Addr.add; split <;> simp_all
  simp [sizeOf, typeInfo, h0, h1, slicedAt, Result.andThen, hadd]
  omega
/-- 'copy(dst, s)', s a string, dst in a row: as many bytes go over as both allow. -/
theorem run_copy_str {P : Program} (w : World) (dT sT ty elem : TypeId) (g o dLen dCap n : Nat) (s : ByteArray) (cur : Array Value) (t : TypeId)
    (hu : P.underlying dT = some (.slice elem)) (hs : (P.info? elem).map (·.size) = some 1) (hg : w.heap[g]? = some (.cells cur t (0, 0))) (hn : Nat.min s.size dLen = n) (hfit : o + n ≤ cur.size) :
    (Builtin.copy_ #[dT, sT] ty #[.slice (some ⟨g, o, none⟩) dLen dCap, .string s]).run P w =
      .ok (goInt n) (w.setRow g (cur.toList.take o ++ Lib.byteCells (s.data.toList.take n) ++ cur.toList.drop (o + n)).toArray) := by
  have hns : n ≤ s.size := by rw [← hn]; exact Nat.min_le_left _ _
  have hlen : (Lib.byteCells (s.data.toList.take n)).length = n := by rw [Lib.byteCells_length, List.length_take, ← Lib.size_eq]; omega
  have hst := run_storeCells_at P g o t (Lib.byteCells (s.data.toList.take n)) 0 cur w hg (by rw [hlen]; simpa using hfit) (Lib.byteCells_one _)
  have htk : List.take n (List.map (fun b : UInt8 => Value.int IntKind.u8 (b.toNat : Int)) s.data.toList) = Lib.byteCells (s.data.toList.take n) := by
    rw [← List.map_take]; rfl
  rw [hlen] at hst
  simp only [Nat.add_zero] at hst
  cases hq : P.info? elem with
  | none => simp [hq] at hs
  | some i =>
    simp [Builtin.copy_, run_underlying hu, Builtin.lenOf, Builtin.firstCells, sizeOf, typeInfo, hq, hn]
    rw [htk, hst]
    simp [Result.andThen]
end Go.Proofs.YtbgijijecipjeaaDoor
