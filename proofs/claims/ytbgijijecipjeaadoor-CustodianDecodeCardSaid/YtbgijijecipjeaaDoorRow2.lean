/- Rows of cells that are loaded and stored whole, in whatever order: rules for the walk. -/
import Derived.Test.YtbgijijecipjeaaDoorChecked
import Derived.Test.YtbgijijecipjeaaDoorRow
import Derived.KernelRfl
import Derived.Deep.WholeRow
namespace Go.Proofs.YtbgijijecipjeaaDoor
open Go.RowKit

/-- The cells of an unfrozen block. -/
def rowO : Obj → Option (Array Value)
  | .cells c _ (0, 0) => some c
  | _ => none
def row? (w : World) (p : Nat) : Option (Array Value) := (w.heap[p]?).bind rowO
theorem row_of {w : World} {p : Nat} {c : Array Value} {t : TypeId} (h : w.heap[p]? = some (.cells c t (0, 0))) : row? w p = some c := by rw [row?, h]; rfl
theorem rowO_some {o : Obj} {c : Array Value} (h : rowO o = some c) : ∃ t, o = .cells c t (0, 0) := by
  unfold rowO at h
  split at h
  · injection h with h; subst h; exact ⟨_, rfl⟩
  · cases h
theorem row_heap {w : World} {p : Nat} {c : Array Value} (h : row? w p = some c) : ∃ t, w.heap[p]? = some (.cells c t (0, 0)) := by
  obtain ⟨o, ho, hc⟩ := Option.bind_eq_some_iff.1 h
  obtain ⟨t, rfl⟩ := rowO_some hc
  exact ⟨t, ho⟩
theorem row_lt {w : World} {p : Nat} {c : Array Value} (h : row? w p = some c) : p < w.heap.size := by
  obtain ⟨t, h⟩ := row_heap h
  exact (Array.getElem?_eq_some_iff.1 h).1
@[simp, go_sem] theorem lt_two (n : Nat) : (n < n + 1 + 1) = True := by simp; omega
@[simp, go_sem] theorem lt_three (n : Nat) : (n < n + 1 + 1 + 1) = True := by simp; omega
@[simp, go_sem] theorem lt_four (n : Nat) : (n < n + 1 + 1 + 1 + 1) = True := by simp; omega
@[go_sem] theorem rowO_cells (c : Array Value) (t : TypeId) : rowO (.cells c t (0, 0)) = some c := rfl
@[go_sem] theorem row_alloc (w : World) (o : Obj) (p : Nat) : row? (w.alloc o) p = if p = w.heap.size then rowO o else row? w p := by
  by_cases h : p = w.heap.size
  · subst h; rw [if_pos rfl]; unfold row?; rw [heap_alloc_new]; rfl
  · rw [if_neg h]; unfold row?
    have : (w.alloc o).heap[p]? = w.heap[p]? := by
      show (w.heap.push o)[p]? = _
      rw [Array.getElem?_push, if_neg h]
    rw [this]
@[go_sem high] theorem row_alloc_lt (w : World) (o : Obj) (p : Nat) (h : p < w.heap.size) : row? (w.alloc o) p = row? w p := by
  rw [row_alloc, if_neg (Nat.ne_of_lt h)]
@[go_sem] theorem row_drew (w : World) (p : Nat) : row? w.drew p = row? w p := rfl
@[go_sem] theorem row_drewN (w : World) (p n : Nat) : row? (w.drewN n) p = row? w p := rfl
@[go_sem] theorem row_setRow (w : World) (q p : Nat) (X : Array Value) : row? (w.setRow q X) p = if p = q then (row? w p).map fun _ => X else row? w p := by
  unfold row? World.setRow
  show ((w.heap.modify q _)[p]?).bind rowO = _
  rw [Array.getElem?_modify]
  by_cases h : p = q
  · rw [if_pos h.symm, if_pos h]
    cases w.heap[p]? with
    | none => rfl
    | some o =>
      cases o <;> try rfl
      rename_i c t fr
      obtain ⟨a, b⟩ := fr
      cases a <;> cases b <;> rfl
  · rw [if_neg (fun e => h e.symm), if_neg h]
@[go_sem] theorem row_setCell (w : World) (q p i : Nat) (v : Value) : row? (w.setCell ⟨q, i, none⟩ v) p = if p = q then (row? w p).map fun c => c.setIfInBounds i v else row? w p := by
  unfold row? World.setCell
  show ((w.heap.modify q _)[p]?).bind rowO = _
  rw [Array.getElem?_modify]
  by_cases h : p = q
  · rw [if_pos h.symm, if_pos h]
    cases w.heap[p]? with
    | none => rfl
    | some o =>
      cases o <;> try rfl
      rename_i c t fr
      obtain ⟨a, b⟩ := fr
      cases a <;> cases b <;> rfl
  · rw [if_neg (fun e => h e.symm), if_neg h]
theorem row_cell {w : World} {p : Nat} {c : Array Value} (h : row? w p = some c) (i : Nat) : w.cell? ⟨p, i, none⟩ = c[i]? := by
  obtain ⟨t, h⟩ := row_heap h
  exact cell_of_row _ _ _ _ _ _ h
theorem row_frozen {w : World} {p : Nat} {c : Array Value} (h : row? w p = some c) (i : Nat) : w.frozen? ⟨p, i, none⟩ = false := by
  obtain ⟨t, h⟩ := row_heap h
  exact frozen_of_row _ _ _ _ _ h
theorem row_below {w w1 : World} (hb : Below w.heap.size w w1) (p : Nat) (hp : p < w.heap.size) : row? w1 p = row? w p := by
  unfold row?; rw [hb.block _ hp]
/-- What a call that makes memory leaves: cells, marks and rows below, and more blocks. -/
theorem brow {W w1 : World} (hb : Below W.heap.size W w1) : (∀ b o, b < W.heap.size → w1.cell? ⟨b, o, none⟩ = W.cell? ⟨b, o, none⟩) ∧ (∀ b o, b < W.heap.size → w1.frozen? ⟨b, o, none⟩ = W.frozen? ⟨b, o, none⟩) ∧ (∀ b : Nat, b < W.heap.size → row? w1 b = row? W b) ∧ (∀ b : Nat, b < W.heap.size → b < w1.heap.size) :=
  ⟨fun b o h => hb.cell (p := ⟨b, o, none⟩) h, fun b o h => hb.frozen (p := ⟨b, o, none⟩) h, fun b h => row_below hb b h, fun _ h => Nat.lt_of_lt_of_le h hb.size⟩

/-- Each is one cell. -/
def oneAll (X : Array Value) : Bool := X.all (·.oneCell')
def loadRow (t : TypeId) (v : Value) : Sem Value := Instr.loadAt t v
def storeRow (t : TypeId) (v x : Value) : Sem Unit := Instr.storeAt t v x
def loadRowK (P : Program) (t n p : Nat) (w : World) : Option (Array Value) → Result Value
  | some X => if X.size = n then .ok (.agg X) w else (Instr.loadAt t (.pointer (some ⟨p, 0, none⟩))).run P w
  | none => (Instr.loadAt t (.pointer (some ⟨p, 0, none⟩))).run P w
@[go_sem] theorem loadRowK_some (P : Program) (t n p : Nat) (w : World) (X : Array Value) (h : X.size = n) : loadRowK P t n p w (some X) = .ok (.agg X) w := by simp [loadRowK, h]
theorem loadRowK_eq {P : Program} (t n p : Nat) (w : World) {d : TypeDesc} (hu : P.underlying t = some d) (hd : (match d with | .struct _ | .array _ _ => true | _ => false) = true) (hi : (P.info? t).map (·.size) = some n) :
    loadRowK P t n p w (row? w p) = (loadRow t (.pointer (some ⟨p, 0, none⟩))).run P w := by
  unfold loadRowK loadRow
  split
  · rename_i X hX
    split
    · rename_i hn
      obtain ⟨t', hh⟩ := row_heap hX
      rw [Instr.loadAt]
      simp only [Instr.sureAddr, Sem.run_bind, Sem.run_pure, Result.andThen_ok]
      exact (run_loadVar_row w p t' t X (0, 0) d hh hu hd (by rw [hn]; exact hi)).symm
    · rfl
  · rfl
def storeRowK (P : Program) (t n p : Nat) (X : Array Value) (w : World) : Option (Array Value) → Result Unit
  | some old => if old.size = n ∧ X.size = n ∧ oneAll X = true then .ok () (w.setRow p X) else (Instr.storeAt t (.pointer (some ⟨p, 0, none⟩)) (.agg X)).run P w
  | none => (Instr.storeAt t (.pointer (some ⟨p, 0, none⟩)) (.agg X)).run P w
@[go_sem] theorem storeRowK_some (P : Program) (t n p : Nat) (X : Array Value) (w : World) (old : Array Value) (h0 : old.size = n) (h : X.size = n) (h1 : oneAll X = true) : storeRowK P t n p X w (some old) = .ok () (w.setRow p X) := by simp only [storeRowK]; rw [if_pos ⟨h0, h, h1⟩]
theorem storeRowK_eq {P : Program} (t n p : Nat) (X : Array Value) (w : World) (hi : (P.info? t).map (·.size) = some n) :
    storeRowK P t n p X w (row? w p) = (storeRow t (.pointer (some ⟨p, 0, none⟩)) (.agg X)).run P w := by
  unfold storeRowK storeRow
  split
  · rename_i old hX
    split
    · rename_i hn
      obtain ⟨t', hh⟩ := row_heap hX
      rw [Instr.storeAt]
      simp only [Instr.sureAddr, Sem.run_bind, Sem.run_pure, Result.andThen_ok]
      exact (run_storeVar_row w p t' t old X hh (by rw [hn.2.1]; exact hi) (by rw [hn.1, hn.2.1]) hn.2.2).symm
    · rfl
  · rfl
@[go_sem] theorem setRow_alloc_new' (w : World) (c c' : Array Value) (t : TypeId) : (w.alloc (.cells c t)).setRow w.heap.size c' = w.alloc (.cells c' t) := World.setRow_alloc_new w c c' t

@[go_sem ↓] theorem loadAt_digest (v : Value) : Instr.loadAt 36 v = loadRow 36 v := rfl
@[go_sem ↓] theorem storeAt_digest (v x : Value) : Instr.storeAt 36 v x = storeRow 36 v x := rfl
@[go_sem] theorem run_loadRow_digest (p : Nat) (w : World) : (loadRow 36 (.pointer (some ⟨p, 0, none⟩))).run Tryd.prog w = loadRowK Tryd.prog 36 16 p w (row? w p) := (loadRowK_eq 36 16 p w Tryd.underlying36 rfl (by kernel_rfl)).symm
@[go_sem] theorem run_storeRow_digest (p : Nat) (X : Array Value) (w : World) : (storeRow 36 (.pointer (some ⟨p, 0, none⟩)) (.agg X)).run Tryd.prog w = storeRowK Tryd.prog 36 16 p X w (row? w p) := (storeRowK_eq 36 16 p X w (by kernel_rfl)).symm
-- attribute [go_sem high]
@[go_sem ↓] theorem loadAt_stream (v : Value) : Instr.loadAt 86 v = loadRow 86 v := rfl
@[go_sem ↓] theorem storeAt_stream (v x : Value) : Instr.storeAt 86 v x = storeRow 86 v x := rfl
@[go_sem] theorem run_loadRow_stream (p : Nat) (w : World) : (loadRow 86 (.pointer (some ⟨p, 0, none⟩))).run Tryd.prog w = loadRowK Tryd.prog 86 73 p w (row? w p) := (loadRowK_eq 86 73 p w Tryd.underlying86 rfl (by kernel_rfl)).symm
@[go_sem] theorem run_storeRow_stream (p : Nat) (X : Array Value) (w : World) : (storeRow 86 (.pointer (some ⟨p, 0, none⟩)) (.agg X)).run Tryd.prog w = storeRowK Tryd.prog 86 73 p X w (row? w p) := (storeRowK_eq 86 73 p X w (by kernel_rfl)).symm
-- attribute [go_sem high]
@[go_sem ↓] theorem loadAt_sum32 (v : Value) : Instr.loadAt 89 v = loadRow 89 v := rfl
@[go_sem ↓] theorem storeAt_sum32 (v x : Value) : Instr.storeAt 89 v x = storeRow 89 v x := rfl
@[go_sem] theorem run_loadRow_sum32 (p : Nat) (w : World) : (loadRow 89 (.pointer (some ⟨p, 0, none⟩))).run Tryd.prog w = loadRowK Tryd.prog 89 32 p w (row? w p) := (loadRowK_eq 89 32 p w Tryd.underlying89 rfl (by kernel_rfl)).symm
@[go_sem] theorem run_storeRow_sum32 (p : Nat) (X : Array Value) (w : World) : (storeRow 89 (.pointer (some ⟨p, 0, none⟩)) (.agg X)).run Tryd.prog w = storeRowK Tryd.prog 89 32 p X w (row? w p) := (storeRowK_eq 89 32 p X w (by kernel_rfl)).symm
-- attribute [go_sem high]
end Go.Proofs.YtbgijijecipjeaaDoor
