/- Plain words: the parts of a statement; two statements are equal only if their parts are. -/
import Derived.Test.YtbgijijecipjeaaDoorPureA
import Derived.Test.YtbgijijecipjeaaDoorStmt
namespace Go.Proofs.YtbgijijecipjeaaDoor
open Go.RowKit Go.IntWalk Go.Proofs.YtbgijijecipjeaaDoorW.PrintWords

structure Parts where
  dom : List UInt8
  cmd : List UInt8
  ep : Int
  rq : Int
  verb : Int
structure Parts.Ok (p : Parts) : Prop where
  dom : p.dom.length = 16
  cmd : p.cmd.length = 16
  ep : in64 p.ep
  rq : in64 p.rq
  verb : in64 p.verb
/-- The parts' cells. -/
def partsRow (p : Parts) : List Value := Lib.byteCells p.dom ++ (Lib.byteCells p.cmd ++ [.int .i64 p.ep, .int .i64 p.rq, .int .i64 p.verb])
theorem partsRow_length (p : Parts) (h : p.Ok) : (partsRow p).length = 35 := by simp [partsRow, Lib.byteCells_length, h.dom, h.cmd]
def partsW (p : Parts) : List UInt8 := stmtW p.dom p.ep p.rq p.verb p.cmd
theorem partsW_inj (a b : Parts) (ha : a.Ok) (hb : b.Ok) (h : partsW a = partsW b) : a = b := by
  unfold partsW stmtW wInts wMany at h
  simp only [List.map_cons, List.map_nil, List.flatten_cons, List.flatten_nil, List.append_nil, List.append_assoc] at h
  have h1 := List.append_cancel_left h
  simp only [List.length_cons, List.length_nil] at h1
  have h2 := List.append_cancel_left h1
  obtain ⟨e1, h3⟩ := wInt_prefix ha.verb hb.verb h2
  obtain ⟨e2, h4⟩ := wInt_prefix ha.ep hb.ep h3
  obtain ⟨e3, h5⟩ := wInt_prefix ha.rq hb.rq h4
  obtain ⟨e4, e5⟩ := List.append_inj h5 (ha.dom.trans hb.dom.symm)
  cases a; cases b
  simp only at e1 e2 e3 e4 e5
  subst e1 e2 e3 e4 e5
  rfl
end Go.Proofs.YtbgijijecipjeaaDoor
