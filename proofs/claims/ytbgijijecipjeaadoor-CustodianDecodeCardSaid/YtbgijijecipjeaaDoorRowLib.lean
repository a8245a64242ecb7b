/- From what a row hands over to what the walks ask: digests by value, the table of the hash's constants. -/
import Derived.Test.YtbgijijecipjeaaDoorHash3
import Derived.Test.YtbgijijecipjeaaDoorRows
import Derived.ProofKit
import Derived.LaidMore
import Derived.OpenShut
import Derived.Stop.Joined
import Derived.Lib.LaidTab
import Derived.Lib.BufferWrite
namespace Go.Proofs.YtbgijijecipjeaaDoor
open Go.ChangeShapes Go.WideShapes Go.ChangeAt Go.RowKit

theorem own_ : ownKnob Tryd.prog.godebug = none := by kernel_rfl
theorem laidOut_ : laidOutB Tryd.prog = true := by kernel_rfl
theorem bytes_of {cs : List Value} (h : ∀ v ∈ cs, ∃ b : UInt8, v = .int .u8 (b.toNat : Int)) : ∃ l : List UInt8, cs = Lib.byteCells l := by
  induction cs with
  | nil => exact ⟨[], rfl⟩
  | cons v cs ih =>
    obtain ⟨b, hb⟩ := h v (List.mem_cons_self ..)
    obtain ⟨l, hl⟩ := ih fun x hx => h x (List.mem_cons_of_mem _ hx)
    exact ⟨b :: l, by rw [hb, hl]; rfl⟩
/-- A digest that is read. -/
theorem dig_of_trod {H : Type} {enc : TypeId × Value → H} {w : World} {base : Nat} {spare : TypeId → Bool} {held : Bool} {fuel : Nat} {cs : List Value} {x : DataW H × List MemPlace} (h : DataW.trod enc Tryd.prog w base spare held fuel 36 cs = some x) :
    ∃ l : List UInt8, l.length = 16 ∧ cs = Lib.byteCells l := by
  obtain ⟨xs, m, -, -, hlen, hxs, hel⟩ := DataW.trod_array Tryd.underlying36 h
  have c36 : Tryd.prog.cellsOf 36 = 16 := by kernel_rfl
  have c5 : Tryd.prog.cellsOf 5 = 1 := by kernel_rfl
  rw [c36] at hlen
  rw [c5] at hel
  obtain ⟨l, hl⟩ := bytes_of (cs := cs) (fun v hv => by
    obtain ⟨i, hi⟩ := List.getElem?_of_mem hv
    have hi16 : i < 16 := by rw [← hlen]; exact (List.getElem?_eq_some_iff.1 hi).1
    have he := hel i hi16
    rw [List.getElem?_eq_getElem (by omega), Nat.mul_one] at he
    obtain ⟨n, e1, -, e3⟩ := DataW.trod_int Tryd.underlying5 he
    have e4 : v = .int .u8 n := by
      have : (cs.drop i).take 1 = [v] := by
        obtain ⟨hlt, rfl⟩ := List.getElem?_eq_some_iff.1 hi
        rw [List.drop_eq_getElem_cons hlt]; rfl
      rw [this] at e1
      simpa using e1
    have hb := bounds_u8 e3
    have hb2 : n = ((UInt8.ofNat n.toNat).toNat : Int) := by
      have : (UInt8.ofNat n.toNat).toNat = n.toNat % 256 := by simp
      rw [this]; omega
    refine ⟨UInt8.ofNat n.toNat, ?_⟩
    rw [e4, ← hb2])
  refine ⟨l, ?_, hl⟩
  rw [hl, Lib.byteCells_length] at hlen
  exact hlen
theorem in64_of {n : Int} (h : (Lit.int .i64 n).wf = true) : -9223372036854775808 ≤ n ∧ n < 9223372036854775808 := by
  have := bounds_i64 h
  omega
theorem gK : Tryd.prog.globalNamed "custody/hash.constants" = some 0 := by kernel_rfl
theorem gKType : (Tryd.prog.globals[0]?).map (·.type) = some 121 := by kernel_rfl
theorem cells32 : Tryd.prog.cellsOf 82 = 1 := by kernel_rfl
theorem cells64 : Tryd.prog.cellsOf 121 = 64 := by kernel_rfl
set_option maxRecDepth 100000 in
theorem tabK_of {w : World} {rest : List (String × DataW Unit)} (h : laidMet Tryd.prog (("custody/hash.constants", Rows.laid_custody_hash_constants) :: rest) w) : TabK w := by
  have ht := Lib.tabIs_of_head (k := .u32) (zs := shaK.map fun (x : Nat) => (x : Int)) (rest := rest) gK gKType Tryd.underlying121 Tryd.underlying82 cells32 cells64 (by exact h)
  intro j v hv
  have hj : j < 64 := by have := (List.getElem?_eq_some_iff.1 hv).1; simpa [w32, shaK] using this
  have := ht.cell gK j (by simpa [shaK] using hj)
  rw [Nat.zero_add, this]
  rw [← hv]
  simp only [w32, List.getElem?_map, List.getD_eq_getElem?_getD]
  have hs : j < shaK.length := by simpa [shaK] using hj
  rw [List.getElem?_eq_getElem hs]
  rfl
end Go.Proofs.YtbgijijecipjeaaDoor
