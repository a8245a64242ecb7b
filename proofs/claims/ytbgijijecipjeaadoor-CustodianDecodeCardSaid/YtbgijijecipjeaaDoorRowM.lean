/- From what a row hands over to what the walks ask: members, custodians. -/
import Derived.Test.YtbgijijecipjeaaDoorRowLib
import Derived.Test.YtbgijijecipjeaaDoorRepl
namespace Go.Proofs.YtbgijijecipjeaaDoor
open Go.ChangeShapes Go.WideShapes Go.ChangeAt Go.RowKit

theorem trod_struct3 {P : Program} {H : Type} {enc : TypeId × Value → H} {w : World} {base : Nat} {spare : Nat → Bool} {held : Bool} {t : TypeId} {f0 f1 f2 : Field} {fuel : Nat} {cs : List Value} {x : DataW H × List MemPlace} (ht : P.underlying t = some (.struct #[f0, f1, f2])) (h : DataW.trod enc P w base spare held fuel t cs = some x) :
    ∃ y0 y1 y2 n, cs.length = P.cellsOf t ∧ DataW.trod enc P w base spare held n f0.type ((cs.drop f0.offset).take (P.cellsOf f0.type)) = some y0 ∧
      DataW.trod enc P w base spare held n f1.type ((cs.drop f1.offset).take (P.cellsOf f1.type)) = some y1 ∧ DataW.trod enc P w base spare held n f2.type ((cs.drop f2.offset).take (P.cellsOf f2.type)) = some y2 := by
  obtain ⟨xs, n, _, rfl, hl, hlen, hf⟩ := DataW.trod_struct ht h
  match xs, hlen with
  | [y0, y1, y2], _ => exact ⟨y0, y1, y2, n, hl, by simpa using hf 0 f0 rfl, by simpa using hf 1 f1 rfl, by simpa using hf 2 f2 rfl⟩
/-- A member that is read. -/
theorem mem_of_trod {H : Type} {enc : TypeId × Value → H} {w : World} {base : Nat} {spare : Nat → Bool} {held : Bool} {fuel : Nat} {cs : List Value} {x : DataW H × List MemPlace} (h : DataW.trod enc Tryd.prog w base spare held fuel 47 cs = some x) :
    ∃ m : Mem, m.pub.length = 16 ∧ m.name.size ≤ maxLen ∧ in64 m.ht ∧ cs = memRow m := by
  obtain ⟨y0, y1, y2, n, hlen, t0, t1, t2⟩ := trod_struct3 Tryd.underlying47 h
  have c47 : Tryd.prog.cellsOf 47 = 18 := by kernel_rfl
  have c36 : Tryd.prog.cellsOf 36 = 16 := by kernel_rfl
  have c9 : Tryd.prog.cellsOf 9 = 1 := by kernel_rfl
  have c3 : Tryd.prog.cellsOf 3 = 1 := by kernel_rfl
  rw [c47] at hlen
  simp only [c36, c9, c3] at t0 t1 t2
  obtain ⟨s, e0, -, hs⟩ := DataW.trod_string Tryd.underlying9 t0
  obtain ⟨l, hl, e1⟩ := dig_of_trod t1
  obtain ⟨z, e2, -, w2⟩ := DataW.trod_int Tryd.underlying3 t2
  refine ⟨⟨s, l, z⟩, hl, hs, in64_of w2, ?_⟩
  rw [List.drop_zero] at e0
  have s1 := (List.take_append_drop 1 cs).symm
  have s2 := (List.take_append_drop 16 (cs.drop 1)).symm
  have s3 := (List.take_append_drop 1 (cs.drop 17)).symm
  rw [List.drop_drop] at s2 s3
  have s4 : cs.drop (17 + 1) = [] := List.drop_of_length_le (by rw [hlen]; decide)
  rw [s4, e2, List.append_nil] at s3
  rw [e1, show 1 + 16 = 17 from rfl, s3] at s2
  rw [e0, s2] at s1
  rw [s1]; rfl
theorem cell_of_cells? {w : World} {base : Nat} {a : Addr} {n : Nat} {cs : List Value} (h : w.cells? base a n = some cs) (k : Nat) (v : Value) (hv : cs[k]? = some v) : w.cell? (a.add k) = some v := by
  obtain ⟨-, hl, hc⟩ := World.cells?_some h
  rw [hc k (by rw [← hl]; exact (List.getElem?_eq_some_iff.1 hv).1)]; exact hv
/-- A slice of members that is read. -/
theorem mems_of_trod {H : Type} {enc : TypeId × Value → H} {w : World} {base : Nat} {spare : Nat → Bool} {held : Bool} {fuel : Nat} {cs : List Value} {x : DataW H × List MemPlace} (h : DataW.trod enc Tryd.prog w base spare held fuel 22 cs = some x) :
    ∃ (A : Option Addr) (c : Nat) (ms : List Mem), cs = [.slice A ms.length c] ∧ ReadsMem w A ms.length ms ∧ okMems ms ∧ ms.length ≤ 9223372036854775807 := by
  have c47 : Tryd.prog.cellsOf 47 = 18 := by kernel_rfl
  rcases DataW.trod_slice Tryd.underlying22 h with ⟨rfl, -⟩ | ⟨a, len, cap, elems, rest, n, -, rfl, -, -, hl, hm, hlen, hel, -, -⟩
  · exact ⟨none, 0, [], rfl, ⟨rfl, fun j m hm => by simp at hm⟩, fun x hx => by simp at hx, by decide⟩
  · have each : ∀ i, i < len → ∃ m : Mem, m.pub.length = 16 ∧ m.name.size ≤ maxLen ∧ in64 m.ht ∧ ∀ k v, (memRow m)[k]? = some v → w.cell? (a.add (i * 18 + k)) = some v := fun i hi => by
      have hb := hel i hi
      rw [c47, List.getElem?_eq_getElem (by omega), Option.bind_eq_some_iff] at hb
      obtain ⟨cs', hcs, hy⟩ := hb
      obtain ⟨m, h1, h2, h3, rfl⟩ := mem_of_trod hy
      exact ⟨m, h1, h2, h3, fun k v hv => by rw [add_add']; exact cell_of_cells? hcs k v hv⟩
    have all : ∀ n, n ≤ len → ∃ ms : List Mem, ms.length = n ∧ okMems ms ∧ ∀ (j : Nat) (m : Mem), ms[j]? = some m → m.pub.length = 16 ∧ ∀ k v, (memRow m)[k]? = some v → w.cell? (a.add (j * 18 + k)) = some v := fun n => by
      induction n with
      | zero => exact fun _ => ⟨[], rfl, fun x hx => by simp at hx, fun j m hm => by simp at hm⟩
      | succ n ih =>
        intro hn
        obtain ⟨ms, h1, h2, h3⟩ := ih (by omega)
        obtain ⟨m, m1, m2, m3, m4⟩ := each n (by omega)
        refine ⟨ms ++ [m], by rw [List.length_append, h1]; rfl, fun x hx => ?_, fun j y hy => ?_⟩
        · rcases List.mem_append.1 hx with hx | hx
          · exact h2 x hx
          · rw [List.mem_singleton.1 hx]; exact ⟨m2, m3⟩
        · by_cases hj : j < ms.length
          · rw [List.getElem?_append_left hj] at hy; exact h3 j y hy
          · rw [List.getElem?_append_right (by omega)] at hy
            have hj0 : j = n := by
              have := (List.getElem?_eq_some_iff.1 hy).1
              simp at this; omega
            subst hj0
            rw [show j - ms.length = 0 by omega] at hy
            obtain rfl : m = y := by simpa using hy
            exact ⟨m1, m4⟩
    obtain ⟨ms, h1, h2, h3⟩ := all len (Nat.le_refl _)
    subst h1
    exact ⟨some a, cap, ms, rfl, ⟨rfl, fun j m hm => ⟨(h3 j m hm).1, a, rfl, (h3 j m hm).2⟩⟩, h2, Nat.le_trans hl (Nat.le_trans hm (by decide))⟩
set_option maxRecDepth 100000 in
/-- Custodians that are read. -/
theorem cus_of {H : Type} {enc : TypeId × Value → H} {W : World} {base b0 : Nat} {spare : Nat → Bool} {held : Bool} {r : Reach} {v : Value} {d : DataW H} {p : List MemPlace} (hv : Value.okWide Tryd.prog W r b0 24 v) (h : DataW.Trod enc Tryd.prog W base spare held 24 v d p) :
    ∃ (ep nd : Int) (A : Option Addr) (c : Nat) (ms : List Mem), v = cusV ep nd A ms.length c ∧ in64 ep ∧ in64 nd ∧ ReadsMem W A ms.length ms ∧ okMems ms ∧ ms.length ≤ 9223372036854775807 := by
  obtain ⟨cs, rfl, hsz⟩ := okWide_struct Tryd.underlying24 hv
  obtain ⟨fuel, hf⟩ := h
  obtain ⟨y0, y1, y2, n, hlen, t0, t1, t2⟩ := trod_struct3 Tryd.underlying24 hf
  have c24 : Tryd.prog.cellsOf 24 = 3 := by kernel_rfl
  have c3 : Tryd.prog.cellsOf 3 = 1 := by kernel_rfl
  have c22 : Tryd.prog.cellsOf 22 = 1 := by kernel_rfl
  rw [c24] at hlen
  simp only [c3, c22] at t0 t1 t2
  obtain ⟨n1, e1, -, w1⟩ := DataW.trod_int Tryd.underlying3 t0
  obtain ⟨n2, e2, -, w2⟩ := DataW.trod_int Tryd.underlying3 t1
  obtain ⟨A, c, ms, e3, hr, hok, hle⟩ := mems_of_trod t2
  refine ⟨n1, n2, A, c, ms, ?_, in64_of w1, in64_of w2, hr, hok, hle⟩
  have hc : (Value.agg cs).cells.toList = cs.toList := rfl
  rw [hc] at e1 e2 e3 hlen
  rw [List.drop_zero] at e1
  have s1 := (List.take_append_drop 1 cs.toList).symm
  have s2 := (List.take_append_drop 1 (cs.toList.drop 1)).symm
  have s3 := (List.take_append_drop 1 (cs.toList.drop 2)).symm
  rw [List.drop_drop] at s2 s3
  have s4 : cs.toList.drop (2 + 1) = [] := List.drop_of_length_le (by rw [hlen]; decide)
  rw [s4, e3, List.append_nil] at s3
  rw [e2, show 1 + 1 = 2 from rfl, s3] at s2
  rw [e1, s2] at s1
  unfold cusV
  congr 1
  apply Array.toList_inj.1
  rw [s1]; rfl
set_option maxRecDepth 100000 in
/-- Members that are read. -/
theorem mems_of {H : Type} {enc : TypeId × Value → H} {W : World} {base b0 : Nat} {spare : Nat → Bool} {held : Bool} {r : Reach} {v : Value} {d : DataW H} {p : List MemPlace} (hv : Value.okWide Tryd.prog W r b0 22 v) (h : DataW.Trod enc Tryd.prog W base spare held 22 v d p) :
    ∃ (A : Option Addr) (c : Nat) (ms : List Mem), v = .slice A ms.length c ∧ ReadsMem W A ms.length ms ∧ okMems ms ∧ ms.length ≤ 9223372036854775807 := by
  obtain ⟨a, l, c, rfl⟩ := okWide_slice Tryd.underlying22 hv
  obtain ⟨fuel, hf⟩ := h
  obtain ⟨A, c', ms, e, hr, hok, hle⟩ := mems_of_trod hf
  have hc : (Value.slice a l c).cells.toList = [Value.slice a l c] := rfl
  rw [hc] at e
  simp only [List.cons.injEq, Value.slice.injEq, and_true] at e
  obtain ⟨rfl, rfl, rfl⟩ := e
  exact ⟨a, c, ms, rfl, hr, hok, hle⟩
end Go.Proofs.YtbgijijecipjeaaDoor
