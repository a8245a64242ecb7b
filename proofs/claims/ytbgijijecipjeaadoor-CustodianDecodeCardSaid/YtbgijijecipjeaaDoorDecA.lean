/- Contracts of custodian.reader's methods: done. Contracts of custodian.reader's methods: name, public, height. custodian.reader's methods over a reader's state. -/
import Derived.Test.YtbgijijecipjeaaDoorGet3
import Derived.Test.YtbgijijecipjeaaDoorRepl
namespace Go.Proofs.YtbgijijecipjeaaDoor
open Go.RowKit Go.IntWalk Go.Proofs.YtbgijijecipjeaaDoorW.PrintWords

theorem setRow_same (w : World) (g : Nat) (cs : Array Value) (t : TypeId) (fr : Nat × Nat) (h : w.heap[g]? = some (.cells cs t fr)) : w.setRow g cs = w := by
  unfold World.setRow
  have e : (w.heap.modify g fun | .cells _ elem frozen => .cells cs elem frozen | o => o) = w.heap := by
    apply Array.ext_getElem?
    intro i
    rw [Array.getElem?_modify]
    by_cases hi : g = i
    · subst hi; rw [if_pos rfl, h]; rfl
    · rw [if_neg hi]
  exact (congrArg (fun h => ({ w with heap := h } : World)) e).trans rfl
/-- Where 'xs[m:]' begins. -/
def cutA (A : Option Addr) (c m : Nat) : Option Addr := if c = m then A else A.map (·.add m)
theorem run_cut {P : Program} (t e : TypeId) (kl : IntKind) {i : TypeInfo} (ht : P.underlying t = some (.slice e)) (hi : P.info? e = some i) (hsz : i.size = 1) (A : Option Addr) (n c m : Nat) (hm : m ≤ n) (W : World) :
    (Instr.slice t (.slice A n c) (some (.int kl (m : Int))) none none).run P W = .ok (.slice (cutA A c m) (n - m) (c - m)) W := by
  have hel : P.elem t = e := by simp [Program.elem, ht]
  have hu : P.underlying t = some (.slice (P.elem t)) := by rw [hel]; exact ht
  rw [run_slice_l W t A n c hu kl (m : Int) (Int.natCast_nonneg _) (by omega), hel]
  simp [sizeOf, typeInfo, hi, hsz, sliced, Result.andThen, cutA]
/-- The error after one more step. -/
def errAfter (e0 er : Int) : Int := if e0 = 0 then er else e0

set_option maxRecDepth 100000 in
set_option maxHeartbeats 4000000 in
theorem done_any (R : Nat) (A : Option Addr) (m c n : Nat) (e0 er : Int) (w : World) (hb : w.heap[R]? = some (.cells #[.slice A m c, .int .i64 e0] 68 (0, 0))) (hn : n ≤ m) (_hm : m ≤ 1099511627776) :
    Calls Tryd.prog 44 #[.pointer (some ⟨R, 0, none⟩), .int .i64 (n : Int), .int .i64 er] w fun e w' =>
      e = .returned (.bool (decide (errAfter e0 er = 0))) ∧ (if errAfter e0 er = 0 then w.setRow R #[.slice (cutA A c n) (m - n) (c - n), .int .i64 0] else w.setRow R #[.slice A m c, .int .i64 (errAfter e0 er)]) = w' := by
  obtain ⟨ii, hii, hsz⟩ := infoU8'
  have hsl := fun W => run_cut (P := Tryd.prog) 56 5 .i64 Tryd.underlying56 hii hsz A m c n hn W
  have h0 : w.cell? ⟨R, 0, none⟩ = some (.slice A m c) := by rw [cell_of_row _ _ _ _ _ _ hb]; rfl
  have h1 : w.cell? ⟨R, 1, none⟩ = some (.int .i64 e0) := by rw [cell_of_row _ _ _ _ _ _ hb]; rfl
  have f0 : w.frozen? ⟨R, 0, none⟩ = false := frozen_of_row _ _ _ _ _ hb
  have f1 : w.frozen? ⟨R, 1, none⟩ = false := frozen_of_row _ _ _ _ _ hb
  have HB := Lib.hid hb
  clear hii hsz hb
  by_cases c0 : e0 = 0
  · subst c0
    have hea : errAfter 0 er = er := if_pos rfl
    rw [hea]
    by_cases c1 : er = 0
    · subst c1
      go_enter Tryd.func44, Tryd.ntmps44
      go_wp2_with fail
      go_ret
      refine ⟨rfl, ?_⟩
      rw [setCell_eq_setRow _ _ _ _ _ _ _ HB.out, setCell_eq_setRow _ _ _ _ _ _ _ (setRow_heap _ _ _ _ _ _ HB.out), setRow_setRow]
      rfl
    · have c1' : (er != 0) = true := by simpa using c1
      have C1 := Lib.hid c1
      clear c1
      go_enter Tryd.func44, Tryd.ntmps44
      go_wp2_with fail
      go_ret
      refine ⟨rfl, ?_⟩
      rw [setCell_eq_setRow _ _ _ _ _ _ _ HB.out]
      rfl
  · have c0' : (e0 == 0) = false := by simpa using c0
    have c0'' : (e0 != 0) = true := by simpa using c0
    have hea : errAfter e0 er = e0 := if_neg c0
    rw [hea]
    have C0 := Lib.hid c0
    clear c0
    go_enter Tryd.func44, Tryd.ntmps44
    go_wp2_with fail
    go_ret
    refine ⟨rfl, ?_⟩
    rw [setRow_same _ _ _ _ _ HB.out]
end Go.Proofs.YtbgijijecipjeaaDoor
namespace Go.Proofs.YtbgijijecipjeaaDoor
open Go.RowKit Go.IntWalk Go.Proofs.YtbgijijecipjeaaDoorW.PrintWords

/-- A value is stored whole amid a row. -/
theorem run_storeVar_midrow {P : Program} (w : World) (g o : Nat) (t ty : TypeId) (old cells : Array Value) (hg : w.heap[g]? = some (.cells old t (0, 0))) (hi : (P.info? ty).map (·.size) = some cells.size)
    (ho : o + cells.size ≤ old.size) (h1 : cells.all (·.oneCell') = true) :
    (storeVar ty ⟨g, o, none⟩ (.agg cells)).run P w = .ok () (w.setRow g (old.toList.take o ++ cells.toList ++ old.toList.drop (o + cells.size)).toArray) := by
  have := run_storeCells_at P g o t cells.toList 0 old w hg (by simp; omega) (fun v hv => (Array.all_eq_true_iff_forall_mem.1 h1) v (by simpa using hv))
  rw [Nat.add_zero, Array.length_toList] at this
  cases hq : P.info? ty with
  | none => simp [hq] at hi
  | some i =>
    have hs : cells.size = i.size := by simp [hq] at hi; omega
    rw [hs] at this ⊢
    simp [storeVar, sizeOf, typeInfo, hq, Value.cells, hs, this]
theorem wpList_store_midrow {P : Program} {ops : Array Oper} {rest : List Oper} {op : Oper} {a : Act} {w : World} {Q : Exit → Act → World → Prop} (hgd : op.guard = none) (ty : TypeId) (x y : Operand) (hop : op.op = .store ty x y)
    (g o : Nat) (cells : Array Value) (hx : a.eval x = .pointer (some ⟨g, o, none⟩)) (hy : a.eval y = .agg cells)
    (t : TypeId) (old : Array Value) (hg : w.heap[g]? = some (.cells old t (0, 0))) (hi : (P.info? ty).map (·.size) = some cells.size)
    (ho : o + cells.size ≤ old.size) (h1 : cells.all (·.oneCell') = true)
    (h : wpList P ops Q rest (a.put op.dst undef) (w.setRow g (old.toList.take o ++ cells.toList ++ old.toList.drop (o + cells.size)).toArray)) : wpList P ops Q (op :: rest) a w := by
  refine wpList_plain hgd fun K hK => ?_
  unfold Oper.wp execOp
  simp only [hop, hx, hy, Instr.storeAt, Instr.sureAddr, Sem.run_bind, Sem.run_pure, Result.andThen_ok, run_storeVar_midrow w g o t ty old cells hg hi ho h1]
  exact hK _ _ h

/-- A reader at its place: the box, and what is left to read. -/
structure Rdr (w : World) (R : Nat) (A : Option Addr) (m c : Nat) (e0 : Int) (l : List UInt8) : Prop where
  box : w.heap[R]? = some (.cells #[.slice A m c, .int .i64 e0] 68 (0, 0))
  reads : ReadsInt w .u8 A m (bi l)
  len : l.length = m
  cap : m ≤ c
  few : m ≤ 1099511627776

set_option maxRecDepth 100000 in
set_option maxHeartbeats 4000000 in
theorem name_any (R M o : Nat) (A : Option Addr) (m c : Nat) (e0 : Int) (l : List UInt8) (Y : Array Value) (w : World) (hr : Rdr w R A m c e0 l) (hy : w.heap[M]? = some (.cells Y 47 (0, 0))) (ho : o < Y.size) (hne : M ≠ R) :
    Calls Tryd.prog 45 #[.pointer (some ⟨R, 0, none⟩), .pointer (some ⟨M, o, none⟩)] w fun e w' => e = .returned (.tuple #[]) ∧
      (if errAfter e0 (gBytes l).2.2 = 0 then (w.setRow R #[.slice (cutA A c (gBytes l).2.1) (m - (gBytes l).2.1) (c - (gBytes l).2.1), .int .i64 0]).setRow M (Y.setIfInBounds o (.string ⟨(gBytes l).1.toArray⟩))
        else w.setRow R #[.slice A m c, .int .i64 (errAfter e0 (gBytes l).2.2)]) = w' := by
  obtain ⟨hb, hrd, hlen, hcap, hfew⟩ := hr
  have hG := getBytes_any A c l w (by rw [hlen]; exact hrd) (by omega) (by omega)
  have hle := gBytes_le l
  rw [hlen] at hG hle
  obtain ⟨⟨s, u, er⟩, hg⟩ : ∃ g, g = gBytes l := ⟨_, rfl⟩
  rw [← hg] at hG hle ⊢
  simp only [] at hG hle ⊢
  have hD := done_any R A m c u e0 er w hb hle hfew
  have h0 : w.cell? ⟨R, 0, none⟩ = some (.slice A m c) := by rw [cell_of_row _ _ _ _ _ _ hb]; rfl
  have HG := Lib.hid hG
  have HY := Lib.hid hy
  by_cases c1 : errAfter e0 er = 0
  · rw [if_pos c1] at hD ⊢
    rw [decide_eq_true c1] at hD
    have HD := Lib.hid hD
    clear hg hb hrd hG hD hy c1
    go_enter Tryd.func45, Tryd.ntmps45
    go_wp2_with fail
    refine HG.out.mono ?_
    rintro e w1 ⟨rfl, rfl⟩
    go_wp2_with fail
    refine HD.out.mono ?_
    rintro e w1 ⟨rfl, hw1⟩
    have hy1 : w1.heap[M]? = some (.cells Y 47 (0, 0)) := by rw [← hw1, heap_setRow_ne _ _ _ _ hne]; exact HY.out
    obtain ⟨y0, hy0⟩ : ∃ y0, Y[o]? = some y0 := ⟨_, Array.getElem?_eq_getElem ho⟩
    have hcy : w1.cell? ⟨M, o, none⟩ = some y0 := (cell_of_row _ _ _ _ _ _ hy1).trans hy0
    have hfy : w1.frozen? ⟨M, o, none⟩ = false := frozen_of_row _ _ _ _ _ hy1
    have HY1 := Lib.hid hy1
    have HW1 := Lib.hid hw1
    clear hw1 hy1 hy0
    go_wp2_with fail
    go_end0
    refine ⟨rfl, ?_⟩
    rw [HW1.out, setCell_eq_setRow _ _ _ _ _ _ _ HY1.out]
  · rw [if_neg c1] at hD ⊢
    rw [decide_eq_false c1] at hD
    have HD := Lib.hid hD
    clear hg hb hrd hG hD hy c1
    go_enter Tryd.func45, Tryd.ntmps45
    go_wp2_with fail
    refine HG.out.mono ?_
    rintro e w1 ⟨rfl, rfl⟩
    go_wp2_with fail
    refine HD.out.mono ?_
    rintro e w1 ⟨rfl, hw1⟩
    have HW1 := Lib.hid hw1
    clear hw1
    go_wp2_with fail
    go_end0
    exact ⟨rfl, HW1.out⟩

set_option maxRecDepth 100000 in
set_option maxHeartbeats 4000000 in
theorem height_any (R M o : Nat) (A : Option Addr) (m c : Nat) (e0 : Int) (l : List UInt8) (Y : Array Value) (w : World) (hr : Rdr w R A m c e0 l) (hy : w.heap[M]? = some (.cells Y 47 (0, 0))) (ho : o + 17 < Y.size) (hne : M ≠ R) :
    Calls Tryd.prog 47 #[.pointer (some ⟨R, 0, none⟩), .pointer (some ⟨M, o, none⟩)] w fun e w' => e = .returned (.tuple #[]) ∧
      (if errAfter e0 (gInt l).2.2 = 0 then (w.setRow R #[.slice (cutA A c (gInt l).2.1) (m - (gInt l).2.1) (c - (gInt l).2.1), .int .i64 0]).setRow M (Y.setIfInBounds (o + 17) (.int .i64 (gInt l).1))
        else w.setRow R #[.slice A m c, .int .i64 (errAfter e0 (gInt l).2.2)]) = w' := by
  obtain ⟨hb, hrd, hlen, hcap, hfew⟩ := hr
  have hG := getInt_any A c l w (by rw [hlen]; exact hrd) (by omega) (by omega)
  have hle := gInt_le l
  rw [hlen] at hG hle
  obtain ⟨⟨s, u, er⟩, hg⟩ : ∃ g, g = gInt l := ⟨_, rfl⟩
  rw [← hg] at hG hle ⊢
  simp only [] at hG hle ⊢
  have hD := done_any R A m c u e0 er w hb hle hfew
  have h0 : w.cell? ⟨R, 0, none⟩ = some (.slice A m c) := by rw [cell_of_row _ _ _ _ _ _ hb]; rfl
  have HG := Lib.hid hG
  have HY := Lib.hid hy
  by_cases c1 : errAfter e0 er = 0
  · rw [if_pos c1] at hD ⊢
    rw [decide_eq_true c1] at hD
    have HD := Lib.hid hD
    clear hg hb hrd hG hD hy c1
    go_enter Tryd.func47, Tryd.ntmps47
    go_wp2_with fail
    refine HG.out.mono ?_
    rintro e w1 ⟨rfl, rfl⟩
    go_wp2_with fail
    refine HD.out.mono ?_
    rintro e w1 ⟨rfl, hw1⟩
    have hy1 : w1.heap[M]? = some (.cells Y 47 (0, 0)) := by rw [← hw1, heap_setRow_ne _ _ _ _ hne]; exact HY.out
    obtain ⟨y0, hy0⟩ : ∃ y0, Y[o + 17]? = some y0 := ⟨_, Array.getElem?_eq_getElem ho⟩
    have hcy : w1.cell? ⟨M, o + 17, none⟩ = some y0 := (cell_of_row _ _ _ _ _ _ hy1).trans hy0
    have hfy : w1.frozen? ⟨M, o + 17, none⟩ = false := frozen_of_row _ _ _ _ _ hy1
    have HY1 := Lib.hid hy1
    have HW1 := Lib.hid hw1
    clear hw1 hy1 hy0
    go_wp2_with fail
    go_end0
    refine ⟨rfl, ?_⟩
    rw [HW1.out, setCell_eq_setRow _ _ _ _ _ _ _ HY1.out]
  · rw [if_neg c1] at hD ⊢
    rw [decide_eq_false c1] at hD
    have HD := Lib.hid hD
    clear hg hb hrd hG hD hy c1
    go_enter Tryd.func47, Tryd.ntmps47
    go_wp2_with fail
    refine HG.out.mono ?_
    rintro e w1 ⟨rfl, rfl⟩
    go_wp2_with fail
    refine HD.out.mono ?_
    rintro e w1 ⟨rfl, hw1⟩
    have HW1 := Lib.hid hw1
    clear hw1
    go_wp2_with fail
    go_end0
    exact ⟨rfl, HW1.out⟩

/-- The cells after the public key has been read. -/
def putPub (Y : Array Value) (o : Nat) (d : List UInt8) : Array Value := (Y.toList.take (o + 1) ++ Lib.byteCells d ++ Y.toList.drop (o + 1 + 16)).toArray

set_option maxRecDepth 100000 in
set_option maxHeartbeats 4000000 in
theorem public_any (R M o : Nat) (A : Option Addr) (m c : Nat) (e0 : Int) (l : List UInt8) (Y : Array Value) (w : World) (hr : Rdr w R A m c e0 l) (hy : w.heap[M]? = some (.cells Y 47 (0, 0))) (ho : o + 17 < Y.size) (hne : M ≠ R) :
    Calls Tryd.prog 46 #[.pointer (some ⟨R, 0, none⟩), .pointer (some ⟨M, o, none⟩)] w fun e w' => e = .returned (.tuple #[]) ∧
      (if e0 = 0 ∧ 16 ≤ m then (w.setRow M (putPub Y o (l.take 16))).setRow R #[.slice (cutA A c 16) (m - 16) (c - 16), .int .i64 0]
        else w.setRow R #[.slice A m c, .int .i64 (if e0 = 0 then 5 else e0)]) = w' := by
  obtain ⟨hb, hrd, hlen, hcap, hfew⟩ := hr
  have h0 : w.cell? ⟨R, 0, none⟩ = some (.slice A m c) := by rw [cell_of_row _ _ _ _ _ _ hb]; rfl
  have h1 : w.cell? ⟨R, 1, none⟩ = some (.int .i64 e0) := by rw [cell_of_row _ _ _ _ _ _ hb]; rfl
  have f0 : w.frozen? ⟨R, 0, none⟩ = false := frozen_of_row _ _ _ _ _ hb
  have f1 : w.frozen? ⟨R, 1, none⟩ = false := frozen_of_row _ _ _ _ _ hb
  have HB := Lib.hid hb
  have HRD := Lib.hid hrd
  have HY := Lib.hid hy
  clear hb hrd hy
  by_cases c0 : e0 = 0
  · subst c0
    by_cases c1 : 16 ≤ m
    · rw [if_pos ⟨rfl, c1⟩]
      obtain ⟨ii, hii, hsz⟩ := infoU8'
      have hsl : ∀ W, (Instr.slice 56 (.slice A m c) (some (.int .i64 16)) none none).run Tryd.prog W = .ok (.slice (cutA A c 16) (m - 16) (c - 16)) W := fun W => run_cut (P := Tryd.prog) 56 5 .i64 Tryd.underlying56 hii hsz A m c 16 c1 W
      have hsh : ∀ W, (Instr.slice 56 (.slice A m c) none (some (.int .i64 16)) none).run Tryd.prog W = .ok (.slice A 16 c) W := fun W => cut_h (P := Tryd.prog) 56 5 .i64 Tryd.underlying56 hii hsz A m c 16 c1 hcap W
      have har : ∀ wx, (Instr.arrayAt 36 (.slice A 16 c)).run Tryd.prog wx = .ok (.pointer A) wx := fun wx => run_arrayAt _ _ 16 16 c _ wx Tryd.underlying36 (Nat.le_refl _)
      obtain ⟨ad, rfl, hcell⟩ := HRD.out.2.2 (by omega)
      have hd16 : (l.take 16).length = 16 := by rw [List.length_take]; omega
      have hld : ∀ k v, (Lib.byteCells (l.take 16))[k]? = some v → w.cell? (ad.add k) = some v := fun k v hv => by
        have hk : k < 16 := by have := (List.getElem?_eq_some_iff.1 hv).1; rw [Lib.byteCells_length, hd16] at this; exact this
        rw [hcell k (by omega), ← hv, Lib.byteCells, List.getElem?_map, List.getElem?_take, if_pos hk, List.getElem?_eq_getElem (by omega), List.getD_eq_getElem?_getD, bi, List.getElem?_map, List.getElem?_eq_getElem (by omega)]
        rfl
      have h36 : (Tryd.prog.info? 36).map (·.size) = some (Lib.byteCells (l.take 16)).length := by rw [Lib.byteCells_length, hd16]; kernel_rfl
      have HLD := Lib.hid hld
      have hone : ((Lib.byteCells (l.take 16)).toArray.all fun x => x.oneCell') = true := by
        rw [Array.all_eq_true_iff_forall_mem]
        intro v hv
        exact Lib.byteCells_one _ v (by simpa using hv)
      have HSL := Lib.hid hsl
      clear hii hsz hcell hld hsl
      obtain ⟨bc, hbc⟩ : ∃ bc, bc = Lib.byteCells (l.take 16) := ⟨_, rfl⟩
      have hbl : bc.length = 16 := by rw [hbc, Lib.byteCells_length, hd16]
      rw [← hbc] at HLD h36 hone
      have hpp : putPub Y o (l.take 16) = (Y.toList.take (o + 1) ++ bc ++ Y.toList.drop (o + 1 + 16)).toArray := by rw [putPub, hbc]
      rw [hpp]
      clear hbc hpp
      go_enter Tryd.func46, Tryd.ntmps46
      go_upto_region 4 with (first
        | ((with_reducible show wpList _ _ _ (⟨some 32, _, _, _, _, _⟩ :: _) _ _); go_must (refine wpList_load_at rfl 36 (.tmp 31) rfl ad rfl bc _ HLD.out Tryd.underlying36 rfl h36 ?_))
        | ((with_reducible show wpList _ _ _ (⟨none, .store 36 _ _, _, _, _, _⟩ :: _) _ _); go_must (refine wpList_store_midrow rfl 36 (.tmp 34) (.tmp 32) rfl M (o + 1) bc.toArray rfl rfl 47 Y HY.out (by rw [List.size_toArray]; exact h36) (by rw [List.size_toArray, hbl]; omega) hone ?_)))
      simp only [Act.put, List.size_toArray, hbl]
      obtain ⟨w2, hw2⟩ : ∃ w2, w2 = w.setRow M (Y.toList.take (o + 1) ++ bc ++ Y.toList.drop (o + 1 + 16)).toArray := ⟨_, rfl⟩
      rw [← hw2]
      have hb2 : w2.heap[R]? = some (.cells #[.slice (some ad) m c, .int .i64 0] 68 (0, 0)) := by rw [hw2, heap_setRow_ne _ _ _ _ hne.symm]; exact HB.out
      have g0 : w2.cell? ⟨R, 0, none⟩ = some (.slice (some ad) m c) := by rw [cell_of_row _ _ _ _ _ _ hb2]; rfl
      have g1 : w2.frozen? ⟨R, 0, none⟩ = false := frozen_of_row _ _ _ _ _ hb2
      have HB2 := Lib.hid hb2
      have HW2 := Lib.hid hw2
      have hsl := HSL.out
      clear hw2 hb2 HRD h0 h1 f0 f1 hsh
      go_wp2_with fail
      go_end0
      refine ⟨rfl, ?_⟩
      have hw := HW2.out
      rw [List.append_assoc] at hw
      rw [setCell_eq_setRow _ _ _ _ _ _ _ HB2.out, hw]
      (try rw [List.append_assoc])
      rfl
    · rw [if_neg (fun h => c1 h.2), if_pos rfl]
      have c2 : (m : Int) < 16 := by omega
      go_enter Tryd.func46, Tryd.ntmps46
      go_wp2_with fail
      go_end0
      refine ⟨rfl, ?_⟩
      rw [setCell_eq_setRow _ _ _ _ _ _ _ HB.out]
      rfl
  · rw [if_neg (fun h => c0 h.1), if_neg c0]
    have c0' : (e0 == 0) = false := by simpa using c0
    clear c0
    go_enter Tryd.func46, Tryd.ntmps46
    go_wp2_with fail
    go_end0
    exact ⟨rfl, setRow_same _ _ _ _ _ HB.out⟩
end Go.Proofs.YtbgijijecipjeaaDoor
namespace Go.Proofs.YtbgijijecipjeaaDoor
open Go.RowKit Go.IntWalk Go.Proofs.YtbgijijecipjeaaDoorW.PrintWords

theorem rd_setRow {w : World} {k : IntKind} {A : Option Addr} {n : Nat} {xs : List Int} (h : ReadsInt w k A n xs) (g : Nat) (cs : Array Value) (hne : ∀ ad, A = some ad → ad.block ≠ g) : ReadsInt (w.setRow g cs) k A n xs :=
  ⟨h.1, h.2.1, fun hn => by
    obtain ⟨ad, e, hc⟩ := h.2.2 hn
    exact ⟨ad, e, fun j hj => by rw [cell_setRow_ne _ _ _ _ (by rw [add_block]; exact hne ad e)]; exact hc j hj⟩⟩
theorem cutA_block {A : Option Addr} {c m g : Nat} (h : ∀ ad, A = some ad → ad.block ≠ g) : ∀ ad, cutA A c m = some ad → ad.block ≠ g := by
  intro ad e
  unfold cutA at e
  split at e
  · exact h ad e
  · cases A with
    | none => cases e
    | some a => injection e with e; subst e; rw [add_block]; exact h a rfl
/-- All blocks but two are as they were. -/
structure KeepRM (w w' : World) (R M : Nat) : Prop where
  os : w'.os = w.os
  tape : w'.tape = w.tape
  output : w'.output = w.output
  size : w'.heap.size = w.heap.size
  block : ∀ q, q ≠ R → q ≠ M → w'.heap[q]? = w.heap[q]?
theorem KeepRM.refl (w : World) (R M : Nat) : KeepRM w w R M := ⟨rfl, rfl, rfl, rfl, fun _ _ _ => rfl⟩
theorem KeepRM.trans {w w1 w2 : World} {R M : Nat} (h : KeepRM w w1 R M) (k : KeepRM w1 w2 R M) : KeepRM w w2 R M :=
  ⟨k.os.trans h.os, k.tape.trans h.tape, k.output.trans h.output, k.size.trans h.size, fun q h1 h2 => (k.block q h1 h2).trans (h.block q h1 h2)⟩
theorem setRow_size (w : World) (g : Nat) (cs : Array Value) : (w.setRow g cs).heap.size = w.heap.size := by unfold World.setRow; exact Array.size_modify
theorem KeepRM.setR {w w1 : World} {R M : Nat} (h : KeepRM w w1 R M) (cs : Array Value) : KeepRM w (w1.setRow R cs) R M :=
  ⟨h.os, h.tape, h.output, (setRow_size _ _ _).trans h.size, fun q h1 h2 => (heap_setRow_ne _ _ _ _ h1).trans (h.block q h1 h2)⟩
theorem KeepRM.setM {w w1 : World} {R M : Nat} (h : KeepRM w w1 R M) (cs : Array Value) : KeepRM w (w1.setRow M cs) R M :=
  ⟨h.os, h.tape, h.output, (setRow_size _ _ _).trans h.size, fun q h1 h2 => (heap_setRow_ne _ _ _ _ h2).trans (h.block q h1 h2)⟩
theorem KeepRM.below {w0 w w1 : World} {R M : Nat} (h : KeepRM w w1 R M) (hb : Below w0.heap.size w0 w) (hR : w0.heap.size ≤ R) (hM : w0.heap.size ≤ M) : Below w0.heap.size w0 w1 :=
  hb.trans ⟨h.os, h.tape, h.output, by rw [h.size]; exact Nat.le_refl _, fun q hq => h.block q (by omega) (by omega)⟩

/-- How far the reader has come, the error, the members' cells. -/
structure DS where
  off : Nat
  e : Int
  Y : Array Value
def dName (b : List UInt8) (o : Nat) (s : DS) : DS :=
  if errAfter s.e (gBytes (b.drop s.off)).2.2 = 0 then ⟨s.off + (gBytes (b.drop s.off)).2.1, 0, s.Y.setIfInBounds o (.string ⟨(gBytes (b.drop s.off)).1.toArray⟩)⟩
  else ⟨s.off, errAfter s.e (gBytes (b.drop s.off)).2.2, s.Y⟩
def dPub (b : List UInt8) (o : Nat) (s : DS) : DS :=
  if s.e = 0 ∧ 16 ≤ b.length - s.off then ⟨s.off + 16, 0, putPub s.Y o ((b.drop s.off).take 16)⟩ else ⟨s.off, if s.e = 0 then 5 else s.e, s.Y⟩
def dHt (b : List UInt8) (o : Nat) (s : DS) : DS :=
  if errAfter s.e (gInt (b.drop s.off)).2.2 = 0 then ⟨s.off + (gInt (b.drop s.off)).2.1, 0, s.Y.setIfInBounds (o + 17) (.int .i64 (gInt (b.drop s.off)).1)⟩
  else ⟨s.off, errAfter s.e (gInt (b.drop s.off)).2.2, s.Y⟩
theorem putPub_size (Y : Array Value) (o : Nat) (d : List UInt8) (hd : d.length = 16) (ho : o + 17 < Y.size) : (putPub Y o d).size = Y.size := by
  rw [putPub, List.size_toArray, List.length_append, List.length_append, List.length_take, List.length_drop, Lib.byteCells_length, hd, Array.length_toList]; omega
/-- The state in memory. -/
structure DSt (w : World) (R M : Nat) (b : List UInt8) (s : DS) : Prop where
  rd : ∃ A c, Rdr w R A (b.length - s.off) c s.e (b.drop s.off) ∧ ∀ ad, A = some ad → ad.block ≠ R ∧ ad.block ≠ M
  mem : w.heap[M]? = some (.cells s.Y 47 (0, 0))
  le : s.off ≤ b.length
  ne : M ≠ R

theorem bi_len_drop (b : List UInt8) (n : Nat) : (b.drop n).length = b.length - n := List.length_drop
theorem Rdr.cut {w w' : World} {R : Nat} {A : Option Addr} {m c n : Nat} {e0 : Int} {l : List UInt8} (h : Rdr w R A m c e0 l) (hn : n ≤ m) (hb : w'.heap[R]? = some (.cells #[.slice (cutA A c n) (m - n) (c - n), .int .i64 0] 68 (0, 0)))
    (hr : ∀ k xs, ReadsInt w k (cutA A c n) (m - n) xs → ReadsInt w' k (cutA A c n) (m - n) xs) : Rdr w' R (cutA A c n) (m - n) (c - n) 0 (l.drop n) := by
  refine ⟨hb, hr _ _ ?_, by rw [List.length_drop, h.len], by have := h.cap; omega, by have := h.few; omega⟩
  have := h.reads.drop_ n hn h.cap
  rwa [bi_drop] at this

theorem DSt.errored {w : World} {R M : Nat} {b : List UInt8} {s : DS} (h : DSt w R M b s) (A : Option Addr) (c : Nat) (hr : Rdr w R A (b.length - s.off) c s.e (b.drop s.off)) (hA : ∀ ad, A = some ad → ad.block ≠ R ∧ ad.block ≠ M) (e : Int) :
    DSt (w.setRow R #[.slice A (b.length - s.off) c, .int .i64 e]) R M b ⟨s.off, e, s.Y⟩ :=
  ⟨⟨A, c, ⟨setRow_heap _ _ _ _ _ _ hr.box, rd_setRow hr.reads _ _ (fun ad e => (hA ad e).1), hr.len, hr.cap, hr.few⟩, hA⟩, (heap_setRow_ne _ _ _ _ h.ne).trans h.mem, h.le, h.ne⟩

theorem name_st (R M o : Nat) (b : List UInt8) (s : DS) (w : World) (h : DSt w R M b s) (ho : o < s.Y.size) :
    Calls Tryd.prog 45 #[.pointer (some ⟨R, 0, none⟩), .pointer (some ⟨M, o, none⟩)] w fun e w' => e = .returned (.tuple #[]) ∧ DSt w' R M b (dName b o s) ∧ KeepRM w w' R M := by
  obtain ⟨A, c, hr, hA⟩ := h.rd
  refine (name_any R M o A (b.length - s.off) c s.e (b.drop s.off) s.Y w hr h.mem ho h.ne).mono ?_
  rintro e w' ⟨rfl, hw⟩
  refine ⟨rfl, ?_⟩
  have hle := gBytes_le (b.drop s.off)
  rw [bi_len_drop] at hle
  have hso := h.le
  unfold dName
  split at hw
  · rename_i c1
    rw [if_pos c1]
    subst hw
    refine ⟨⟨⟨cutA A c (gBytes (b.drop s.off)).2.1, c - (gBytes (b.drop s.off)).2.1, ?_, fun ad e => ⟨cutA_block (fun ad e => (hA ad e).1) ad e, cutA_block (fun ad e => (hA ad e).2) ad e⟩⟩, setRow_heap _ _ _ _ _ _ ((heap_setRow_ne _ _ _ _ h.ne).trans h.mem), by dsimp only; omega, h.ne⟩, ((KeepRM.refl _ _ _).setR _).setM _⟩
    dsimp only
    have := hr.cut (w' := (w.setRow R #[.slice (cutA A c (gBytes (b.drop s.off)).2.1) (b.length - s.off - (gBytes (b.drop s.off)).2.1) (c - (gBytes (b.drop s.off)).2.1), .int .i64 0]).setRow M (s.Y.setIfInBounds o (.string ⟨(gBytes (b.drop s.off)).1.toArray⟩))) hle
      ((heap_setRow_ne _ _ _ _ h.ne.symm).trans (setRow_heap _ _ _ _ _ _ hr.box))
      (fun k xs hx => rd_setRow (rd_setRow hx _ _ (cutA_block fun ad e => (hA ad e).1)) _ _ (cutA_block fun ad e => (hA ad e).2))
    rw [List.drop_drop] at this
    rw [← Nat.sub_sub]
    exact this
  · rename_i c1
    rw [if_neg c1]
    subst hw
    exact ⟨h.errored A c hr hA _, (KeepRM.refl _ _ _).setR _⟩
theorem height_st (R M o : Nat) (b : List UInt8) (s : DS) (w : World) (h : DSt w R M b s) (ho : o + 17 < s.Y.size) :
    Calls Tryd.prog 47 #[.pointer (some ⟨R, 0, none⟩), .pointer (some ⟨M, o, none⟩)] w fun e w' => e = .returned (.tuple #[]) ∧ DSt w' R M b (dHt b o s) ∧ KeepRM w w' R M := by
  obtain ⟨A, c, hr, hA⟩ := h.rd
  refine (height_any R M o A (b.length - s.off) c s.e (b.drop s.off) s.Y w hr h.mem ho h.ne).mono ?_
  rintro e w' ⟨rfl, hw⟩
  refine ⟨rfl, ?_⟩
  have hle := gInt_le (b.drop s.off)
  rw [bi_len_drop] at hle
  have hso := h.le
  unfold dHt
  split at hw
  · rename_i c1
    rw [if_pos c1]
    subst hw
    refine ⟨⟨⟨cutA A c (gInt (b.drop s.off)).2.1, c - (gInt (b.drop s.off)).2.1, ?_, fun ad e => ⟨cutA_block (fun ad e => (hA ad e).1) ad e, cutA_block (fun ad e => (hA ad e).2) ad e⟩⟩, setRow_heap _ _ _ _ _ _ ((heap_setRow_ne _ _ _ _ h.ne).trans h.mem), by dsimp only; omega, h.ne⟩, ((KeepRM.refl _ _ _).setR _).setM _⟩
    dsimp only
    have := hr.cut (w' := (w.setRow R #[.slice (cutA A c (gInt (b.drop s.off)).2.1) (b.length - s.off - (gInt (b.drop s.off)).2.1) (c - (gInt (b.drop s.off)).2.1), .int .i64 0]).setRow M (s.Y.setIfInBounds (o + 17) (.int .i64 (gInt (b.drop s.off)).1))) hle
      ((heap_setRow_ne _ _ _ _ h.ne.symm).trans (setRow_heap _ _ _ _ _ _ hr.box))
      (fun k xs hx => rd_setRow (rd_setRow hx _ _ (cutA_block fun ad e => (hA ad e).1)) _ _ (cutA_block fun ad e => (hA ad e).2))
    rw [List.drop_drop] at this
    rw [← Nat.sub_sub]
    exact this
  · rename_i c1
    rw [if_neg c1]
    subst hw
    exact ⟨h.errored A c hr hA _, (KeepRM.refl _ _ _).setR _⟩
theorem public_st (R M o : Nat) (b : List UInt8) (s : DS) (w : World) (h : DSt w R M b s) (ho : o + 17 < s.Y.size) :
    Calls Tryd.prog 46 #[.pointer (some ⟨R, 0, none⟩), .pointer (some ⟨M, o, none⟩)] w fun e w' => e = .returned (.tuple #[]) ∧ DSt w' R M b (dPub b o s) ∧ KeepRM w w' R M := by
  obtain ⟨A, c, hr, hA⟩ := h.rd
  refine (public_any R M o A (b.length - s.off) c s.e (b.drop s.off) s.Y w hr h.mem ho h.ne).mono ?_
  rintro e w' ⟨rfl, hw⟩
  refine ⟨rfl, ?_⟩
  have hso := h.le
  unfold dPub
  split at hw
  · rename_i c1
    rw [if_pos c1]
    subst hw
    refine ⟨⟨⟨cutA A c 16, c - 16, ?_, fun ad e => ⟨cutA_block (fun ad e => (hA ad e).1) ad e, cutA_block (fun ad e => (hA ad e).2) ad e⟩⟩, (heap_setRow_ne _ _ _ _ h.ne).trans (setRow_heap _ _ _ _ _ _ h.mem), by dsimp only; omega, h.ne⟩, ((KeepRM.refl _ _ _).setM _).setR _⟩
    dsimp only
    have := hr.cut (w' := (w.setRow M (putPub s.Y o ((b.drop s.off).take 16))).setRow R #[.slice (cutA A c 16) (b.length - s.off - 16) (c - 16), .int .i64 0]) c1.2
      (setRow_heap _ _ _ _ _ _ ((heap_setRow_ne _ _ _ _ h.ne.symm).trans hr.box))
      (fun k xs hx => rd_setRow (rd_setRow hx _ _ (cutA_block fun ad e => (hA ad e).2)) _ _ (cutA_block fun ad e => (hA ad e).1))
    rw [List.drop_drop] at this
    rw [← Nat.sub_sub]
    exact this
  · rename_i c1
    rw [if_neg c1]
    subst hw
    exact ⟨h.errored A c hr hA _, (KeepRM.refl _ _ _).setR _⟩
end Go.Proofs.YtbgijijecipjeaaDoor
