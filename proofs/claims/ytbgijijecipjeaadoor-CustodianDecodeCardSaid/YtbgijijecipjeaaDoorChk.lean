/- Contract of custodian.Check where no signature is decoded. -/
import Derived.Test.YtbgijijecipjeaaDoorVer2
import Derived.Test.YtbgijijecipjeaaDoorRepl
namespace Go.Proofs.YtbgijijecipjeaaDoor
open Go.RowKit Go.IntWalk Go.Proofs.YtbgijijecipjeaaDoorW.PrintWords

set_option maxRecDepth 100000 in
set_option maxHeartbeats 4000000 in
theorem check_none (ep need : Int) (A : Option Addr) (c n : Nat) (i : Int) (st sg : ByteArray) (w : World) (hi : i < 0 ∨ (n : Int) ≤ i) :
    Calls Tryd.prog 22 #[cusV ep need A n c, .int .i64 i, .string st, .string sg] w fun e w' => e = .returned (.tuple #[.int .i64 0, .int .i64 11]) ∧ Below w.heap.size w w' := by
  unfold cusV
  rcases (show i < 0 ∨ (0 ≤ i ∧ (n : Int) ≤ i) by omega) with h1 | ⟨h1, h2⟩
  all_goals
    clear hi
    go_enter Tryd.func22, Tryd.ntmps22
    go_wp2_with fail
    go_ret2
    exact ⟨rfl, by (repeat (first | (with_reducible assumption) | (with_reducible exact Below.refl _ _) | (with_reducible refine bl_alloc ?_ _) | (with_reducible refine bl_drew ?_) | (with_reducible refine bl_drewN ?_ _) | (with_reducible refine bl_then (by assumption) ?_)))⟩

set_option maxRecDepth 100000 in
set_option maxHeartbeats 4000000 in
theorem check_err (ep need : Int) (A : Option Addr) (c : Nat) (ms : List Mem) (i : Nat) (m : Mem) (st sg : ByteArray) (w : World) (hr : ReadsMem w A ms.length ms) (hm : ms[i]? = some m) (_hn : ms.length ≤ 1099511627776) (h1 : 0 ≤ m.ht ∧ m.ht ≤ 6) (hst : st.size ≤ 1048576) (hs : sg.size ≤ 1099511627776) (herr : vE3 sg.data.toList ≠ 0) :
    Calls Tryd.prog 22 #[cusV ep need A ms.length c, .int .i64 (i : Int), .string st, .string sg] w fun e w' => e = .returned (.tuple #[.int .i64 0, .int .i64 (vE3 sg.data.toList)]) ∧ Below w.heap.size w w' := by
  have hlt : i < ms.length := (List.getElem?_eq_some_iff.1 hm).1
  obtain ⟨hp16, ad, rfl, hcell⟩ := hr.2 i m hm
  obtain ⟨w0, hw0⟩ : ∃ w0, w0 = w.alloc (Obj.cells #[Value.int IntKind.i64 ep, Value.int IntKind.i64 need, Value.slice (some ad) ms.length c] 24) := ⟨_, rfl⟩
  have hcl : ∀ k v, (memRow m)[k]? = some v → w0.cell? ((ad.add (i * 18)).add k) = some v := fun k v hv => by rw [← add_add', hw0]; exact cell_keep_alloc (hcell k v hv) _
  have hB0 : Below w.heap.size w w0 := by rw [hw0]; (repeat (first | (with_reducible assumption) | (with_reducible exact Below.refl _ _) | (with_reducible refine bl_alloc ?_ _) | (with_reducible refine bl_drew ?_) | (with_reducible refine bl_drewN ?_ _) | (with_reducible refine bl_then (by assumption) ?_)))
  have hbx : w0.heap[w.heap.size]? = some (.cells #[Value.int IntKind.i64 ep, Value.int IntKind.i64 need, Value.slice (some ad) ms.length c] 24 (0, 0)) := by rw [hw0]; exact heap_alloc_new _ _
  have hx2 : w0.cell? ⟨w.heap.size, 2, none⟩ = some (.slice (some ad) ms.length c) := by rw [cell_of_row _ _ _ _ _ _ hbx]; rfl
  have hml18 := memRow_length m hp16
  have h47 : (Tryd.prog.info? 47).map (·.size) = some (memRow m).length := by rw [hml18]; kernel_rfl
  have i1 : ¬ (i : Int) < 0 := by omega
  have i2 : ¬ (ms.length : Int) ≤ (i : Int) := by omega
  have i3 : (i : Int) < (ms.length : Int) := by omega
  have HCL := Lib.hid hcl
  have HB0 := Lib.hid hB0
  have HV := Lib.hid (fun W => verify_err m.pub m.ht st sg W hst hs h1 herr)
  unfold cusV
  obtain ⟨ve, hve⟩ : ∃ ve, ve = vE3 sg.data.toList := ⟨_, rfl⟩
  rw [← hve] at HV ⊢
  clear hr hcell hbx hcl hB0 herr hve hm h1
  go_enter Tryd.func22, Tryd.ntmps22
  go_upto_region 3 with fail
  rw [← hw0]
  clear hw0
  go_upto_region 4 with (first
    | ((with_reducible show wpList _ _ _ (⟨some 24, _, _, _, _, _⟩ :: _) _ _); go_must (refine wpList_load_at rfl 47 (.tmp 23) rfl (ad.add (i * 18)) rfl (memRow m) _ HCL.out Tryd.underlying47 rfl h47 ?_))
    | ((with_reducible show wpList _ _ _ (⟨none, .store 47 _ _, _, _, _, _⟩ :: _) _ _); go_must (refine wpList_store_row rfl 47 (.tmp 10) (.tmp 24) rfl w0.heap.size _ rfl rfl 47 _ (heap_alloc_new _ _) (by rw [List.size_toArray]; exact h47) (by rw [List.size_toArray, List.size_toArray, hml18]; rfl) (memRow_one m) ?_)))
  rw [setRow_alloc_new']
  simp only [Act.put]
  obtain ⟨w2, hw2⟩ : ∃ w2, w2 = w0.alloc (.cells (memRow m).toArray 47) := ⟨_, rfl⟩
  have hg2 : w2.heap[w0.heap.size]? = some (.cells (memRow m).toArray 47 (0, 0)) := by rw [hw2]; exact heap_alloc_new _ _
  have hB2 : Below w.heap.size w w2 := by rw [hw2]; exact HB0.out.alloc HB0.out.size _
  rw [← hw2]
  clear hw2
  obtain ⟨q, hq⟩ : ∃ q, q = w0.heap.size := ⟨_, rfl⟩
  rw [← hq] at hg2 ⊢
  clear hq
  have hc17 : w2.cell? ⟨q, 17, none⟩ = some (.int .i64 m.ht) := by
    rw [cell_of_row _ _ _ _ _ _ hg2, List.getElem?_toArray, memRow, List.getElem?_cons_succ, List.getElem?_append_right (by rw [Lib.byteCells_length, hp16]; decide), Lib.byteCells_length, hp16]; rfl
  have hrp : w2.rangeAt q 1 (Lib.byteCells m.pub) := by
    intro j v hv
    have hj : j < 16 := by have := (List.getElem?_eq_some_iff.1 hv).1; rw [Lib.byteCells_length, hp16] at this; exact this
    rw [cell_of_row _ _ _ _ _ _ hg2, List.getElem?_toArray, memRow, Nat.add_comm 1 j, List.getElem?_cons_succ, List.getElem?_append_left (by rw [Lib.byteCells_length, hp16]; exact hj)]
    exact hv
  have hl16 : (Tryd.prog.info? 36).map (·.size) = some (Lib.byteCells m.pub).length := by rw [Lib.byteCells_length, hp16]; kernel_rfl
  have HRP := Lib.hid hrp
  have HB2 := Lib.hid hB2
  clear hrp hg2 hB2 hx2
  go_wp2_with ((with_reducible show wpList _ _ _ (⟨some 26, _, _, _, _, _⟩ :: _) _ _); go_must (refine wpList_load_mid rfl 36 (.tmp 25) rfl q 1 rfl _ _ HRP.out Tryd.underlying36 rfl hl16 ?_))
  refine (HV.out w2).mono ?_
  rintro e w3 ⟨rfl, hB3⟩
  go_wp2_with fail
  go_ret2
  exact ⟨rfl, HB2.out.trans (hB3.mono HB2.out.size)⟩
end Go.Proofs.YtbgijijecipjeaaDoor
