/- Contract of custodian.Digest. -/
import Derived.Test.YtbgijijecipjeaaDoorEnc
namespace Go.Proofs.YtbgijijecipjeaaDoor
open Go.RowKit Go.IntWalk Go.Proofs.YtbgijijecipjeaaDoorW.PrintWords

set_option maxRecDepth 100000 in
set_option maxHeartbeats 4000000 in
theorem dig_any (ep need : Int) (A : Option Addr) (c : Nat) (ms : List Mem) (w : World) (hT : TabK w) (hr : ReadsMem w A ms.length ms) (h1 : in64 ep) (h2 : in64 need) (h3 : ∀ m ∈ ms, in64 m.ht) (hn : memsLen ms ≤ 17592186044416) :
    Calls Tryd.prog 20 #[cusV ep need A ms.length c] w fun e w' => e = .returned (.agg (Lib.byteCells (hOf 12 [cusW ep need ms])).toArray) ∧ Below w.heap.size w w' := by
  have HR := Lib.hid hr
  have H3 := Lib.hid h3
  clear hr h3
  obtain ⟨ec, hec⟩ : ∃ ec, ec = cusW ep need ms := ⟨_, rfl⟩
  have hel : ec.length ≤ 36 + memsLen ms := by
    have e1 := wInt_length_le (([ep, need, (ms.length : Int)] : List Int).length : Int)
    have e2 := wMany_length_le [ep, need, (ms.length : Int)]
    have e3 := memsW_length_le ms (fun m hm => by
      obtain ⟨j, hj⟩ := List.getElem?_of_mem hm
      exact (HR.out.2 j m hj).1)
    rw [hec, cusW, List.length_append, wInts, List.length_append]
    simp only [List.length_cons, List.length_nil] at e1 e2 ⊢
    omega
  have henc := fun W hW => enc_any ep need A c ms W hW h1 h2 H3.out hn
  rw [← hec] at henc ⊢
  have HENC := Lib.hid henc
  clear hec henc
  unfold cusV at HENC ⊢
  go_enter Tryd.func20, Tryd.ntmps20
  go_wp2_with fail
  refine (HENC.out _ (HR.out.below (((Below.refl _ _).alloc (Nat.le_refl _) _).alloc (by simp) _))).mono ?_
  rintro e w1 ⟨rfl, hB1⟩
  have hb1 : Below w.heap.size w w1 := by (repeat (first | (with_reducible assumption) | (with_reducible exact Below.refl _ _) | (with_reducible refine bl_alloc ?_ _) | (with_reducible refine bl_drew ?_) | (with_reducible refine bl_drewN ?_ _) | (with_reducible refine bl_then (by assumption) ?_)))
  have hr1 : row? w1 (w.heap.size + 1) = some (Lib.byteCells (List.replicate 16 0)).toArray := by
    rw [row_below hB1 _ (by simp)]
    exact row_of (heap_alloc2_new _ _ _)
  have hl1 := row_lt hr1
  go_wp2_with fail
  have hst : ReadsStr (w1.alloc (Obj.cells #[Value.string { data := ec.toArray }] 9)) (some ⟨w1.heap.size, 0, none⟩) ([(⟨ec.toArray⟩ : ByteArray)] : List ByteArray).length [(⟨ec.toArray⟩ : ByteArray)] := by
    refine ⟨rfl, fun _ => ⟨_, rfl, fun j hj => ?_⟩⟩
    obtain rfl : j = 0 := by simp at hj; omega
    rw [add_plain, cell_of_row _ _ _ _ _ _ (heap_alloc_new _ _)]; rfl
  have htx : texts [(⟨ec.toArray⟩ : ByteArray)] = [ec] := by simp [texts]
  refine (of_any 12 (by decide) (some ⟨w1.heap.size, 0, none⟩) 1 [(⟨ec.toArray⟩ : ByteArray)] _ (hT.below (by (repeat (first | (with_reducible assumption) | (with_reducible exact Below.refl _ _) | (with_reducible refine bl_alloc ?_ _) | (with_reducible refine bl_drew ?_) | (with_reducible refine bl_drewN ?_ _) | (with_reducible refine bl_then (by assumption) ?_))))) hst (by simp) (by rw [htx]; simp [partsLen]; omega)).mono ?_
  rintro e w2 ⟨rfl, hB2⟩
  rw [htx]
  have hb2 : Below w.heap.size w w2 := by (repeat (first | (with_reducible assumption) | (with_reducible exact Below.refl _ _) | (with_reducible refine bl_alloc ?_ _) | (with_reducible refine bl_drew ?_) | (with_reducible refine bl_drewN ?_ _) | (with_reducible refine bl_then (by assumption) ?_)))
  have hr2 : row? w2 (w.heap.size + 1) = some (Lib.byteCells (List.replicate 16 0)).toArray := by
    rw [row_below hB2 _ (by rw [szA]; omega), row_alloc_lt _ _ _ hl1]; exact hr1
  have h16 : (Lib.byteCells (hOf 12 [ec])).length = 16 := by rw [Lib.byteCells, List.length_map]; exact hOf_length 12 [ec]
  have hone2 : oneAll (Lib.byteCells (hOf 12 [ec])).toArray = true := by simp [oneAll, Lib.byteCells, Value.oneCell']
  have hts := storeRowK_some Tryd.prog 36 16 (w.heap.size + 1) (Lib.byteCells (hOf 12 [ec])).toArray w2 (Lib.byteCells (List.replicate 16 0)).toArray (by simp [Lib.byteCells]) (by simpa using h16) hone2
  have hrf : row? (w2.setRow (w.heap.size + 1) (Lib.byteCells (hOf 12 [ec])).toArray) (w.heap.size + 1) = some (Lib.byteCells (hOf 12 [ec])).toArray := by
    rw [row_setRow, if_pos rfl, hr2]; rfl
  rw [show (List.replicate 16 (0 : UInt8)) = [0, 0, 0, 0, 0, 0, 0, 0, 0, 0, 0, 0, 0, 0, 0, 0] from rfl] at hts
  have HH16 := Lib.hid h16
  have HRF := Lib.hid hrf
  clear hrf
  go_wp2_with fail
  obtain ⟨tf, hhf⟩ := row_heap HRF.out
  refine bodyPost_ret (v := .agg (Lib.byteCells (hOf 12 [ec])).toArray) (results_cell_row rfl _ _ (w.heap.size + 1) tf _ (0, 0) _ rfl hhf Tryd.underlying36 rfl (by rw [List.size_toArray, HH16.out]; kernel_rfl)) rfl ⟨rfl, ?_⟩
  exact below_setRow hb2 (by omega) _
end Go.Proofs.YtbgijijecipjeaaDoor
