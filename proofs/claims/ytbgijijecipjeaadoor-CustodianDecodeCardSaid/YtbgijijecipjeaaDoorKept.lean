/- Contract of custodian.Kept. -/
import Derived.Test.YtbgijijecipjeaaDoorIdx
namespace Go.Proofs.YtbgijijecipjeaaDoor
open Go.RowKit Go.IntWalk Go.Proofs.YtbgijijecipjeaaDoorW.PrintWords

theorem infoI64 : (Tryd.prog.info? 3).map (fun i => (i.zero, i.size, i.bytes)) = some (some (.int .i64 0), 1, 8) := by kernel_rfl
def keptL (ms ds : List Mem) : List Int := ms.map fun m => idxM m ds 0
def okMems (ms : List Mem) : Prop := ∀ x ∈ ms, x.name.size ≤ maxLen ∧ in64 x.ht

set_option maxRecDepth 100000 in
set_option maxHeartbeats 4000000 in
theorem kept_any (ep need ep' need' : Int) (A B : Option Addr) (c d : Nat) (ms ds : List Mem) (w : World) (hr : ReadsMem w A ms.length ms) (hr' : ReadsMem w B ds.length ds) (h1 : okMems ms) (h2 : okMems ds) (hn : ms.length ≤ 1099511627776) (hm : ds.length ≤ 1099511627776) :
    Calls Tryd.prog 16 #[cusV ep need A ms.length c, cusV ep' need' B ds.length d] w fun e w' => ∃ v, e = .returned v ∧ w'.ownsRow w.heap.size 3 1 v (keptL ms ds).length (nums .i64 (keptL ms ds)) ∧ Below w.heap.size w w' := by
  have HR := Lib.hid hr
  have HR' := Lib.hid hr'
  have H1 := Lib.hid h1
  have H2 := Lib.hid h2
  clear hr hr' h1 h2
  unfold cusV
  go_enter Tryd.func16, Tryd.ntmps16
  go_wp2_with fail
  obtain ⟨w0, hw0⟩ : ∃ w0, w0 = (w.alloc (Obj.cells #[Value.int IntKind.i64 ep, Value.int IntKind.i64 need, Value.slice A ms.length c] 24)).alloc (Obj.cells #[Value.int IntKind.i64 ep', Value.int IntKind.i64 need', Value.slice B ds.length d] 24) := ⟨_, rfl⟩
  have hg1 : w0.heap[w.heap.size + 1]? = some (.cells #[Value.int IntKind.i64 ep', Value.int IntKind.i64 need', Value.slice B ds.length d] 24 (0, 0)) := by rw [hw0]; exact heap_alloc2_new _ _ _
  have hB0 : Below w.heap.size w w0 := by rw [hw0]; (repeat (first | (with_reducible assumption) | (with_reducible exact Below.refl _ _) | (with_reducible refine bl_alloc ?_ _) | (with_reducible refine bl_drew ?_) | (with_reducible refine bl_drewN ?_ _) | (with_reducible refine bl_then (by assumption) ?_)))
  have hz0 : w0.heap.size = w.heap.size + 1 + 1 := by rw [hw0, szA, szA]
  rw [← hw0]
  clear hw0
  have HN0 := Lib.hid (own_nil w0 w0.heap.size 3 1)
  go_loopw [4, 10] (fun v4 v10 wr => ∃ i : Nat, i ≤ ms.length ∧ v10 = .int .i64 i ∧ Below w0.heap.size w0 wr ∧ wr.ownsRow w0.heap.size 3 1 v4 (keptL (ms.take i) ds).length (nums .i64 (keptL (ms.take i) ds))) (fun _ v10 _ => ms.length - (RowKit.intOf v10).toNat)
  case atStart => exact ⟨0, by omega, rfl, Below.refl _ _, HN0.out⟩
  case round =>
    obtain ⟨i, hi, rfl, hB, hown⟩ := hrel
    have hz := hB.size
    have hkl : (keptL (ms.take i) ds).length = i := by simp [keptL]; omega
    by_cases hlt : i < ms.length
    · have d1 : decide ((i : Int) < ms.length) = true := decide_eq_true (by omega)
      obtain ⟨m, hm'⟩ : ∃ m, ms[i]? = some m := ⟨_, List.getElem?_eq_getElem hlt⟩
      obtain ⟨hp16, ad, rfl, hcell⟩ := (HR.out.below (hB0.trans (hB.mono (by omega)))).2 i m hm'
      have hcl : ∀ k v, (memRow m)[k]? = some v → wr.cell? ((ad.add (i * 18)).add k) = some v := fun k v hv => by rw [← add_add']; exact hcell k v hv
      have hml18 := memRow_length m hp16
      have h47 : (Tryd.prog.info? 47).map (·.size) = some (memRow m).length := by rw [hml18]; kernel_rfl
      have hmo := H1.out m (List.mem_of_getElem? hm')
      have hrd := HR'.out.below (hB0.trans (hB.mono (by omega)))
      have hgb := (hB.block _ (show w.heap.size + 1 < w0.heap.size by omega)).trans hg1
      have hbx : wr.cell? ⟨w.heap.size + 1, 2, none⟩ = some (.slice B ds.length d) := by rw [cell_of_row _ _ _ _ _ _ hgb]; rfl
      have hks : keptL (ms.take (i + 1)) ds = keptL (ms.take i) ds ++ [idxM m ds 0] := by rw [take_succ_some ms i m hm', keptL, List.map_append]; rfl
      have HKS := Lib.hid hks
      have HOWN := Lib.hid hown
      have HB := Lib.hid hB
      have HCL := Lib.hid hcl
      have HRD := Lib.hid hrd
      have hbl := Nat.lt_of_lt_of_le (show w.heap.size + 1 < w0.heap.size by omega) hz
      clear hown hB hcl hm' hcell hrd hgb hks hg1
      go_upto_region 4 with (first
        | ((with_reducible show wpList _ _ _ (⟨some 13, _, _, _, _, _⟩ :: _) _ _); go_must (refine wpList_load_at rfl 47 (.tmp 12) rfl (ad.add (i * 18)) rfl (memRow m) _ HCL.out Tryd.underlying47 rfl h47 ?_))
        | ((with_reducible show wpList _ _ _ (⟨none, .store 47 _ _, _, _, _, _⟩ :: _) _ _); go_must (refine wpList_store_row rfl 47 (.tmp 6) (.tmp 13) rfl wr.heap.size _ rfl rfl 47 _ (heap_alloc_new _ _) (by rw [List.size_toArray]; exact h47) (by rw [List.size_toArray, List.size_toArray, hml18]; rfl) (memRow_one m) ?_)))
      rw [setRow_alloc_new']
      simp only [Act.put]
      have hrow : row? (wr.alloc (.cells (memRow m).toArray 47)) wr.heap.size = some (memRow m).toArray := row_of (heap_alloc_new _ _)
      have hbx2 : (wr.alloc (.cells (memRow m).toArray 47)).cell? ⟨w.heap.size + 1, 2, none⟩ = some (.slice B ds.length d) := cell_keep_alloc hbx _
      obtain ⟨w2, hw2⟩ : ∃ w2, w2 = wr.alloc (.cells (memRow m).toArray 47) := ⟨_, rfl⟩
      have hB2 : Below wr.heap.size wr w2 := by rw [hw2]; exact (Below.refl _ _).alloc (Nat.le_refl _) _
      rw [← hw2] at hrow hbx2 ⊢
      clear hw2
      have hz2 := hB2.size
      go_wp2_with fail
      refine (idx_any B d ds m w2 (HRD.out.below hB2) hp16 H2.out hmo.1 hmo.2 hm).mono ?_
      rintro e w3 ⟨rfl, hB3⟩
      have hz3 := hB3.size
      have HO3 := Lib.hid (pw_own_below (pw_own_below HOWN.out hB2) hB3)
      have HB3 := Lib.hid (HB.out.trans ((hB2.mono hz).trans (hB3.mono (by omega))))
      clear hbx hbx2 hrow hB2 hB3
      go_wp2_with (at_builtin; go_must (refine print_append_num (w0 := w0) (w0.heap.size) rfl (.tmp 14) (.tmp 19) 32 3 .i64 8 rfl Tryd.underlying32 infoI64 (by decide) _ (keptL (ms.take i) ds) _ rfl rfl HO3.out HB3.out (by omega) (by rw [hkl]; omega) ?_); intro v4 w4 hown4 hB4 hg4 hat4)
      rw [← HKS.out] at hown4
      have HO4 := Lib.hid hown4
      clear hown4
      go_roundw
      case rel => exact ⟨i + 1, by omega, by go_num, hB4, HO4.out⟩
      case measure => simp [RowKit.intOf]; omega
    · have d1 : decide ((i : Int) < ms.length) = false := decide_eq_false (by omega)
      obtain rfl : i = ms.length := by omega
      go_wp2_with fail
      go_ret
      refine ⟨_, rfl, ?_, hB0.trans (hB.mono (by omega))⟩
      rw [List.take_length] at hown
      exact own_mono hown (by omega)
end Go.Proofs.YtbgijijecipjeaaDoor
