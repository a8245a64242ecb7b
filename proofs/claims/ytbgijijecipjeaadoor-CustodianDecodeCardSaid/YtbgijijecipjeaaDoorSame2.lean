/- Contract of custodyref30.Same. -/
import Derived.Test.YtbgijijecipjeaaDoorIdx
namespace Go.Proofs.YtbgijijecipjeaaDoor
open Go.RowKit Go.IntWalk Go.Proofs.YtbgijijecipjeaaDoorW.PrintWords

set_option maxRecDepth 100000 in
set_option maxHeartbeats 4000000 in
theorem same_any (ep need ep' need' : Int) (A B : Option Addr) (c d : Nat) (ms ds : List Mem) (w : World) (hr : ReadsMem w A ms.length ms) (hr' : ReadsMem w B ds.length ds) (h1 : ∀ x ∈ ms, x.name.size ≤ maxLen ∧ in64 x.ht) (h2 : ∀ x ∈ ds, x.name.size ≤ maxLen ∧ in64 x.ht) (hn : ms.length ≤ 1099511627776) (_hm : ds.length ≤ 1099511627776) :
    Calls Tryd.prog 14 #[cusV ep need A ms.length c, cusV ep' need' B ds.length d] w fun e w' => e = .returned (.bool (decide (ep = ep' ∧ need = need' ∧ ms = ds))) ∧ Below w.heap.size w w' := by
  have HR := Lib.hid hr
  have HR' := Lib.hid hr'
  have H1 := Lib.hid h1
  have H2 := Lib.hid h2
  clear hr hr' h1 h2
  unfold cusV
  by_cases h : ep = ep' ∧ need = need' ∧ ms.length = ds.length
  · obtain ⟨rfl, rfl, hl⟩ := h
    have e1 : (ep != ep) = false := by simp
    have e2 : (need != need) = false := by simp
    rw [hl]
    go_enter Tryd.func14, Tryd.ntmps14
    go_wp2_with fail
    obtain ⟨w0, hw0⟩ : ∃ w0, w0 = (w.alloc (Obj.cells #[Value.int IntKind.i64 ep, Value.int IntKind.i64 need, Value.slice A ds.length c] 24)).alloc (Obj.cells #[Value.int IntKind.i64 ep, Value.int IntKind.i64 need, Value.slice B ds.length d] 24) := ⟨_, rfl⟩
    have hg1 : w0.heap[w.heap.size + 1]? = some (.cells #[Value.int IntKind.i64 ep, Value.int IntKind.i64 need, Value.slice B ds.length d] 24 (0, 0)) := by rw [hw0]; exact heap_alloc2_new _ _ _
    have hg0 : w0.heap[w.heap.size]? = some (.cells #[Value.int IntKind.i64 ep, Value.int IntKind.i64 need, Value.slice A ds.length c] 24 (0, 0)) := by rw [hw0]; exact heap_alloc2_old _ _ _
    have hB0 : Below w.heap.size w w0 := by rw [hw0]; (repeat (first | (with_reducible assumption) | (with_reducible exact Below.refl _ _) | (with_reducible refine bl_alloc ?_ _) | (with_reducible refine bl_drew ?_) | (with_reducible refine bl_drewN ?_ _) | (with_reducible refine bl_then (by assumption) ?_)))
    have hz0 : w0.heap.size = w.heap.size + 1 + 1 := by rw [hw0, szA, szA]
    rw [← hw0]
    clear hw0
    go_loopw [5] (fun v5 wr => ∃ i : Nat, i ≤ ms.length ∧ v5 = .int .i64 i ∧ ms.take i = ds.take i ∧ Below w0.heap.size w0 wr) (fun v5 _ => ms.length - (RowKit.intOf v5).toNat)
    case atStart => exact ⟨0, by omega, rfl, by simp, Below.refl _ _⟩
    case round =>
      obtain ⟨i, hi, rfl, htk, hB⟩ := hrel
      have hz := hB.size
      have hx0 : wr.cell? ⟨w.heap.size, 2, none⟩ = some (.slice A ds.length c) := by rw [cell_of_row _ _ _ _ _ _ ((hB.block _ (by omega)).trans hg0)]; rfl
      have hx1 : wr.cell? ⟨w.heap.size + 1, 2, none⟩ = some (.slice B ds.length d) := by rw [cell_of_row _ _ _ _ _ _ ((hB.block _ (by omega)).trans hg1)]; rfl
      have HTK := Lib.hid htk
      clear htk
      by_cases hlt : i < ms.length
      · have d1 : decide ((i : Int) < ds.length) = true := decide_eq_true (by omega)
        obtain ⟨x, hx⟩ : ∃ x, ms[i]? = some x := ⟨_, List.getElem?_eq_getElem hlt⟩
        obtain ⟨y, hy⟩ : ∃ y, ds[i]? = some y := ⟨_, List.getElem?_eq_getElem (by omega)⟩
        obtain ⟨hp, ad, rfl, hc⟩ := (HR.out.below (hB0.trans (hB.mono (by omega)))).2 i x hx
        obtain ⟨hq, bd, rfl, hc'⟩ := (HR'.out.below (hB0.trans (hB.mono (by omega)))).2 i y hy
        have hld : (loadRow 47 (.pointer (some (ad.add (i * 18))))).run Tryd.prog wr.drew = .ok (.agg (memRow x).toArray) wr.drew :=
          run_load_at wr.drew 47 (ad.add (i * 18)) (memRow x) _ (fun k v hv => by rw [← add_add']; exact hc k v hv) Tryd.underlying47 rfl (by rw [memRow_length x hp]; kernel_rfl)
        have hld2 : (loadRow 47 (.pointer (some (bd.add (i * 18))))).run Tryd.prog wr.drew = .ok (.agg (memRow y).toArray) wr.drew :=
          run_load_at wr.drew 47 (bd.add (i * 18)) (memRow y) _ (fun k v hv => by rw [← add_add']; exact hc' k v hv) Tryd.underlying47 rfl (by rw [memRow_length y hq]; kernel_rfl)
        have hX := H1.out x (List.mem_of_getElem? hx)
        have hY := H2.out y (List.mem_of_getElem? hy)
        have HXS := Lib.hid (take_succ_some ms i x hx)
        have HYS := Lib.hid (take_succ_some ds i y hy)
        have HB := Lib.hid hB
        have i0 : (0 : Int) ≤ (i : Int) := by omega
        have i1 : (i : Int) < (ds.length : Int) := by omega
        by_cases hxy : x = y
        · have heq : ∀ W, (Op.equalIn 10000 47 (.agg (memRow x).toArray) (.agg (memRow y).toArray)).run Tryd.prog W = .ok true W := fun W => by
            rw [eq_mem x y W hp hq hX.1 hY.1 hX.2 hY.2, decide_eq_true hxy]
          have HXY := Lib.hid hxy
          clear hx hy hc hc' hB hg0 hg1 hxy
          go_upto_region 6 with fail
          go_region_with (fail)
          all_goals
            go_wp2_with fail
            go_roundw
            case rel => exact ⟨i + 1, by omega, by go_num, by rw [HXS.out, HYS.out, HTK.out, HXY.out], HB.out.drew⟩
            case measure => simp [RowKit.intOf]; omega
        · have heq : ∀ W, (Op.equalIn 10000 47 (.agg (memRow x).toArray) (.agg (memRow y).toArray)).run Tryd.prog W = .ok false W := fun W => by
            rw [eq_mem x y W hp hq hX.1 hY.1 hX.2 hY.2, decide_eq_false hxy]
          have hne : ms ≠ ds := fun e => by
            have h1 := HXS.out
            rw [e, HYS.out, ← HTK.out] at h1
            exact hxy (by have := List.append_cancel_left h1; simpa using this.symm)
          have HNE : Hid (∀ inst : Decidable (ms = ds), @decide _ inst = false) := Lib.hid (fun _ => decide_eq_false hne)
          clear hx hy hc hc' hB hg0 hg1 hxy hne
          go_upto_region 6 with fail
          go_region_with (fail)
          all_goals
            go_wp2_with fail
            go_ret
            exact ⟨by (have h9 := HNE.out); simp at h9; simp [h9], hB0.trans ((HB.out.drew).mono (by omega))⟩
      · have d1 : decide ((i : Int) < ds.length) = false := decide_eq_false (by omega)
        obtain rfl : i = ms.length := by omega
        have heq : ms = ds := by
          have := HTK.out
          rw [List.take_length, hl, List.take_length] at this
          exact this
        have HEQ : Hid (∀ inst : Decidable (ms = ds), @decide _ inst = true) := Lib.hid (fun _ => decide_eq_true heq)
        clear heq
        go_wp2_with fail
        go_ret
        exact ⟨by (have h9 := HEQ.out); simp at h9; simp [h9], hB0.trans (hB.mono (by omega))⟩
  · have hne : ¬ (ep = ep' ∧ need = need' ∧ ms = ds) := fun e => h ⟨e.1, e.2.1, by rw [e.2.2]⟩
    have HNE := Lib.hid (decide_eq_false hne)
    by_cases x1 : ep = ep'
    · have e1 : (ep != ep') = false := by simp [x1]
      by_cases x2 : need = need'
      · have e2 : (need != need') = false := by simp [x2]
        have e3 : ((ms.length : Int) != ds.length) = true := by simp; exact fun e => h ⟨x1, x2, by omega⟩
        clear hne x1 x2 h
        go_enter Tryd.func14, Tryd.ntmps14
        go_wp2_with fail
        go_ret
        exact ⟨by rw [HNE.out]; rfl, by (repeat (first | (with_reducible assumption) | (with_reducible exact Below.refl _ _) | (with_reducible refine bl_alloc ?_ _) | (with_reducible refine bl_drew ?_) | (with_reducible refine bl_drewN ?_ _) | (with_reducible refine bl_then (by assumption) ?_)))⟩
      · have e2 : (need != need') = true := by simp [x2]
        clear hne x1 x2 h
        go_enter Tryd.func14, Tryd.ntmps14
        go_wp2_with fail
        go_ret
        exact ⟨by rw [HNE.out]; rfl, by (repeat (first | (with_reducible assumption) | (with_reducible exact Below.refl _ _) | (with_reducible refine bl_alloc ?_ _) | (with_reducible refine bl_drew ?_) | (with_reducible refine bl_drewN ?_ _) | (with_reducible refine bl_then (by assumption) ?_)))⟩
    · have e1 : (ep != ep') = true := by simp [x1]
      clear hne x1 h
      go_enter Tryd.func14, Tryd.ntmps14
      go_wp2_with fail
      go_ret
      exact ⟨by rw [HNE.out]; rfl, by (repeat (first | (with_reducible assumption) | (with_reducible exact Below.refl _ _) | (with_reducible refine bl_alloc ?_ _) | (with_reducible refine bl_drew ?_) | (with_reducible refine bl_drewN ?_ _) | (with_reducible refine bl_then (by assumption) ?_)))⟩
end Go.Proofs.YtbgijijecipjeaaDoor
