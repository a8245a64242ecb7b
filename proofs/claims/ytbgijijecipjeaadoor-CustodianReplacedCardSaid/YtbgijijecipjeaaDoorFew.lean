/- Contract of custodylaw30.few. -/
import Derived.Test.YtbgijijecipjeaaDoorIdx
namespace Go.Proofs.YtbgijijecipjeaaDoor
open Go.RowKit Go.IntWalk Go.Proofs.YtbgijijecipjeaaDoorW.PrintWords

/-- Few enough and short enough. -/
def fewB (ms : List Mem) : Bool := ms.all (fun m => decide (m.name.size ≤ 50)) && decide (ms.length ≤ 20)

theorem few_len {ms : List Mem} (h : fewB ms = true) : ms.length ≤ 20 := by
  unfold fewB at h; rw [Bool.and_eq_true] at h; exact of_decide_eq_true h.2
set_option maxRecDepth 100000 in
set_option maxHeartbeats 4000000 in
theorem few_any (ep need : Int) (A : Option Addr) (c : Nat) (ms : List Mem) (w : World) (hr : ReadsMem w A ms.length ms) (hs : ∀ x ∈ ms, x.name.size ≤ maxLen) (hn : ms.length ≤ 9223372036854775807) :
    Calls Tryd.prog 8 #[cusV ep need A ms.length c] w fun e w' => e = .returned (.bool (fewB ms)) ∧ Below w.heap.size w w' := by
  have HR := Lib.hid hr
  have HS := Lib.hid hs
  clear hr hs
  unfold cusV
  go_enter Tryd.func8, Tryd.ntmps8
  go_wp2_with fail
  obtain ⟨w0, hw0⟩ : ∃ w0, w0 = w.alloc (Obj.cells #[Value.int IntKind.i64 ep, Value.int IntKind.i64 need, Value.slice A ms.length c] 24) := ⟨_, rfl⟩
  have hg0 : w0.heap[w.heap.size]? = some (.cells #[Value.int IntKind.i64 ep, Value.int IntKind.i64 need, Value.slice A ms.length c] 24 (0, 0)) := by rw [hw0]; exact heap_alloc_new _ _
  have hB0 : Below w.heap.size w w0 := by rw [hw0]; exact (Below.refl _ _).alloc (Nat.le_refl _) _
  have hz0 : w0.heap.size = w.heap.size + 1 := by rw [hw0, szA]
  rw [← hw0]
  clear hw0
  go_loopw [3] (fun v3 wr => ∃ i : Nat, i ≤ ms.length ∧ v3 = .int .i64 i ∧ (∀ m ∈ ms.take i, m.name.size ≤ 50) ∧ Below w0.heap.size w0 wr) (fun v3 _ => ms.length - (RowKit.intOf v3).toNat)
  case atStart => exact ⟨0, by omega, rfl, by simp, Below.refl _ _⟩
  case round =>
    obtain ⟨i, hi, rfl, hok, hB⟩ := hrel
    have hbx := (hB.block _ (show w.heap.size < w0.heap.size by omega)).trans hg0
    have hx2 : wr.cell? ⟨w.heap.size, 2, none⟩ = some (.slice A ms.length c) := by rw [cell_of_row _ _ _ _ _ _ hbx]; rfl
    have HOK := Lib.hid hok
    have HB := Lib.hid hB
    by_cases hlt : i < ms.length
    · have d1 : decide ((i : Int) < ms.length) = true := decide_eq_true (by omega)
      obtain ⟨m, hm⟩ : ∃ m, ms[i]? = some m := ⟨_, List.getElem?_eq_getElem hlt⟩
      obtain ⟨hp16, ad, rfl, hcell⟩ := (HR.out.below (hB0.trans (hB.mono (by omega)))).2 i m hm
      have hc0 : wr.cell? (ad.add (i * 18)) = some (.string m.name) := hcell 0 _ rfl
      have hmem := List.mem_of_getElem? hm
      have HTK := Lib.hid (take_succ_some ms i m hm)
      have i0 : (0 : Int) ≤ (i : Int) := by omega
      have i1 : (i : Int) < (ms.length : Int) := by omega
      clear hok hB hcell hm hbx
      by_cases h50 : m.name.size ≤ 50
      · have d2 : ¬ (50 < (m.name.size : Int)) := by omega
        go_wp2_with fail
        go_roundw
        case rel => exact ⟨i + 1, by omega, by go_num, by
          rw [HTK.out]; intro x hx
          rcases List.mem_append.1 hx with hx | hx
          · exact HOK.out x hx
          · rw [List.mem_singleton.1 hx]; exact h50, HB.out⟩
        case measure => simp [RowKit.intOf]; omega
      · have d2 : 50 < (m.name.size : Int) := by omega
        have hf : fewB ms = false := by
          unfold fewB
          rw [Bool.and_eq_false_iff]; left
          rw [List.all_eq_false]
          exact ⟨m, hmem, by simpa using h50⟩
        have HF := Lib.hid hf
        clear hf
        go_wp2_with fail
        go_ret
        exact ⟨by rw [HF.out]; rfl, hB0.trans (HB.out.mono (by omega))⟩
    · have d1 : decide ((i : Int) < ms.length) = false := decide_eq_false (by omega)
      obtain rfl : i = ms.length := by omega
      have hall : ms.all (fun m => decide (m.name.size ≤ 50)) = true := by
        rw [List.all_eq_true]; intro x hx
        rw [List.take_length] at hok
        exact decide_eq_true (hok x hx)
      have hf : fewB ms = decide ((ms.length : Int) ≤ 20) := by
        unfold fewB; rw [hall, Bool.true_and]
        by_cases h : ms.length ≤ 20
        · rw [decide_eq_true h, decide_eq_true (by omega)]
        · rw [decide_eq_false h, decide_eq_false (by omega)]
      have HF := Lib.hid hf
      clear hf hall hok
      go_wp2_with fail
      go_ret
      exact ⟨by rw [HF.out]; rfl, hB0.trans (HB.out.mono (by omega))⟩
end Go.Proofs.YtbgijijecipjeaaDoor
