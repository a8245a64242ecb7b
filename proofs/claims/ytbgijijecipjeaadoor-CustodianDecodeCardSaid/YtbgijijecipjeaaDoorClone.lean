/- Contract of slices.Clone over members. -/
import Derived.Test.YtbgijijecipjeaaDoorIdx
import Derived.Lib.AppendZeros
import Derived.Laws.Cover3
namespace Go.Proofs.YtbgijijecipjeaaDoor
open Go.RowKit Go.IntWalk Go.Proofs.YtbgijijecipjeaaDoorW.PrintWords

theorem flat_len (ms : List Mem) (h : ∀ m ∈ ms, m.pub.length = 16) : ((ms.map memRow).flatten).length = ms.length * 18 := by
  induction ms with
  | nil => rfl
  | cons x ms ih =>
    have h1 := memRow_length x (h x (List.mem_cons_self ..))
    have h2 := ih fun m hm => h m (List.mem_cons_of_mem _ hm)
    rw [List.map_cons, List.flatten_cons, List.length_append, h1, h2, List.length_cons]; omega
theorem flat_split (ms : List Mem) (h : ∀ m ∈ ms, m.pub.length = 16) : ∀ (j : Nat) (v : Value), ((ms.map memRow).flatten)[j]? = some v → ∃ i k m, ms[i]? = some m ∧ (memRow m)[k]? = some v ∧ j = i * 18 + k := by
  induction ms with
  | nil => intro j v hj; simp at hj
  | cons x ms ih =>
    intro j v hj
    have h1 := memRow_length x (h x (List.mem_cons_self ..))
    rw [List.map_cons, List.flatten_cons] at hj
    rcases Nat.lt_or_ge j 18 with hlt | hge
    · rw [List.getElem?_append_left (by omega)] at hj
      exact ⟨0, j, x, rfl, hj, by omega⟩
    · rw [List.getElem?_append_right (by omega), h1] at hj
      obtain ⟨i, k, m, e1, e2, e3⟩ := ih (fun m hm => h m (List.mem_cons_of_mem _ hm)) _ v hj
      exact ⟨i + 1, k, m, e1, e2, by omega⟩

set_option maxRecDepth 100000 in
set_option maxHeartbeats 4000000 in
theorem clone_any (A : Option Addr) (c : Nat) (ms : List Mem) (w : World) (hr : ReadsMem w A ms.length ms) (hn : ms.length ≤ 1099511627776) :
    Calls Tryd.prog 29 #[.slice A ms.length c] w fun e w' => ∃ B d, e = .returned (.slice B ms.length d) ∧ ReadsMem w' B ms.length ms ∧ (ms = [] ∨ ∃ ad, B = some ad ∧ w.heap.size ≤ ad.block) ∧ Below w.heap.size w w' := by
  have HR := Lib.hid hr
  clear hr
  have hnil : ∀ W n, (binOp .eql 22 (.slice A n c) (.slice none 0 0)).run Tryd.prog W = .ok (.bool A.isNone) W := fun W n => by
    simp [binOp, run_equal_slice_nil (P := Tryd.prog) W 22 47 A n c Tryd.underlying22]
  rcases A with _ | ad
  · obtain rfl : ms = [] := by
      rcases ms with _ | ⟨x, ms⟩
      · rfl
      · obtain ⟨-, ad, e, -⟩ := HR.out.2 0 x rfl
        cases e
    go_enter Tryd.func29, Tryd.ntmps29
    go_wp2_with fail
    go_ret
    exact ⟨none, _, rfl, ⟨rfl, fun j m hm => by simp at hm⟩, .inl (by simp), Below.refl _ _⟩
  · by_cases h0 : ms = []
    · subst h0
      go_enter Tryd.func29, Tryd.ntmps29
      go_wp2_with fail
      go_ret
      exact ⟨_, _, rfl, ⟨rfl, fun j m hm => by simp at hm⟩, .inl (by simp), by (repeat (first | (with_reducible assumption) | (with_reducible exact Below.refl _ _) | (with_reducible refine bl_alloc ?_ _) | (with_reducible refine bl_drew ?_) | (with_reducible refine bl_drewN ?_ _) | (with_reducible refine bl_then (by assumption) ?_)))⟩
    · have hpos : 0 < ms.length := List.length_pos_iff.2 h0
      obtain ⟨i, hi, hz⟩ := Option.map_eq_some_iff.1 (show (Tryd.prog.info? 47).map (fun i => (i.size, i.bytes, i.zero.isSome)) = some (18, 40, true) by kernel_rfl)
      simp only [Prod.mk.injEq] at hz
      obtain ⟨hz1, hz2, hz3⟩ := hz
      obtain ⟨z, hzz⟩ := Option.isSome_iff_exists.1 hz3
      have hpub : ∀ m ∈ ms, m.pub.length = 16 := fun m hm => by
        obtain ⟨j, hj⟩ := List.getElem?_of_mem hm
        exact (HR.out.2 j m hj).1
      obtain ⟨zc, hzc⟩ : ∃ zc, zc = z.cells := ⟨_, rfl⟩
      have hcells : ∀ j v, ((ms.map memRow).flatten)[j]? = some v → (w.alloc (.cells #[] 47)).cell? (ad.add j) = some v := by
        intro j v hj
        obtain ⟨i, k, m, e1, e2, rfl⟩ := flat_split ms hpub j v hj
        obtain ⟨-, ad', e, hc⟩ := HR.out.2 i m e1
        injection e with e; subst e
        exact cell_keep_alloc (hc k v e2) _
      have hlen : ((ms.map memRow).flatten).length = ms.length * i.size := by rw [hz1]; exact flat_len ms hpub
      have hrun := Lib.hid (run_append_grow (P := Tryd.prog) (w := w.alloc (.cells #[] 47)) 22 22 47 i z Tryd.underlying22 hi hzz ⟨w.heap.size, 0, none⟩ 0 0 [] (by simp) (by intro j v h; simp at h) ad ms.length c ((ms.map memRow).flatten) hlen hcells (by omega) (by omega) (by rw [Nat.zero_add, nextslicecap_zero hpos, hz2]; omega))
      rw [← hzc] at hrun
      clear hzc hzz hz3
      go_enter Tryd.func29, Tryd.ntmps29
      go_wp2_with ((with_reducible show wpList _ _ _ (⟨some 7, _, _, _, _, _⟩ :: _) _ _); go_must (refine Lib.wpList_append_run _ rfl (.tmp 5) (.tmp 6) 22 22 rfl _ _ rfl rfl _ _ hrun.out ?_))
      go_ret
      refine ⟨_, _, rfl, ?_, .inr ⟨_, rfl, by simp⟩, by (repeat (first | (with_reducible assumption) | (with_reducible exact Below.refl _ _) | (with_reducible refine bl_alloc ?_ _) | (with_reducible refine bl_drew ?_) | (with_reducible refine bl_drewN ?_ _) | (with_reducible refine bl_then (by assumption) ?_)))⟩
      refine ⟨rfl, fun j m hm => ⟨hpub m (List.mem_of_getElem? hm), _, rfl, fun k v hv => ?_⟩⟩
      have hjk := flat_get ms hpub j m k v hm hv
      rw [add_plain]
      refine (cell_of_row _ _ _ _ _ _ (hp_drew (heap_alloc2_new _ _ _))).trans ?_
      rw [Array.getElem?_append_left (by rw [List.size_toArray]; exact (List.getElem?_eq_some_iff.1 hjk).1), List.getElem?_toArray]
      exact hjk
end Go.Proofs.YtbgijijecipjeaaDoor
