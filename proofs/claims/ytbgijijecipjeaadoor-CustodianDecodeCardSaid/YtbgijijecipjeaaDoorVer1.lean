/- Contracts of treesig.reader and its closures; treesig.Verify of an empty signature. -/
import Derived.Test.YtbgijijecipjeaaDoorDecA
namespace Go.Proofs.YtbgijijecipjeaaDoor
open Go.RowKit Go.IntWalk Go.Proofs.YtbgijijecipjeaaDoorW.PrintWords

/-- A reader of treesig at its places. -/
structure TRd (w : World) (Bb Be : Nat) (A : Option Addr) (m c : Nat) (e0 : Int) (l : List UInt8) : Prop where
  boxb : w.heap[Bb]? = some (.cells #[.slice A m c] 56 (0, 0))
  boxe : w.heap[Be]? = some (.cells #[.int .i64 e0] 27 (0, 0))
  ne : Bb ≠ Be
  reads : ReadsInt w .u8 A m (bi l)
  len : l.length = m
  cap : m ≤ c
  few : m ≤ 1099511627776

set_option maxRecDepth 100000 in
set_option maxHeartbeats 4000000 in
theorem treader_any (s : ByteArray) (w : World) (hs : s.size ≤ 1099511627776) :
    Calls Tryd.prog 58 #[.string s] w fun e w' => ∃ Bb Be A c, e = .returned (.tuple #[.func (.func 75) #[] #[.pointer (some ⟨Be, 0, none⟩), .pointer (some ⟨Bb, 0, none⟩)], .func (.func 76) #[] #[.pointer (some ⟨Bb, 0, none⟩), .pointer (some ⟨Be, 0, none⟩)]]) ∧
      TRd w' Bb Be A s.size c 0 s.data.toList ∧ w.heap.size ≤ Bb ∧ w.heap.size ≤ Be ∧ (∀ ad, A = some ad → ad.block ≠ Bb ∧ ad.block ≠ Be) ∧ Below w.heap.size w w' := by
  have kb := fun W => print_bytes (P := Tryd.prog) 9 56 5 Tryd.underlying9 Tryd.underlying56 Tryd.underlying5 s W
  have hmf : ∀ (fn : Fn) (first cap : Array Value) (w : World), (Instr.makeFunc fn first cap).run Tryd.prog w = .ok (.func fn first cap) w := fun _ _ _ _ => rfl
  go_enter Tryd.func58, Tryd.ntmps58
  go_wp2_with fail
  go_ret2
  have hz : (Lib.bytesWorld w 5 s).heap.size = w.heap.size + 1 := Lib.bytesWorld_size _ _ _
  obtain ⟨wb, hwb⟩ : ∃ wb, wb = Lib.bytesWorld w 5 s := ⟨_, rfl⟩
  have hrb : ReadsInt wb .u8 (some ⟨w.heap.size, 0, none⟩) s.size (bi s.data.toList) := by
    have := bytes_reads w 5 s (by omega)
    rw [← hwb, bytesOf_bi] at this; exact this
  have hBb : Below w.heap.size w wb := by rw [hwb]; exact bytes_below (Below.refl _ _) (Nat.le_refl _) _ _
  rw [← hwb] at hz ⊢
  refine ⟨wb.heap.size, wb.heap.size + 1, some ⟨w.heap.size, 0, none⟩, grownCap w s.size 0 5, rfl, ?_, by omega, by omega, ?_, by (repeat (first | (with_reducible assumption) | (with_reducible exact Below.refl _ _) | (with_reducible refine bl_alloc ?_ _) | (with_reducible refine bl_drew ?_) | (with_reducible refine bl_drewN ?_ _) | (with_reducible refine bl_then (by assumption) ?_)))⟩
  · exact ⟨hp_alloc (heap_alloc_new _ _) _, heap_alloc2_new _ _ _, by omega, rd_keep_alloc (rd_keep_alloc hrb _) _, data_length s, grownCap_ge _ _ _ _, hs⟩
  · intro ad e
    injection e with e; subst e
    exact ⟨by show w.heap.size ≠ _; omega, by show w.heap.size ≠ _; omega⟩

set_option maxRecDepth 100000 in
set_option maxHeartbeats 4000000 in
theorem skip_any (Bb Be : Nat) (A : Option Addr) (m c n : Nat) (e0 er : Int) (l : List UInt8) (w : World) (h : TRd w Bb Be A m c e0 l) (hA : ∀ ad, A = some ad → ad.block ≠ Bb ∧ ad.block ≠ Be) (hn : errAfter e0 er = 0 → n ≤ m) :
    Calls Tryd.prog 75 #[.int .i64 (n : Int), .int .i64 er, .pointer (some ⟨Be, 0, none⟩), .pointer (some ⟨Bb, 0, none⟩)] w fun e w' => e = .returned (.tuple #[]) ∧ KeepRM w w' Bb Be ∧
      (if errAfter e0 er = 0 then TRd w' Bb Be (cutA A c n) (m - n) (c - n) 0 (l.drop n) else TRd w' Bb Be A m c (errAfter e0 er) l) := by
  obtain ⟨hb, he, hne, hrd, hlen, hcap, hfew⟩ := h
  have h0 : w.cell? ⟨Bb, 0, none⟩ = some (.slice A m c) := by rw [cell_of_row _ _ _ _ _ _ hb]; rfl
  have h1 : w.cell? ⟨Be, 0, none⟩ = some (.int .i64 e0) := by rw [cell_of_row _ _ _ _ _ _ he]; rfl
  have f0 : w.frozen? ⟨Bb, 0, none⟩ = false := frozen_of_row _ _ _ _ _ hb
  have f1 : w.frozen? ⟨Be, 0, none⟩ = false := frozen_of_row _ _ _ _ _ he
  have HB := Lib.hid hb
  have HE := Lib.hid he
  have HRD := Lib.hid hrd
  have HA := Lib.hid hA
  clear hb he hrd hA
  by_cases c0 : e0 = 0
  · subst c0
    have hea : errAfter 0 er = er := if_pos rfl
    rw [hea] at hn ⊢
    by_cases c1 : er = 0
    · subst c1
      obtain ⟨ii, hii, hsz⟩ := infoU8'
      have hsl := fun W => run_cut (P := Tryd.prog) 56 5 .i64 Tryd.underlying56 hii hsz A m c n (hn rfl) W
      have hnm := hn rfl
      simp only [if_true]
      clear hii hsz hn
      go_enter Tryd.func75, Tryd.ntmps75
      go_wp2_with fail
      go_end0
      have e1 : w.setCell ⟨Be, 0, none⟩ (.int .i64 0) = w.setRow Be #[.int .i64 0] := by rw [setCell_eq_setRow _ _ _ _ _ _ _ HE.out]; rfl
      have hb2 : (w.setRow Be #[.int .i64 0]).heap[Bb]? = some (.cells #[.slice A m c] 56 (0, 0)) := (heap_setRow_ne _ _ _ _ hne).trans HB.out
      have e2 : (w.setRow Be #[.int .i64 0]).setCell ⟨Bb, 0, none⟩ (.slice (cutA A c n) (m - n) (c - n)) = (w.setRow Be #[.int .i64 0]).setRow Bb #[.slice (cutA A c n) (m - n) (c - n)] := by rw [setCell_eq_setRow _ _ _ _ _ _ _ hb2]; rfl
      rw [e1, e2]
      refine ⟨rfl, ((KeepRM.refl _ _ _).setM _).setR _, ⟨setRow_heap _ _ _ _ _ _ hb2, (heap_setRow_ne _ _ _ _ hne.symm).trans (setRow_heap _ _ _ _ _ _ HE.out), hne, ?_, by rw [List.length_drop, hlen], by omega, by omega⟩⟩
      have := HRD.out.drop_ n hnm hcap
      rw [bi_drop] at this
      exact rd_setRow (rd_setRow this _ _ (cutA_block fun ad e => (HA.out ad e).2)) _ _ (cutA_block fun ad e => (HA.out ad e).1)
    · have c1' : (er == 0) = false := by simpa using c1
      simp only [c1, if_false]
      clear c1 hn
      go_enter Tryd.func75, Tryd.ntmps75
      go_wp2_with fail
      go_end0
      have e1 : w.setCell ⟨Be, 0, none⟩ (.int .i64 er) = w.setRow Be #[.int .i64 er] := by rw [setCell_eq_setRow _ _ _ _ _ _ _ HE.out]; rfl
      rw [e1]
      exact ⟨rfl, (KeepRM.refl _ _ _).setM _, ⟨(heap_setRow_ne _ _ _ _ hne).trans HB.out, setRow_heap _ _ _ _ _ _ HE.out, hne, rd_setRow HRD.out _ _ (fun ad e => (HA.out ad e).2), hlen, hcap, hfew⟩⟩
  · have c0' : (e0 == 0) = false := by simpa using c0
    have hea : errAfter e0 er = e0 := if_neg c0
    rw [hea]
    simp only [c0, if_false]
    clear c0 hn hea
    go_enter Tryd.func75, Tryd.ntmps75
    go_wp2_with fail
    go_end0
    exact ⟨rfl, KeepRM.refl _ _ _, ⟨HB.out, HE.out, hne, HRD.out, hlen, hcap, hfew⟩⟩

set_option maxRecDepth 100000 in
set_option maxHeartbeats 4000000 in
theorem rest_any (Bb Be : Nat) (A : Option Addr) (m c : Nat) (e0 : Int) (l : List UInt8) (w : World) (h : TRd w Bb Be A m c e0 l) :
    Calls Tryd.prog 76 #[.pointer (some ⟨Bb, 0, none⟩), .pointer (some ⟨Be, 0, none⟩)] w fun e w' => e = .returned (.tuple #[.slice A m c, .int .i64 e0]) ∧ ∃ nq, w.drewN nq = w' := by
  have h0 : w.cell? ⟨Bb, 0, none⟩ = some (.slice A m c) := by rw [cell_of_row _ _ _ _ _ _ h.boxb]; rfl
  have h1 : w.cell? ⟨Be, 0, none⟩ = some (.int .i64 e0) := by rw [cell_of_row _ _ _ _ _ _ h.boxe]; rfl
  clear h
  go_enter Tryd.func76, Tryd.ntmps76
  go_wp2_with fail
  go_quiet (fail)
  go_wp2_with fail
  go_ret2
  exact ⟨rfl, _, rfl⟩
theorem TRd.drew_ {w : World} {Bb Be : Nat} {A : Option Addr} {m c : Nat} {e0 : Int} {l : List UInt8} (h : TRd w Bb Be A m c e0 l) (nq : Nat) : TRd (w.drewN nq) Bb Be A m c e0 l :=
  ⟨h.boxb, h.boxe, h.ne, h.reads, h.len, h.cap, h.few⟩
end Go.Proofs.YtbgijijecipjeaaDoor
