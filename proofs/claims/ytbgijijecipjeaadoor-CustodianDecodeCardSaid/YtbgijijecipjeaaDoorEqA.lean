/- Members and custodians in memory; contracts of custodylaw30.two. Contract of custodyref30.SameInts. -/
import Derived.Test.YtbgijijecipjeaaDoorHash6
import Derived.Test.YtbgijijecipjeaaDoorRefA
namespace Go.Proofs.YtbgijijecipjeaaDoor
open Go.RowKit Go.IntWalk Go.Proofs.YtbgijijecipjeaaDoorW.PrintWords

structure Mem where
  name : ByteArray
  pub : List UInt8
  ht : Int
/-- A member's cells. -/
def memRow (m : Mem) : List Value := .string m.name :: (Lib.byteCells m.pub ++ [.int .i64 m.ht])
/-- A slice of members that is read. -/
def ReadsMem (w : World) (A : Option Addr) (n : Nat) (ms : List Mem) : Prop :=
  ms.length = n ∧ ∀ j m, ms[j]? = some m → m.pub.length = 16 ∧ ∃ ad, A = some ad ∧ ∀ k v, (memRow m)[k]? = some v → w.cell? (ad.add (j * 18 + k)) = some v
theorem ReadsMem.below {w w1 : World} {A : Option Addr} {n : Nat} {ms : List Mem} (h : ReadsMem w A n ms) (hb : Below w.heap.size w w1) : ReadsMem w1 A n ms :=
  ⟨h.1, fun j m hm => by
    obtain ⟨hp, ad, e, hc⟩ := h.2 j m hm
    exact ⟨hp, ad, e, fun k v hv => pw_cell_below hb (hc k v hv)⟩⟩
theorem heap_setRow_ne (w : World) (g q : Nat) (cs : Array Value) (h : q ≠ g) : (w.setRow g cs).heap[q]? = w.heap[q]? := by
  unfold World.setRow
  show (w.heap.modify g _)[q]? = _
  rw [Array.getElem?_modify, if_neg (fun e => h e.symm)]
theorem cell_setRow_ne (w : World) (g : Nat) (a : Addr) (cs : Array Value) (h : a.block ≠ g) : (w.setRow g cs).cell? a = w.cell? a := by
  unfold World.cell?
  rw [heap_setRow_ne w g a.block cs h]
theorem add_block (ad : Addr) (k : Nat) : (ad.add k).block = ad.block := by unfold Addr.add; split <;> rfl
theorem ReadsMem.setRow {w : World} {A : Option Addr} {n : Nat} {ms : List Mem} (h : ReadsMem w A n ms) (g : Nat) (cs : Array Value) (hne : ms = [] ∨ ∃ ad, A = some ad ∧ ad.block ≠ g) : ReadsMem (w.setRow g cs) A n ms :=
  ⟨h.1, fun j m hm => by
    obtain ⟨hp, ad, e, hc⟩ := h.2 j m hm
    refine ⟨hp, ad, e, fun k v hv => ?_⟩
    rcases hne with rfl | ⟨ad', e', hb⟩
    · simp at hm
    · rw [e] at e'; injection e' with e'; subst e'
      rw [cell_setRow_ne _ _ _ _ (by rw [add_block]; exact hb)]
      exact hc k v hv⟩
theorem memRow_length (m : Mem) (h : m.pub.length = 16) : (memRow m).length = 18 := by simp [memRow, Lib.byteCells_length, h]
/-- Custodians as a value. -/
def cusV (ep need : Int) (A : Option Addr) (n c : Nat) : Value := .agg #[.int .i64 ep, .int .i64 need, .slice A n c]
/-- The value at one place is loaded whole. -/
theorem run_load_at {P : Program} (w : World) (t : TypeId) (ad : Addr) (cs : List Value) (d : TypeDesc) (hc : ∀ k v, cs[k]? = some v → w.cell? (ad.add k) = some v)
    (hu : P.underlying t = some d) (hd : d.isRow = true) (hi : (P.info? t).map (·.size) = some cs.length) : (Instr.loadAt t (.pointer (some ad))).run P w = .ok (.agg cs.toArray) w := by
  have hl : (loadCells ad cs.length).run P w = .ok cs.toArray w := run_loadCells_list (P := P) w ad cs hc
  cases hq : P.info? t with
  | none => simp [hq] at hi
  | some i =>
    have hs : i.size = cs.length := by simpa [hq] using hi
    have hagg : (isAgg t).run P w = .ok true w := by
      unfold isAgg
      rw [Sem.run_bind, run_underlying hu w]
      cases d <;> simp_all
    have hlv : (loadVar t ad).run P w = .ok (.agg cs.toArray) w := by simp [loadVar, Sem.run_bind, hagg, sizeOf, typeInfo, hq, hs, hl]
    simp only [Instr.loadAt, Instr.sureAddr, Sem.run_bind, Sem.run_pure, Result.andThen_ok, hlv]

theorem flat_get (ms : List Mem) (h : ∀ m ∈ ms, m.pub.length = 16) : ∀ (j : Nat) (m : Mem) (k : Nat) (v : Value), ms[j]? = some m → (memRow m)[k]? = some v → ((ms.map memRow).flatten)[j * 18 + k]? = some v := by
  induction ms with
  | nil => intro j m k v hm; simp at hm
  | cons x ms ih =>
    intro j m k v hm hv
    have hx := memRow_length x (h x (List.mem_cons_self ..))
    rcases j with _ | j
    · obtain rfl : x = m := by simpa using hm
      have hk : k < (memRow x).length := (List.getElem?_eq_some_iff.1 hv).1
      rw [Nat.zero_mul, Nat.zero_add, List.map_cons, List.flatten_cons, List.getElem?_append_left hk, hv]
    · rw [List.map_cons, List.flatten_cons, List.getElem?_append_right (by omega), hx, show (j + 1) * 18 + k - 18 = j * 18 + k by omega]
      exact ih (fun m hm => h m (List.mem_cons_of_mem _ hm)) j m k v (by simpa using hm) hv
/-- A block that holds members. -/
theorem reads_flat {w : World} {g : Nat} {t : TypeId} {fr : Nat × Nat} {cs : Array Value} (ms : List Mem) (h : ∀ m ∈ ms, m.pub.length = 16) (hg : w.heap[g]? = some (.cells cs t fr)) (hc : cs = (ms.map memRow).flatten.toArray) :
    ReadsMem w (some ⟨g, 0, none⟩) ms.length ms := by
  refine ⟨rfl, fun j m hm => ⟨h m (List.mem_of_getElem? hm), _, rfl, fun k v hv => ?_⟩⟩
  rw [add_plain, cell_of_row _ _ _ _ _ _ hg, hc, List.getElem?_toArray]
  exact flat_get ms h j m k v hm hv

def digB (x : UInt8) : List UInt8 := x :: List.replicate 15 0
def mem1 : Mem := ⟨⟨#[97]⟩, digB 1, 0⟩
def mem2 : Mem := ⟨⟨#[98]⟩, digB 2, 0⟩

set_option maxRecDepth 100000 in
set_option maxHeartbeats 4000000 in
theorem two_any (w : World) : Calls Tryd.prog 28 #[] w fun e w' => ∃ g, e = .returned (cusV 0 2 (some ⟨g, 0, none⟩) 2 2) ∧ ReadsMem w' (some ⟨g, 0, none⟩) 2 [mem1, mem2] ∧ w.heap.size ≤ g ∧ Below w.heap.size w w' := by
  go_enter Tryd.func28, Tryd.ntmps28
  go_wp2_with fail
  refine bodyPost_ret (v := cusV 0 2 (some ⟨w.heap.size + 1, 0, none⟩) 2 2) (results_cell_row rfl _ _ w.heap.size 24 _ (0, 0) _ rfl (heap_alloc2_old _ _ _) Tryd.underlying24 rfl (by kernel_rfl)) rfl ⟨w.heap.size + 1, rfl, ?_, by omega, ((Below.refl _ _).alloc (Nat.le_refl _) _).alloc (by simp) _⟩
  exact reads_flat [mem1, mem2] (by intro m hm; simp at hm; rcases hm with rfl | rfl <;> rfl) (heap_alloc2_new _ _ _) rfl
end Go.Proofs.YtbgijijecipjeaaDoor
namespace Go.Proofs.YtbgijijecipjeaaDoor
open Go.RowKit Go.IntWalk Go.Proofs.YtbgijijecipjeaaDoorW.PrintWords

set_option maxRecDepth 100000 in
set_option maxHeartbeats 4000000 in
theorem sameInts_any (A B : Option Addr) (c d : Nat) (xs ys : List Int) (w : World) (hx : ReadsInt w .i64 A xs.length xs) (hy : ReadsInt w .i64 B ys.length ys) (hn : xs.length ≤ 1099511627776) (_hm : ys.length ≤ 1099511627776) :
    Calls Tryd.prog 15 #[.slice A xs.length c, .slice B ys.length d] w fun e w' => e = .returned (.bool (decide (xs = ys))) ∧ Below w.heap.size w w' := by
  have HX := Lib.hid hx
  have HY := Lib.hid hy
  clear hx hy
  go_enter Tryd.func15, Tryd.ntmps15
  by_cases hl : xs.length = ys.length
  · have hl1 : ((xs.length : Int) != ys.length) = false := by simp; omega
    go_wp2_with fail
    go_loopw [5] (fun v5 wr => ∃ i : Nat, i ≤ xs.length ∧ v5 = .int .i64 i ∧ xs.take i = ys.take i ∧ Below w.heap.size w wr) (fun v5 _ => xs.length - (RowKit.intOf v5).toNat)
    case atStart => exact ⟨0, by omega, rfl, by simp, Below.refl _ _⟩
    case round =>
      obtain ⟨i, hi, rfl, htk, hB⟩ := hrel
      have HTK := Lib.hid htk
      clear htk
      by_cases hlt : i < xs.length
      · have d1 : decide ((i : Int) < ys.length) = true := decide_eq_true (by omega)
        obtain ⟨ad, rfl, hc1⟩ := (HX.out.below hB).at_ i (by omega) (by omega)
        obtain ⟨bd, rfl, hc2⟩ := (HY.out.below hB).at_ i (by omega) (by omega)
        simp only [Int.toNat_natCast] at hc1 hc2
        obtain ⟨x, hx⟩ : ∃ x, x = rd xs i := ⟨_, rfl⟩
        obtain ⟨y, hy⟩ : ∃ y, y = rd ys i := ⟨_, rfl⟩
        rw [← hx] at hc1
        rw [← hy] at hc2
        have hxs : xs.take (i + 1) = xs.take i ++ [x] := by
          rw [List.take_add_one, List.getElem?_eq_getElem hlt, hx, rd, List.getD_eq_getElem?_getD, Int.toNat_natCast, List.getElem?_eq_getElem hlt]; rfl
        have hys : ys.take (i + 1) = ys.take i ++ [y] := by
          rw [List.take_add_one, List.getElem?_eq_getElem (by omega), hy, rd, List.getD_eq_getElem?_getD, Int.toNat_natCast, List.getElem?_eq_getElem (by omega)]; rfl
        have HXS := Lib.hid hxs
        have HYS := Lib.hid hys
        clear hx hy hxs hys
        have i0 : (0 : Int) ≤ (i : Int) := by omega
        have i1 : (i : Int) < (ys.length : Int) := by omega
        have i2 : (i : Int) < (xs.length : Int) := by omega
        by_cases hxy : x = y
        · have e1 : (x != y) = false := by simp [hxy]
          go_upto_region 6 with fail
          go_quiet (fail)
          go_wp2_with fail
          go_roundw
          case rel => exact ⟨i + 1, by omega, by go_num, by rw [HXS.out, HYS.out, HTK.out, hxy], by (repeat (first | (with_reducible assumption) | (with_reducible exact Below.refl _ _) | (with_reducible refine bl_alloc ?_ _) | (with_reducible refine bl_drew ?_) | (with_reducible refine bl_drewN ?_ _) | (with_reducible refine bl_then (by assumption) ?_)))⟩
          case measure => simp [RowKit.intOf]; omega
        · have e1 : (x != y) = true := by simp [hxy]
          have hne : xs ≠ ys := fun e => by
            have h1 := HXS.out
            rw [e, HYS.out, ← HTK.out] at h1
            exact hxy (by have := List.append_cancel_left h1; simpa using this.symm)
          go_upto_region 6 with fail
          go_quiet (fail)
          go_wp2_with fail
          go_ret
          exact ⟨by rw [decide_eq_false hne]; rfl, by (repeat (first | (with_reducible assumption) | (with_reducible exact Below.refl _ _) | (with_reducible refine bl_alloc ?_ _) | (with_reducible refine bl_drew ?_) | (with_reducible refine bl_drewN ?_ _) | (with_reducible refine bl_then (by assumption) ?_)))⟩
      · have d1 : decide ((i : Int) < ys.length) = false := decide_eq_false (by omega)
        obtain rfl : i = xs.length := by omega
        have heq : xs = ys := by
          have := HTK.out
          rw [List.take_length, hl, List.take_length] at this
          exact this
        go_wp2_with fail
        go_ret
        exact ⟨by rw [decide_eq_true heq]; rfl, hB⟩
  · have hl1 : ((xs.length : Int) != ys.length) = true := by simp; omega
    have hne : xs ≠ ys := fun e => hl (by rw [e])
    go_wp2_with fail
    go_ret
    exact ⟨by rw [decide_eq_false hne]; rfl, Below.refl _ _⟩
end Go.Proofs.YtbgijijecipjeaaDoor
