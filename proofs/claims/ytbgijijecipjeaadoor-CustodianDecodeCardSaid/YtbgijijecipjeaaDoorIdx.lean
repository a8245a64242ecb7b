/- Contract of slices.Index over members. -/
import Derived.Test.YtbgijijecipjeaaDoorEnc
import Derived.Test.YtbgijijecipjeaaDoorEq
namespace Go.Proofs.YtbgijijecipjeaaDoor
open Go.RowKit Go.IntWalk Go.Proofs.YtbgijijecipjeaaDoorW.PrintWords

/-- The first place of a member, or -1. -/
def idxM (m : Mem) : List Mem → Nat → Int
  | [], _ => -1
  | x :: r, k => if m = x then (k : Int) else idxM m r (k + 1)
theorem idxM_step (m x : Mem) (ms : List Mem) (i : Nat) (h : ms[i]? = some x) : idxM m (ms.drop i) i = if m = x then (i : Int) else idxM m (ms.drop (i + 1)) (i + 1) := by
  obtain ⟨hi, rfl⟩ := List.getElem?_eq_some_iff.1 h
  rw [List.drop_eq_getElem_cons hi, idxM]

@[go_sem ↓] theorem loadAt_member (v : Value) : Instr.loadAt 47 v = loadRow 47 v := rfl
@[go_sem ↓] theorem storeAt_member (v x : Value) : Instr.storeAt 47 v x = storeRow 47 v x := rfl
@[go_sem] theorem run_loadRow_member (p : Nat) (w : World) : (loadRow 47 (.pointer (some ⟨p, 0, none⟩))).run Tryd.prog w = loadRowK Tryd.prog 47 18 p w (row? w p) := (loadRowK_eq 47 18 p w Tryd.underlying47 rfl (by kernel_rfl)).symm
@[go_sem] theorem run_storeRow_member (p : Nat) (X : Array Value) (w : World) : (storeRow 47 (.pointer (some ⟨p, 0, none⟩)) (.agg X)).run Tryd.prog w = storeRowK Tryd.prog 47 18 p X w (row? w p) := (storeRowK_eq 47 18 p X w (by kernel_rfl)).symm
-- attribute [go_sem high]

set_option maxRecDepth 100000 in
set_option maxHeartbeats 4000000 in
theorem idx_any (A : Option Addr) (c : Nat) (ms : List Mem) (m : Mem) (w : World) (hr : ReadsMem w A ms.length ms) (hp : m.pub.length = 16) (hs : ∀ x ∈ ms, x.name.size ≤ maxLen ∧ in64 x.ht) (hs2 : m.name.size ≤ maxLen) (hh : in64 m.ht) (hn : ms.length ≤ 1099511627776) :
    Calls Tryd.prog 30 #[.slice A ms.length c, .agg (memRow m).toArray] w fun e w' => e = .returned (.int .i64 (idxM m ms 0)) ∧ Below w.heap.size w w' := by
  have HR := Lib.hid hr
  have HS := Lib.hid hs
  clear hr hs
  go_enter Tryd.func30, Tryd.ntmps30
  go_wp2_with fail
  obtain ⟨w0, hw0⟩ : ∃ w0, w0 = w.alloc (Obj.cells (memRow m).toArray 47) := ⟨_, rfl⟩
  have hg0 : w0.heap[w.heap.size]? = some (.cells (memRow m).toArray 47 (0, 0)) := by rw [hw0]; exact heap_alloc_new _ _
  have hB0 : Below w.heap.size w w0 := by rw [hw0]; exact (Below.refl _ _).alloc (Nat.le_refl _) _
  have hz0 : w0.heap.size = w.heap.size + 1 := by rw [hw0, szA]
  rw [← hw0]
  clear hw0
  go_loopw [8] (fun v8 wr => ∃ i : Nat, i ≤ ms.length ∧ v8 = .int .i64 i ∧ idxM m ms 0 = idxM m (ms.drop i) i ∧ Below w0.heap.size w0 wr) (fun v8 _ => ms.length - (RowKit.intOf v8).toNat)
  case atStart => exact ⟨0, by omega, rfl, by rw [List.drop_zero], Below.refl _ _⟩
  case round =>
    obtain ⟨i, hi, rfl, hix, hB⟩ := hrel
    by_cases hlt : i < ms.length
    · have d1 : decide ((i : Int) < ms.length) = true := decide_eq_true (by omega)
      obtain ⟨x, hx⟩ : ∃ x, ms[i]? = some x := ⟨_, List.getElem?_eq_getElem hlt⟩
      obtain ⟨hp16, ad, rfl, hcell⟩ := (HR.out.below (hB0.trans (hB.mono (by omega)))).2 i x hx
      have i0 : (0 : Int) ≤ (i : Int) := by omega
      have i1 : (i : Int) < (ms.length : Int) := by omega
      go_upto_region 4 with fail
      have hld : ∀ n, (loadRow 47 (.pointer (some (ad.add (i * 18))))).run Tryd.prog (wr.drewN n) = .ok (.agg (memRow x).toArray) (wr.drewN n) := fun n =>
        run_load_at (wr.drewN n) 47 (ad.add (i * 18)) (memRow x) _ (fun k v hv => by rw [← add_add']; exact hcell k v hv) Tryd.underlying47 rfl (by rw [memRow_length x hp16]; kernel_rfl)
      have hld2 : ∀ n, (loadRow 47 (.pointer (some ⟨w.heap.size, 0, none⟩))).run Tryd.prog (wr.drewN n) = .ok (.agg (memRow m).toArray) (wr.drewN n) := fun n => by
        rw [run_loadRow_member, show row? (wr.drewN n) w.heap.size = some (memRow m).toArray from row_of ((hB.block _ (by omega)).trans hg0)]
        exact loadRowK_some _ _ _ _ _ _ (by rw [List.size_toArray]; exact memRow_length m hp)
      have hld1 : (loadRow 47 (.pointer (some (ad.add (i * 18))))).run Tryd.prog wr.drew = .ok (.agg (memRow x).toArray) wr.drew := hld 1
      have hld3 : (loadRow 47 (.pointer (some ⟨w.heap.size, 0, none⟩))).run Tryd.prog wr.drew = .ok (.agg (memRow m).toArray) wr.drew := hld2 1
      have hx2 := HS.out x (List.mem_of_getElem? hx)
      have hst := idxM_step m x ms i hx
      have hsz := hB.size
      have HIX := Lib.hid hix
      have HB := Lib.hid hB
      by_cases hmx : m = x
      · rw [if_pos hmx] at hst
        have heq : ∀ W, (Op.equalIn 10000 47 (.agg (memRow m).toArray) (.agg (memRow x).toArray)).run Tryd.prog W = .ok true W := fun W => by
          rw [eq_mem m x W hp hp16 hs2 hx2.1 hh hx2.2, decide_eq_true hmx]
        have HST := Lib.hid hst
        clear hst hix hB hmx hcell hx
        go_region_with (fail)
        all_goals
          go_wp2_with fail
          go_ret
          refine ⟨by rw [HIX.out, HST.out]; rfl, ?_⟩
          exact hB0.trans ((HB.out.drew).mono (by omega))
      · rw [if_neg hmx] at hst
        have heq : ∀ W, (Op.equalIn 10000 47 (.agg (memRow m).toArray) (.agg (memRow x).toArray)).run Tryd.prog W = .ok false W := fun W => by
          rw [eq_mem m x W hp hp16 hs2 hx2.1 hh hx2.2, decide_eq_false hmx]
        have HST := Lib.hid hst
        clear hst hix hB hmx hcell hx
        go_region_with (fail)
        all_goals
          go_wp2_with fail
          go_roundw
          case rel => exact ⟨i + 1, by omega, by go_num, by rw [HIX.out, HST.out], HB.out.drew⟩
          case measure => simp [RowKit.intOf]; omega
    · have d1 : decide ((i : Int) < ms.length) = false := decide_eq_false (by omega)
      obtain rfl : i = ms.length := by omega
      rw [List.drop_length, idxM] at hix
      have HIX := Lib.hid hix
      clear hix
      go_wp2_with fail
      go_ret
      exact ⟨by rw [HIX.out]; rfl, hB0.trans (hB.mono (by omega))⟩
end Go.Proofs.YtbgijijecipjeaaDoor
