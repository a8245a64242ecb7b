/- Contracts of custodian.Statement and of its specification. -/
import Derived.Test.YtbgijijecipjeaaDoorCat
import Derived.Test.YtbgijijecipjeaaDoorRefA
import Derived.Deep.RegionHeld3
import Derived.Lib.SlBytesConst
import Derived.Lib.SmallJoins
namespace Go.Proofs.YtbgijijecipjeaaDoor
open Go.RowKit Go.IntWalk Go.Proofs.YtbgijijecipjeaaDoorW.PrintWords

def custodyB : List UInt8 := [99, 117, 115, 116, 111, 100, 121]
/-- What a custodian signs. -/
def stmtW (dom : List UInt8) (ep rq verb : Int) (cmd : List UInt8) : List UInt8 := custodyB ++ wInts [verb, ep, rq] ++ dom ++ cmd
def in64 (n : Int) : Prop := -9223372036854775808 ≤ n ∧ n < 9223372036854775808

theorem heap_at (w : World) (o : Obj) (p : Nat) : (w.alloc o).heap[p]? = if p = w.heap.size then some o else w.heap[p]? := Array.getElem?_push ..
theorem heap4 (w : World) (a b c d : Obj) : ((((w.alloc a).alloc b).alloc c).alloc d).heap[w.heap.size]? = some a ∧ ((((w.alloc a).alloc b).alloc c).alloc d).heap[w.heap.size + 1]? = some b ∧ ((((w.alloc a).alloc b).alloc c).alloc d).heap[w.heap.size + 1 + 1]? = some c ∧ ((((w.alloc a).alloc b).alloc c).alloc d).heap[w.heap.size + 1 + 1 + 1]? = some d := by
  refine ⟨?_, ?_, ?_, ?_⟩
  · rw [heap_at, if_neg (by simp only [World.size_alloc]; omega), heap_at, if_neg (by simp only [World.size_alloc]; omega), heap_at, if_neg (by simp only [World.size_alloc]; omega), heap_at, if_pos rfl]
  · rw [heap_at, if_neg (by simp only [World.size_alloc]; omega), heap_at, if_neg (by simp only [World.size_alloc]; omega), heap_at, if_pos (by simp only [World.size_alloc])]
  · rw [heap_at, if_neg (by simp only [World.size_alloc]; omega), heap_at, if_pos (by simp only [World.size_alloc])]
  · rw [heap_at, if_pos (by simp only [World.size_alloc])]
theorem conv_const (P : Program) (w : World) (t e : TypeId) (C : Array Value) (n c g : Nat) (hg : g = w.heap.size) (ht : P.underlying t = some (.slice e)) (he : P.underlying e = some (.int .u8)) :
    (convert t t (.slice (some ⟨g, 0, none⟩) n c)).run P (w.alloc (.cells C e)) = .ok (.slice (some ⟨g, 0, none⟩) n c) (w.alloc (.cells C e (C.size, C.size + 1))) := by
  subst hg; exact Lib.run_convert_bytes_const w t e C n c ht he

set_option maxRecDepth 100000 in
set_option maxHeartbeats 4000000 in
theorem stmt_any (dom cmd : List UInt8) (ep rq verb : Int) (w : World) (hd : dom.length = 16) (hc : cmd.length = 16) (h1 : in64 ep) (h2 : in64 rq) (h3 : in64 verb) :
    Calls Tryd.prog 24 #[.agg (Lib.byteCells dom).toArray, .int .i64 ep, .int .i64 rq, .int .i64 verb, .agg (Lib.byteCells cmd).toArray] w
      fun e w' => e = .returned (.string ⟨(stmtW dom ep rq verb cmd).toArray⟩) ∧ Below w.heap.size w w' := by
  have hcv := fun (W : World) (C : Array Value) (n c g : Nat) (hg : g = W.heap.size) => conv_const Tryd.prog W 56 5 C n c g hg Tryd.underlying56 Tryd.underlying5
  go_enter Tryd.func24, Tryd.ntmps24
  go_wp2_with fail
  obtain ⟨W0, hW0⟩ : ∃ W0, W0 = ((((w.alloc (Obj.cells (Lib.byteCells dom).toArray 36)).alloc (Obj.cells (Lib.byteCells cmd).toArray 36)).alloc (Obj.cells #[Value.int IntKind.u8 99, Value.int IntKind.u8 117, Value.int IntKind.u8 115, Value.int IntKind.u8 116, Value.int IntKind.u8 111, Value.int IntKind.u8 100, Value.int IntKind.u8 121] 5 (7, 8))).alloc (Obj.cells #[Value.int IntKind.i64 verb, Value.int IntKind.i64 ep, Value.int IntKind.i64 rq] 3)) := ⟨_, rfl⟩
  rw [← hW0]
  have hB0 : Below w.heap.size w W0 := by rw [hW0]; (repeat (first | (with_reducible assumption) | (with_reducible exact Below.refl _ _) | (with_reducible refine bl_alloc ?_ _) | (with_reducible refine bl_drew ?_) | (with_reducible refine bl_drewN ?_ _) | (with_reducible refine bl_then (by assumption) ?_)))
  have hz0 : W0.heap.size = w.heap.size + 1 + 1 + 1 + 1 := by rw [hW0]; simp
  obtain ⟨hg0, hg1, hg2, hg3⟩ := heap4 w (Obj.cells (Lib.byteCells dom).toArray 36) (Obj.cells (Lib.byteCells cmd).toArray 36) (Obj.cells #[Value.int IntKind.u8 99, Value.int IntKind.u8 117, Value.int IntKind.u8 115, Value.int IntKind.u8 116, Value.int IntKind.u8 111, Value.int IntKind.u8 100, Value.int IntKind.u8 121] 5 (7, 8)) (Obj.cells #[Value.int IntKind.i64 verb, Value.int IntKind.i64 ep, Value.int IntKind.i64 rq] 3)
  rw [← hW0] at hg0 hg1 hg2 hg3
  clear hW0
  have hri : ReadsInt W0 .i64 (some ⟨w.heap.size + 1 + 1 + 1, 0, none⟩) 3 [verb, ep, rq] := by
    refine ⟨rfl, by decide, fun _ => ⟨_, rfl, fun j hj => ?_⟩⟩
    rw [add_plain, cell_of_row _ _ _ _ _ _ hg3]
    rcases j with _ | _ | _ | j
    · rfl
    · rfl
    · rfl
    · omega
  refine (ints_any (some ⟨w.heap.size + 1 + 1 + 1, 0, none⟩) 3 [verb, ep, rq] W0 hri (by simp) (by simp) (by intro x hx; simp at hx; rcases hx with rfl | rfl | rfl <;> assumption)).mono ?_
  rintro e w1 ⟨v, rfl, hown, hB⟩
  obtain ⟨A2, c2, rfl, hr2⟩ := own_reads hown
  have hlw : 0 < (wInts [verb, ep, rq]).length ∧ (wInts [verb, ep, rq]).length ≤ 36 := by
    have e1 := wInt_length_le (([verb, ep, rq] : List Int).length : Int)
    have e2 := wMany_length_le [verb, ep, rq]
    have e3 := wInt_length (([verb, ep, rq] : List Int).length : Int)
    rw [wInts, List.length_append]
    simp only [List.length_cons, List.length_nil] at e1 e2 e3 ⊢
    omega
  have hr1 : ReadsInt w1 .u8 (some ⟨w.heap.size + 1 + 1, 0, none⟩) 7 (bi custodyB) := by
    refine ⟨rfl, by decide, fun _ => ⟨_, rfl, fun j hj => ?_⟩⟩
    rw [add_plain, cell_of_row _ _ _ _ _ _ ((hB.block _ (by omega)).trans hg2)]
    rcases j with _ | _ | _ | _ | _ | _ | _ | j
    iterate 7 exact rfl
    omega
  have hg1' := (hB.block _ (by omega)).trans hg1
  have hg0' := (hB.block _ (by omega)).trans hg0
  have hB1 := hB0.trans (hB.mono (by omega))
  have hzz := hB.size
  have hz1 := hB1.size
  have HR1 := Lib.hid hr1
  have HR2 := Lib.hid hr2
  have HB1 := Lib.hid hB1
  clear hown hB hr1 hr2 hg0 hg1 hg2 hg3 hri hB1
  go_upto_region 2 with (at_builtin; go_must (refine app_full (w0 := w) w.heap.size rfl (.tmp 13) (.tmp 18) 56 5 rfl Tryd.underlying56 infoU8 _ _ 7 _ 7 _ (bi custodyB) (bi (wInts [verb, ep, rq])) rfl rfl (by decide) (by rw [bi_length]; omega) (by rw [bi_length]; omega) (by rw [bi_length]; omega) HR1.out HR2.out HB1.out hz1 ?_); intro v2 w2 hown2 hB2 hB12)
  have hz2 := hB2.size
  have hz12 := hB12.size
  rw [← bi_append] at hown2
  obtain ⟨A3, c3, rfl, hr3⟩ := own_reads hown2
  have hg1'' := (hB12.block _ (Nat.lt_of_lt_of_le (show w.heap.size + 1 < W0.heap.size by omega) hzz)).trans hg1'
  have hg0'' := (hB12.block _ (Nat.lt_of_lt_of_le (show w.heap.size < W0.heap.size by omega) hzz)).trans hg0'
  obtain ⟨ps, hps⟩ : ∃ ps, ps = [custodyB ++ wInts [verb, ep, rq], dom, cmd] := ⟨_, rfl⟩
  have hrow (d : List UInt8) (hd : d.length = 16) (b : Nat) (h : w2.heap[b]? = some (.cells (Lib.byteCells d).toArray 36 (0, 0))) : ReadsInt w2 .u8 (some ⟨b, 0, none⟩) 16 (bi d) := by
    refine ⟨by rw [bi_length]; exact hd, by decide, fun _ => ⟨_, rfl, fun j hj => ?_⟩⟩
    rw [add_plain, cell_of_row _ _ _ _ _ _ h, List.getElem?_toArray, Lib.byteCells, List.getElem?_map, List.getElem?_eq_getElem (by omega), List.getD_eq_getElem?_getD, bi, List.getElem?_map, List.getElem?_eq_getElem (by omega)]
    rfl
  have hbb : ∀ (W : World) (g : Nat), Below w2.heap.size w2 W → W.heap[g]? = some (.cells #[.slice A3 (bi (custodyB ++ wInts [verb, ep, rq])).length c3, .slice (some ⟨w.heap.size, 0, none⟩) 16 16, .slice (some ⟨w.heap.size + 1, 0, none⟩) 16 16] 56 (0, 0)) → ReadsBB W (some ⟨g, 0, none⟩) 3 ps := by
    intro W g hW hg
    refine ⟨by rw [hps]; rfl, fun j x hx => ?_⟩
    rw [hps] at hx
    rcases j with _ | _ | _ | j
    · obtain rfl : custodyB ++ wInts [verb, ep, rq] = x := by simpa using hx
      refine ⟨_, A3, c3, rfl, ?_, ?_⟩
      · rw [add_plain, cell_of_row _ _ _ _ _ _ hg, bi_length]; rfl
      · rw [bi_length] at hr3; exact hr3.below hW
    · obtain rfl : dom = x := by simpa using hx
      refine ⟨_, some ⟨w.heap.size, 0, none⟩, 16, rfl, ?_, ?_⟩
      · rw [add_plain, cell_of_row _ _ _ _ _ _ hg, hd]; rfl
      · rw [hd]; exact (hrow dom hd _ hg0'').below hW
    · obtain rfl : cmd = x := by simpa using hx
      refine ⟨_, some ⟨w.heap.size + 1, 0, none⟩, 16, rfl, ?_, ?_⟩
      · rw [add_plain, cell_of_row _ _ _ _ _ _ hg, hc]; rfl
      · rw [hc]; exact (hrow cmd hc _ hg1'').below hW
    · simp at hx
  have hsum : sumLen ps ≤ 100 := by rw [hps]; simp [sumLen, custodyB, hd, hc]; omega
  have hpl : ps.length = 3 := by rw [hps]; rfl
  have hfl : ps.flatten = stmtW dom ep rq verb cmd := by rw [hps]; simp [stmtW]
  have HBB := Lib.hid hbb
  have HFL := Lib.hid hfl
  have HPL := Lib.hid hpl
  clear hbb hps hrow hg0'' hg1'' hr3 hown2 hfl hpl
  go_region_with (first
    | (go_at_call 32; go_must (rw [← HPL.out]; refine (concat_any _ _ ps _ ?_ ?_ ?_).mono ?_; (focus (rw [HPL.out]; refine HBB.out _ _ ?_ ?_; (focus (repeat (first | (with_reducible assumption) | (with_reducible exact Below.refl _ _) | (with_reducible refine bl_alloc ?_ _) | (with_reducible refine bl_drew ?_) | (with_reducible refine bl_drewN ?_ _) | (with_reducible refine bl_then (by assumption) ?_)))); (focus (repeat (first | (with_reducible assumption) | (with_reducible exact heap_alloc_new _ _) | (with_reducible exact heap_alloc2_new _ _ _) | (with_reducible refine hp_alloc ?_ _) | (with_reducible refine hp_drew ?_) | (with_reducible refine hp_drewN ?_ _) | (with_reducible refine hp_then (by assumption) ?_)))))); (focus omega); (focus (have := HPL.out; omega)); rintro e w4 ⟨v4, rfl, hown4, hB4⟩; have hcv4 := own_string (P := Tryd.prog) Tryd.underlying56 Tryd.underlying5 Tryd.underlying9 hown4)))
  all_goals
    go_wp2_with fail
    go_ret
    refine ⟨by rw [HFL.out, strOfNums_bi]; rfl, ?_⟩
    (repeat (first | (with_reducible assumption) | (with_reducible exact Below.refl _ _) | (with_reducible refine bl_alloc ?_ _) | (with_reducible refine bl_drew ?_) | (with_reducible refine bl_drewN ?_ _) | (with_reducible refine bl_then (by assumption) ?_)))
end Go.Proofs.YtbgijijecipjeaaDoor
