/- Contract of custodylaw30.CustodianStatements. -/
import Derived.Test.YtbgijijecipjeaaDoorSan
import Derived.Test.YtbgijijecipjeaaDoorStmt2
import Derived.Test.YtbgijijecipjeaaDoorPureS
namespace Go.Proofs.YtbgijijecipjeaaDoor
open Go.RowKit Go.IntWalk Go.Proofs.YtbgijijecipjeaaDoorW.PrintWords

@[go_sem ↓] theorem loadAt_parts (v : Value) : Instr.loadAt 43 v = loadRow 43 v := rfl
@[go_sem ↓] theorem storeAt_parts (v x : Value) : Instr.storeAt 43 v x = storeRow 43 v x := rfl
@[go_sem] theorem run_loadRow_parts (p : Nat) (w : World) : (loadRow 43 (.pointer (some ⟨p, 0, none⟩))).run Tryd.prog w = loadRowK Tryd.prog 43 35 p w (row? w p) := (loadRowK_eq 43 35 p w Tryd.underlying43 rfl (by kernel_rfl)).symm
@[go_sem] theorem run_storeRow_parts (p : Nat) (X : Array Value) (w : World) : (storeRow 43 (.pointer (some ⟨p, 0, none⟩)) (.agg X)).run Tryd.prog w = storeRowK Tryd.prog 43 35 p X w (row? w p) := (storeRowK_eq 43 35 p X w (by kernel_rfl)).symm
-- attribute [go_sem high]
theorem parts_ranges {W : World} {B : Nat} {p : Parts} (hp : p.Ok) (h : row? W B = some (partsRow p).toArray) : W.rangeAt B 0 (Lib.byteCells p.dom) ∧ W.rangeAt B 16 (Lib.byteCells p.cmd) ∧ W.cell? ⟨B, 32, none⟩ = some (.int .i64 p.ep) ∧ W.cell? ⟨B, 33, none⟩ = some (.int .i64 p.rq) ∧ W.cell? ⟨B, 34, none⟩ = some (.int .i64 p.verb) := by
  have hd : (Lib.byteCells p.dom).length = 16 := by rw [Lib.byteCells_length]; exact hp.dom
  have hc : (Lib.byteCells p.cmd).length = 16 := by rw [Lib.byteCells_length]; exact hp.cmd
  refine ⟨fun j v hv => ?_, fun j v hv => ?_, ?_, ?_, ?_⟩
  · have hj := (List.getElem?_eq_some_iff.1 hv).1
    rw [Nat.zero_add, row_cell h, List.getElem?_toArray, partsRow, List.getElem?_append_left hj]; exact hv
  · have hj := (List.getElem?_eq_some_iff.1 hv).1
    rw [row_cell h, List.getElem?_toArray, partsRow, List.getElem?_append_right (by omega), hd, show 16 + j - 16 = j by omega, List.getElem?_append_left hj]; exact hv
  · rw [row_cell h, List.getElem?_toArray, partsRow, List.getElem?_append_right (by omega), hd, List.getElem?_append_right (by omega), hc]; rfl
  · rw [row_cell h, List.getElem?_toArray, partsRow, List.getElem?_append_right (by omega), hd, List.getElem?_append_right (by omega), hc]; rfl
  · rw [row_cell h, List.getElem?_toArray, partsRow, List.getElem?_append_right (by omega), hd, List.getElem?_append_right (by omega), hc]; rfl
def partsLits (p : Parts) : List Lit := digLits p.dom ++ (digLits p.cmd ++ [.int .i64 p.ep, .int .i64 p.rq, .int .i64 p.verb])
theorem partsLits_inj (a b : Parts) (ha : a.Ok) (hb : b.Ok) (h : partsLits a = partsLits b) : a = b := by
  unfold partsLits at h
  have hl (x y : List UInt8) (hx : x.length = 16) (hy : y.length = 16) : (digLits x).length = (digLits y).length := by simp only [digLits, List.length_map]; exact hx.trans hy.symm
  obtain ⟨e1, h2⟩ := List.append_inj h (hl _ _ ha.dom hb.dom)
  obtain ⟨e2, h3⟩ := List.append_inj h2 (hl _ _ ha.cmd hb.cmd)
  replace e1 := digLits_inj _ _ e1
  replace e2 := digLits_inj _ _ e2
  clear h h2
  cases a; cases b
  simp only [List.cons.injEq, Lit.int.injEq, true_and, and_true] at h3
  simp only at e1 e2
  obtain ⟨e3, e4, e5⟩ := h3
  subst e1 e2 e3 e4 e5
  rfl
theorem cells43 : Tryd.prog.cellsOf 43 = 35 := by kernel_rfl
theorem key_parts (d : Nat) (p : Parts) (hp : p.Ok) : Tryd.prog.keyLits (d + 3) 43 (partsRow p) = some (partsLits p) := by
  have hl := partsRow_length p hp
  have c3 : Tryd.prog.cellsOf 3 = 1 := by kernel_rfl
  have hd : (Lib.byteCells p.dom).length = 16 := by rw [Lib.byteCells_length]; exact hp.dom
  have hc : (Lib.byteCells p.cmd).length = 16 := by rw [Lib.byteCells_length]; exact hp.cmd
  unfold Program.keyLits
  rw [Tryd.underlying43]
  simp only [hl, cells43, true_and]
  have e32 : (Lib.byteCells p.dom ++ (Lib.byteCells p.cmd ++ [Value.int IntKind.i64 p.ep, Value.int IntKind.i64 p.rq, Value.int IntKind.i64 p.verb])).drop 32 = [Value.int IntKind.i64 p.ep, Value.int IntKind.i64 p.rq, Value.int IntKind.i64 p.verb] := by
    rw [← List.append_assoc]; exact List.drop_left' (by rw [List.length_append, hd, hc])
  have e33 : (Lib.byteCells p.dom ++ (Lib.byteCells p.cmd ++ [Value.int IntKind.i64 p.ep, Value.int IntKind.i64 p.rq, Value.int IntKind.i64 p.verb])).drop 33 = [Value.int IntKind.i64 p.rq, Value.int IntKind.i64 p.verb] := by
    rw [show 33 = 32 + 1 from rfl, ← List.drop_drop, e32]; rfl
  have e34 : (Lib.byteCells p.dom ++ (Lib.byteCells p.cmd ++ [Value.int IntKind.i64 p.ep, Value.int IntKind.i64 p.rq, Value.int IntKind.i64 p.verb])).drop 34 = [Value.int IntKind.i64 p.verb] := by
    rw [show 34 = 32 + 2 from rfl, ← List.drop_drop, e32]; rfl
  simp [cells36, c3, partsRow, hd, hc, e32, e33, e34]
  rw [key_dig d p.dom hp.dom, key_dig d p.cmd hp.cmd, key_int (d + 1) p.ep hp.ep, key_int (d + 1) p.rq hp.rq, key_int (d + 1) p.verb hp.verb]
  simp [partsLits]
theorem formed_parts (p : Parts) (hp : p.Ok) : (Value.agg (partsRow p).toArray).formed Tryd.prog 43 = true := by
  simp [Value.formed, Tryd.underlying43, cells43, partsRow_length p hp]
open Classical in
theorem eq_parts (a b : Parts) (w : World) (ha : a.Ok) (hb : b.Ok) (r : Bool) (hr : r = true ↔ a = b) :
    (Op.equalIn 10000 43 (.agg (partsRow a).toArray) (.agg (partsRow b).toArray)).run Tryd.prog w = .ok r w := by
  obtain ⟨r', hr', hiff⟩ := run_equalIn_deep (P := Tryd.prog) 9996 4 43 (by kernel_rfl) w 3 3 _ _ (partsLits a) (partsLits b) (formed_parts a ha) (formed_parts b hb) (key_parts 0 a ha) (key_parts 0 b hb)
  have e : r' = r := by
    rw [Bool.eq_iff_iff, hr]
    exact ⟨fun h => partsLits_inj a b ha hb (hiff.1 h), fun h => hiff.2 (by rw [h])⟩
  rw [← e]; exact hr'
theorem loadRowK_else (P : Program) (t n p : Nat) (w : World) (X : Array Value) (h : ¬ X.size = n) : loadRowK P t n p w (some X) = (Instr.loadAt t (.pointer (some ⟨p, 0, none⟩))).run P w := by simp [loadRowK, h]
theorem rng_keep_b {W w1 : World} (hb : Below W.heap.size W w1) {b o : Nat} {cs : List Value} (h : W.rangeAt b o cs) : w1.rangeAt b o cs := range_below hb h

set_option maxRecDepth 100000 in
set_option maxHeartbeats 8000000 in
theorem law_any (a b : Parts) (ha : a.Ok) (hb : b.Ok) (w : World) (hT : TabK w) : Calls Tryd.prog 5 #[.agg (partsRow a).toArray, .agg (partsRow b).toArray] w fun e w' => e = .returned (.bool true) ∧ Below w.heap.size w w' := by
  obtain ⟨w0, hw0⟩ : ∃ w0, w0 = (w.alloc (.cells (partsRow a).toArray 43)).alloc (.cells (partsRow b).toArray 43) := ⟨_, rfl⟩
  have hB0 : Below w.heap.size w w0 := by rw [hw0]; (repeat (first | (with_reducible assumption) | (with_reducible exact Below.refl _ _) | (with_reducible refine bl_alloc ?_ _) | (with_reducible refine bl_drew ?_) | (with_reducible refine bl_drewN ?_ _) | (with_reducible refine bl_then (by assumption) ?_)))
  have hr1 : row? w0 w.heap.size = some (partsRow a).toArray := by rw [hw0]; exact row_of (hp_alloc (heap_alloc_new _ _) _)
  have hr2 : row? w0 (w.heap.size + 1) = some (partsRow b).toArray := by rw [hw0]; exact row_of (heap_alloc2_new _ _ _)
  obtain ⟨B1, hB1⟩ : ∃ B1, B1 = w.heap.size := ⟨_, rfl⟩
  obtain ⟨B2, hB2⟩ : ∃ B2, B2 = w.heap.size + 1 := ⟨_, rfl⟩
  have HB0 := Lib.hid hB0
  have HN := Lib.hid (And.intro hB1 hB2)
  rw [← hB1] at hr1
  rw [← hB2] at hr2
  have HR1 := Lib.hid hr1
  have HR2 := Lib.hid hr2
  obtain ⟨hd1, hc1, k32, k33, k34⟩ := parts_ranges ha hr1
  obtain ⟨hd2, hc2, l32, l33, l34⟩ := parts_ranges hb hr2
  have h16d1 : (Tryd.prog.info? 36).map (·.size) = some (Lib.byteCells a.dom).length := by rw [Lib.byteCells_length, ha.dom]; kernel_rfl
  have h16c1 : (Tryd.prog.info? 36).map (·.size) = some (Lib.byteCells a.cmd).length := by rw [Lib.byteCells_length, ha.cmd]; kernel_rfl
  have h16d2 : (Tryd.prog.info? 36).map (·.size) = some (Lib.byteCells b.dom).length := by rw [Lib.byteCells_length, hb.dom]; kernel_rfl
  have h16c2 : (Tryd.prog.info? 36).map (·.size) = some (Lib.byteCells b.cmd).length := by rw [Lib.byteCells_length, hb.cmd]; kernel_rfl
  have HD1 := Lib.hid hd1
  have HC1 := Lib.hid hc1
  have HD2 := Lib.hid hd2
  have HC2 := Lib.hid hc2
  have HA := Lib.hid ha
  have HBb := Lib.hid hb
  clear hd1 hc1 hd2 hc2 hB0 hr1 hr2
  obtain ⟨S, hS⟩ : ∃ S, S = stmtW a.dom a.ep a.rq a.verb a.cmd := ⟨_, rfl⟩
  obtain ⟨T, hT'⟩ : ∃ T, T = stmtW b.dom b.ep b.rq b.verb b.cmd := ⟨_, rfl⟩
  have HS := Lib.hid hS
  have HT' := Lib.hid hT'
  go_enter Tryd.func5, Tryd.ntmps5
  go_upto_region 1 with fail
  rw [← hw0, ← hB1, show B1 + 1 = B2 by rw [hB1]; exact hB2.symm]
  clear hw0 hB1 hB2 hS hT'
  go_wp2_with (first
    | ((with_reducible show wpList _ _ _ (⟨some 8, _, _, _, _, _⟩ :: _) _ _); go_must (refine wpList_load_mid rfl 36 (.tmp 7) rfl B1 0 rfl _ _ HD1.out Tryd.underlying36 rfl h16d1 ?_))
    | ((with_reducible show wpList _ _ _ (⟨some 16, _, _, _, _, _⟩ :: _) _ _); go_must (refine wpList_load_mid rfl 36 (.tmp 15) rfl B1 16 rfl _ _ HC1.out Tryd.underlying36 rfl h16c1 ?_)))
  refine (stmt_any a.dom a.cmd a.ep a.rq a.verb w0 HA.out.dom HA.out.cmd HA.out.ep HA.out.rq HA.out.verb).mono ?_
  rintro e w1 ⟨rfl, hB1⟩
  rw [← HS.out]
  have m32 := cell_keep_b hB1 l32
  have m33 := cell_keep_b hB1 l33
  have m34 := cell_keep_b hB1 l34
  have HD2' := Lib.hid (rng_keep_b hB1 HD2.out)
  have HC2' := Lib.hid (rng_keep_b hB1 HC2.out)
  have HR1' := Lib.hid (rk_b hB1 HR1.out)
  have HR2' := Lib.hid (rk_b hB1 HR2.out)
  have HBw1 := Lib.hid (HB0.out.trans (hB1.mono HB0.out.size))
  clear hB1 HD2 HC2 HR1 HR2 HB0 k32 k33 k34 l32 l33 l34 HD1 HC1
  go_wp2_with (first
    | ((with_reducible show wpList _ _ _ (⟨some 19, _, _, _, _, _⟩ :: _) _ _); go_must (refine wpList_load_mid rfl 36 (.tmp 18) rfl B2 0 rfl _ _ HD2'.out Tryd.underlying36 rfl h16d2 ?_))
    | ((with_reducible show wpList _ _ _ (⟨some 27, _, _, _, _, _⟩ :: _) _ _); go_must (refine wpList_load_mid rfl 36 (.tmp 26) rfl B2 16 rfl _ _ HC2'.out Tryd.underlying36 rfl h16c2 ?_)))
  refine (stmt_any b.dom b.cmd b.ep b.rq b.verb w1 HBb.out.dom HBb.out.cmd HBb.out.ep HBb.out.rq HBb.out.verb).mono ?_
  rintro e w2 ⟨rfl, hB2⟩
  rw [← HT'.out]
  have hr1 := rk_b hB2 HR1'.out
  have hr2 := rk_b hB2 HR2'.out
  have HBw2 := Lib.hid (HBw1.out.trans (hB2.mono HBw1.out.size))
  clear hB2 HR1' HR2' HBw1 HD2' HC2' m32 m33 m34
  have HT2 := Lib.hid (hT.below HBw2.out)
  have hla := partsRow_length a HA.out
  have hlb := partsRow_length b HBb.out
  have hR1 := Lib.hid hr1
  have hR2 := Lib.hid hr2
  clear hr1 hr2
  go_wp2_with fail
  refine (sanity_any w2 HT2.out).mono ?_
  rintro e w3 ⟨rfl, hB3⟩
  have hr1 := rk_b hB3 hR1.out
  have hr2 := rk_b hB3 hR2.out
  have HBw3 := Lib.hid (HBw2.out.trans (hB3.mono HBw2.out.size))
  clear hB3 hR1 hR2 HBw2 HT2
  obtain ⟨hd1, hc1, k32, k33, k34⟩ := parts_ranges HA.out hr1
  have hld1 : loadRowK Tryd.prog 36 16 B1 w3 (some (partsRow a).toArray) = .ok (.agg (Lib.byteCells a.dom).toArray) w3 := by
    refine (loadRowK_else _ _ _ _ _ _ (by rw [List.size_toArray, hla]; decide)).trans ?_
    exact run_loadAt_mid w3 B1 0 _ _ _ hd1 Tryd.underlying36 rfl h16d1
  have hld2 : (loadRow 36 (.pointer (some ⟨B1, 16, none⟩))).run Tryd.prog w3 = .ok (.agg (Lib.byteCells a.cmd).toArray) w3 := run_loadAt_mid w3 B1 16 _ _ _ hc1 Tryd.underlying36 rfl h16c1
  have HR1 := Lib.hid hr1
  have HR2 := Lib.hid hr2
  have HLA := Lib.hid hla
  clear hd1 hc1 hr2 hla
  go_wp2_with fail
  refine (rstmt_any a.dom a.cmd a.ep a.rq a.verb w3 HA.out.dom HA.out.cmd HA.out.ep HA.out.rq HA.out.verb).mono ?_
  rintro e w4 ⟨rfl, hB4⟩
  rw [← HS.out]
  clear hr1 hld1 hld2 k32 k33 k34
  have hr1 := rk_b hB4 HR1.out
  have hr2 := rk_b hB4 HR2.out
  have hla := HLA.out
  have HBw4 := Lib.hid (HBw3.out.trans (hB4.mono HBw3.out.size))
  clear hB4 HR1 HR2 HBw3
  by_cases hab : a = b
  · have hst : T = S := by rw [HS.out, HT'.out, hab]
    subst hst
    have heq : ∀ W, (Op.equalIn 10000 43 (.agg (partsRow a).toArray) (.agg (partsRow b).toArray)).run Tryd.prog W = .ok true W := fun W => eq_parts a b W HA.out HBb.out true (by simp [hab])
    clear hab
    go_wp2_with fail
    go_ret
    exact ⟨rfl, HBw4.out⟩
  · have hst : S ≠ T := by
      rw [HS.out, HT'.out]
      exact fun h => hab (partsW_inj a b HA.out HBb.out h)
    have heq : ∀ W, (Op.equalIn 10000 43 (.agg (partsRow a).toArray) (.agg (partsRow b).toArray)).run Tryd.prog W = .ok false W := fun W => eq_parts a b W HA.out HBb.out false (by simp [hab])
    have hbeq : (S == T) = false := beq_eq_false_iff_ne.2 hst
    clear hab hst
    go_wp2_with fail
    go_ret
    exact ⟨rfl, HBw4.out⟩
end Go.Proofs.YtbgijijecipjeaaDoor
