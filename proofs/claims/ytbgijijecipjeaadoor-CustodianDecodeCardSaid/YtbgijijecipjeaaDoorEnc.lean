/- Contract of custodian.Encode. -/
import Derived.Test.YtbgijijecipjeaaDoorEqA
import Derived.Test.YtbgijijecipjeaaDoorStmt
import Derived.Test.YtbgijijecipjeaaDoorRow2
import Derived.Deep.RegionHeld3
namespace Go.Proofs.YtbgijijecipjeaaDoor
open Go.RowKit Go.IntWalk Go.Proofs.YtbgijijecipjeaaDoorW.PrintWords

/-- The encoding of members, of custodians. -/
def memW (m : Mem) : List UInt8 := wBytes m.name.data.toList ++ m.pub ++ wInt m.ht
def memsW (ms : List Mem) : List UInt8 := (ms.map memW).flatten
def cusW (ep need : Int) (ms : List Mem) : List UInt8 := wInts [ep, need, (ms.length : Int)] ++ memsW ms
theorem memsW_snoc (ms : List Mem) (m : Mem) : memsW (ms ++ [m]) = memsW ms ++ memW m := by simp [memsW]
/-- How much room members take at most. -/
def memsLen (ms : List Mem) : Nat := (ms.map fun m => m.name.size + 40).sum
theorem memW_length_le (m : Mem) (h : m.pub.length = 16) : (memW m).length ≤ m.name.size + 34 := by
  have h1 := wBytes_length_le m.name.data.toList
  have h2 := wInt_length_le m.ht
  rw [data_length] at h1
  simp [memW]; omega
theorem memsW_length_le (ms : List Mem) (h : ∀ m ∈ ms, m.pub.length = 16) : (memsW ms).length ≤ memsLen ms := by
  induction ms with
  | nil => simp [memsW]
  | cons x ms ih =>
    have h1 := memW_length_le x (h x (List.mem_cons_self ..))
    have h2 := ih fun m hm => h m (List.mem_cons_of_mem _ hm)
    simp [memsW, memsLen] at h2 ⊢; omega
theorem memsLen_take (ms : List Mem) (i : Nat) : memsLen (ms.take i) ≤ memsLen ms := by
  induction ms generalizing i with
  | nil => simp [memsLen]
  | cons x ps ih => cases i with
    | zero => simp [memsLen]
    | succ i => have := ih i; simp [memsLen] at this ⊢; omega
theorem memsLen_mem (ms : List Mem) (m : Mem) (h : m ∈ ms) : m.name.size + 40 ≤ memsLen ms := by
  induction ms with
  | nil => cases h
  | cons y ps ih =>
    rcases List.mem_cons.1 h with rfl | h
    · simp [memsLen]
    · have := ih h; simp [memsLen] at this ⊢; omega
theorem memRow_one (m : Mem) : ((memRow m).toArray.all fun x => x.oneCell') = true := by
  rw [Array.all_eq_true_iff_forall_mem]
  intro v hv
  have hv' : v ∈ memRow m := by simpa using hv
  simp only [memRow, List.mem_cons, List.mem_append, List.not_mem_nil, or_false] at hv'
  rcases hv' with rfl | hv' | rfl
  · rfl
  · exact Lib.byteCells_one _ v hv'
  · rfl
theorem memsLen_len (ms : List Mem) : 40 * ms.length ≤ memsLen ms := by
  induction ms with
  | nil => simp
  | cons x ms ih => simp [memsLen] at ih ⊢; omega
theorem add_add' (ad : Addr) (a b : Nat) : ad.add (a + b) = (ad.add a).add b := by
  unfold Addr.add
  by_cases h : a = 0
  · subst h; simp
  · by_cases h2 : b = 0
    · subst h2; simp
    · rw [if_neg (by omega), if_neg h, if_neg h2, Nat.add_assoc]
/-- At the list of a plain region's operations: a value is loaded whole. -/
theorem wpList_load_at {P : Program} {ops : Array Oper} {rest : List Oper} {op : Oper} {a : Act} {w : World} {Q : Exit → Act → World → Prop} (hgd : op.guard = none) (ty : TypeId) (x : Operand) (ho : op.op = .load ty x)
    (ad : Addr) (hx : a.eval x = .pointer (some ad)) (cs : List Value) (d : TypeDesc) (hc : ∀ k v, cs[k]? = some v → w.cell? (ad.add k) = some v)
    (hu : P.underlying ty = some d) (hd : d.isRow = true) (hi : (P.info? ty).map (·.size) = some cs.length)
    (h : wpList P ops Q rest (a.put op.dst (.agg cs.toArray)) w) : wpList P ops Q (op :: rest) a w := by
  refine wpList_plain hgd fun K hK => ?_
  unfold Oper.wp execOp
  simp only [ho, hx, Sem.run_bind, run_load_at w ty ad cs d hc hu hd hi, Result.andThen_ok, Sem.run_pure]
  exact hK _ _ h
theorem bb4 {W : World} {g : Nat} {t : TypeId} {fr : Nat × Nat} {A1 A2 A3 A4 : Option Addr} {n1 n2 n3 n4 c1 c2 c3 c4 : Nat} {x1 x2 x3 x4 : List UInt8} (hg : W.heap[g]? = some (.cells #[.slice A1 n1 c1, .slice A2 n2 c2, .slice A3 n3 c3, .slice A4 n4 c4] t fr))
    (h1 : ReadsInt W .u8 A1 n1 (bi x1)) (h2 : ReadsInt W .u8 A2 n2 (bi x2)) (h3 : ReadsInt W .u8 A3 n3 (bi x3)) (h4 : ReadsInt W .u8 A4 n4 (bi x4)) : ReadsBB W (some ⟨g, 0, none⟩) [x1, x2, x3, x4].length [x1, x2, x3, x4] := by
  obtain rfl : x1.length = n1 := by have := h1.1; rwa [bi_length] at this
  obtain rfl : x2.length = n2 := by have := h2.1; rwa [bi_length] at this
  obtain rfl : x3.length = n3 := by have := h3.1; rwa [bi_length] at this
  obtain rfl : x4.length = n4 := by have := h4.1; rwa [bi_length] at this
  refine ⟨rfl, fun j x hx => ?_⟩
  rcases j with _ | _ | _ | _ | j
  · obtain rfl : x1 = x := by simpa using hx
    exact ⟨_, A1, c1, rfl, by rw [add_plain, cell_of_row _ _ _ _ _ _ hg]; rfl, h1⟩
  · obtain rfl : x2 = x := by simpa using hx
    exact ⟨_, A2, c2, rfl, by rw [add_plain, cell_of_row _ _ _ _ _ _ hg]; rfl, h2⟩
  · obtain rfl : x3 = x := by simpa using hx
    exact ⟨_, A3, c3, rfl, by rw [add_plain, cell_of_row _ _ _ _ _ _ hg]; rfl, h3⟩
  · obtain rfl : x4 = x := by simpa using hx
    exact ⟨_, A4, c4, rfl, by rw [add_plain, cell_of_row _ _ _ _ _ _ hg]; rfl, h4⟩
  · simp at hx
theorem rd_keep_b {W w1 : World} (hb : Below W.heap.size W w1) {k : IntKind} {A : Option Addr} {n : Nat} {xs : List Int} (h : ReadsInt W k A n xs) : ReadsInt w1 k A n xs := h.below hb
theorem rd_keep_alloc {W : World} {k : IntKind} {A : Option Addr} {n : Nat} {xs : List Int} (h : ReadsInt W k A n xs) (o : Obj) : ReadsInt (W.alloc o) k A n xs := h.allocS o
theorem rd_keep_drew {W : World} {k : IntKind} {A : Option Addr} {n : Nat} {xs : List Int} (h : ReadsInt W k A n xs) : ReadsInt W.drew k A n xs := h
theorem rd_keep_drewN {W : World} {k : IntKind} {A : Option Addr} {n : Nat} {xs : List Int} (h : ReadsInt W k A n xs) (m : Nat) : ReadsInt (W.drewN m) k A n xs := h
theorem cell_keep_b {W w1 : World} (hb : Below W.heap.size W w1) {a : Addr} {v : Value} (h : W.cell? a = some v) : w1.cell? a = some v := pw_cell_below hb h
theorem cell_keep_alloc {W : World} {a : Addr} {v : Value} (h : W.cell? a = some v) (o : Obj) : (W.alloc o).cell? a = some v := pw_cell_below ((Below.refl _ _).alloc (Nat.le_refl _) o) h
theorem cell_keep_drew {W : World} {a : Addr} {v : Value} (h : W.cell? a = some v) : W.drew.cell? a = some v := h
theorem cell_keep_drewN {W : World} {a : Addr} {v : Value} (h : W.cell? a = some v) (m : Nat) : (W.drewN m).cell? a = some v := h
theorem reads3 {W : World} {g : Nat} {a b c : Int} {t : TypeId} {fr : Nat × Nat} (hg : W.heap[g]? = some (.cells #[Value.int .i64 a, Value.int .i64 b, Value.int .i64 c] t fr)) : ReadsInt W .i64 (some ⟨g, 0, none⟩) 3 [a, b, c] := by
  refine ⟨rfl, by decide, fun _ => ⟨_, rfl, fun j hj => ?_⟩⟩
  rw [add_plain, cell_of_row _ _ _ _ _ _ hg]
  rcases j with _ | _ | _ | j
  · rfl
  · rfl
  · rfl
  · omega

set_option maxRecDepth 100000 in
set_option maxHeartbeats 4000000 in
theorem enc_any (ep need : Int) (A : Option Addr) (c : Nat) (ms : List Mem) (w : World) (hr : ReadsMem w A ms.length ms) (h1 : in64 ep) (h2 : in64 need) (h3 : ∀ m ∈ ms, in64 m.ht) (hn : memsLen ms ≤ 17592186044416) :
    Calls Tryd.prog 18 #[cusV ep need A ms.length c] w fun e w' => e = .returned (.string ⟨(cusW ep need ms).toArray⟩) ∧ Below w.heap.size w w' := by
  have HR := Lib.hid hr
  have H3 := Lib.hid h3
  clear hr h3
  unfold cusV
  go_enter Tryd.func18, Tryd.ntmps18
  go_wp2_with fail
  obtain ⟨w0, hw0⟩ : ∃ w0, w0 = w.alloc (Obj.cells #[Value.int IntKind.i64 ep, Value.int IntKind.i64 need, Value.slice A ms.length c] 24) := ⟨_, rfl⟩
  have hz0 : w0.heap.size = w.heap.size + 1 := by rw [hw0, szA]
  have hB0 : Below w.heap.size w w0 := by rw [hw0]; exact (Below.refl _ _).alloc (Nat.le_refl _) _
  have hbx : w0.heap[w.heap.size]? = some (.cells #[Value.int IntKind.i64 ep, Value.int IntKind.i64 need, Value.slice A ms.length c] 24 (0, 0)) := by rw [hw0]; exact heap_alloc_new _ _
  rw [← hw0, ← hz0]
  clear hw0
  have hms : memsLen ms ≤ 17592186044416 := hn
  have hml := memsLen_len ms
  refine (ints_any (some ⟨w0.heap.size, 0, none⟩) 3 [ep, need, (ms.length : Int)] _ (reads3 (heap_alloc_new w0 _)) (by simp) (by simp) (by intro x hx; simp at hx; rcases hx with rfl | rfl | rfl <;> first | assumption | (constructor <;> omega))).mono ?_
  rintro e w1 ⟨v, rfl, hown, hB⟩
  have hB1 : Below w0.heap.size w0 w1 := by (repeat (first | (with_reducible assumption) | (with_reducible exact Below.refl _ _) | (with_reducible refine bl_alloc ?_ _) | (with_reducible refine bl_drew ?_) | (with_reducible refine bl_drewN ?_ _) | (with_reducible refine bl_then (by assumption) ?_)))
  have hown1 := own_mono hown (show w0.heap.size ≤ _ by rw [szA]; omega)
  have hz1 := hB1.size
  have hbx1 := (hB1.block _ (show w.heap.size < w0.heap.size by omega)).trans hbx
  have hx1 := cell_of_row _ _ 2 _ _ _ hbx1
  have HO1 := Lib.hid hown1
  have HB1 := Lib.hid hB1
  clear hown hB hown1 hB1 hbx1
  go_wp2_with fail
  go_loopw [3, 18] (fun v3 v18 wr => ∃ i : Nat, i ≤ ms.length ∧ v18 = .int .i64 i ∧ Below w0.heap.size w0 wr ∧ wr.ownsRow w0.heap.size 5 1 v3 (bi (wInts [ep, need, (ms.length : Int)] ++ memsW (ms.take i))).length (nums .u8 (bi (wInts [ep, need, (ms.length : Int)] ++ memsW (ms.take i))))) (fun _ v18 _ => ms.length - (RowKit.intOf v18).toNat)
  case atStart => exact ⟨0, by omega, rfl, HB1.out, by rw [List.take_zero, show memsW [] = [] from rfl, List.append_nil]; exact HO1.out⟩
  case round =>
    clear HO1 HB1
    obtain ⟨i, hi, rfl, hB, hown⟩ := hrel
    have hz := hB.size
    obtain ⟨pre, hpre⟩ : ∃ pre, pre = wInts [ep, need, (ms.length : Int)] ++ memsW (ms.take i) := ⟨_, rfl⟩
    rw [← hpre] at hown
    have hpl : pre.length ≤ 36 + memsLen ms := by
      have e1 := wInt_length_le (([ep, need, (ms.length : Int)] : List Int).length : Int)
      have e2 := wMany_length_le [ep, need, (ms.length : Int)]
      have e3 := memsW_length_le (ms.take i) (fun m hm => by
        obtain ⟨j, hj⟩ := List.getElem?_of_mem (List.mem_of_mem_take hm)
        exact (HR.out.2 j m hj).1)
      have e4 := memsLen_take ms i
      rw [hpre, List.length_append, wInts, List.length_append]
      simp only [List.length_cons, List.length_nil] at e1 e2 ⊢
      omega
    have HPRE := Lib.hid hpre
    clear hpre
    obtain ⟨A3, c3, rfl, hr3⟩ := own_reads hown
    by_cases hlt : i < ms.length
    · have d1 : decide ((i : Int) < ms.length) = true := decide_eq_true (by omega)
      obtain ⟨m, hm⟩ : ∃ m, ms[i]? = some m := ⟨_, List.getElem?_eq_getElem hlt⟩
      obtain ⟨hp16, ad, rfl, hcell⟩ := (HR.out.below (hB0.trans (hB.mono (by omega)))).2 i m hm
      have hcl : ∀ k v, (memRow m)[k]? = some v → wr.cell? ((ad.add (i * 18)).add k) = some v := fun k v hv => by rw [← add_add']; exact hcell k v hv
      have hml18 := memRow_length m hp16
      have h47 : (Tryd.prog.info? 47).map (·.size) = some (memRow m).length := by rw [hml18]; kernel_rfl
      have HOWN := Lib.hid hown
      have HR3 := Lib.hid hr3
      have HB := Lib.hid hB
      have HCL := Lib.hid hcl
      have HM := Lib.hid hm
      clear hown hr3 hB hcl hm hcell
      go_upto_region 5 with (first
        | ((with_reducible show wpList _ _ _ (⟨some 21, _, _, _, _, _⟩ :: _) _ _); go_must (refine wpList_load_at rfl 47 (.tmp 20) rfl (ad.add (i * 18)) rfl (memRow m) _ HCL.out Tryd.underlying47 rfl h47 ?_))
        | ((with_reducible show wpList _ _ _ (⟨none, .store 47 _ _, _, _, _, _⟩ :: _) _ _); go_must (refine wpList_store_row rfl 47 (.tmp 5) (.tmp 21) rfl wr.heap.size _ rfl rfl 47 _ (heap_alloc_new _ _) (by rw [List.size_toArray]; exact h47) (by rw [List.size_toArray, List.size_toArray, hml18]; rfl) (memRow_one m) ?_)))
      obtain ⟨w2, hw2⟩ : ∃ w2, w2 = wr.alloc (.cells (memRow m).toArray 47) := ⟨_, rfl⟩
      rw [setRow_alloc_new', ← hw2]
      have hB2 : Below w0.heap.size w0 w2 := by rw [hw2]; exact HB.out.alloc hz _
      have hBr : Below wr.heap.size wr w2 := by rw [hw2]; exact (Below.refl _ _).alloc (Nat.le_refl _) _
      have hg2 : w2.heap[wr.heap.size]? = some (.cells (memRow m).toArray 47 (0, 0)) := by rw [hw2]; exact heap_alloc_new _ _
      have hz2 : w2.heap.size = wr.heap.size + 1 := by rw [hw2, szA]
      clear hw2
      obtain ⟨q, hq⟩ : ∃ q, q = wr.heap.size := ⟨_, rfl⟩
      rw [← hq] at hg2 ⊢
      have HQ := Lib.hid hq
      clear hq
      have hc0 : w2.cell? ⟨q, 0, none⟩ = some (.string m.name) := by rw [cell_of_row _ _ _ _ _ _ hg2]; rfl
      have hc17 : w2.cell? ⟨q, 17, none⟩ = some (.int .i64 m.ht) := by
        rw [cell_of_row _ _ _ _ _ _ hg2, List.getElem?_toArray, memRow, List.getElem?_cons_succ, List.getElem?_append_right (by rw [Lib.byteCells_length, hp16]; decide), Lib.byteCells_length, hp16]; rfl
      have hrp : ReadsInt w2 .u8 (some ⟨q, 1, none⟩) 16 (bi m.pub) := by
        refine ⟨by rw [bi_length]; exact hp16, by decide, fun _ => ⟨_, rfl, fun j hj => ?_⟩⟩
        rw [Addr.add_mid, cell_of_row _ _ _ _ _ _ hg2, List.getElem?_toArray, memRow, Nat.add_comm 1 j, List.getElem?_cons_succ, List.getElem?_append_left (by rw [Lib.byteCells_length, hp16]; exact hj), Lib.byteCells, List.getElem?_map, List.getElem?_eq_getElem (by omega), List.getD_eq_getElem?_getD, bi, List.getElem?_map, List.getElem?_eq_getElem (by omega)]
        rfl
      have HRP := Lib.hid hrp
      have HR4 := Lib.hid (HR3.out.below hBr)
      have HO4 := Lib.hid (pw_own_below HOWN.out hBr)
      have hns : m.name.size ≤ 35184372088832 := by
        have := memsLen_mem ms m (List.mem_of_getElem? HM.out); omega
      have hht := H3.out m (List.mem_of_getElem? HM.out)
      have hsl : sumLen [pre, wBytes m.name.data.toList, m.pub, wInt m.ht] ≤ 70368744177664 := by
        have e1 := wBytes_length_le m.name.data.toList
        have e2 := wInt_length_le m.ht
        rw [data_length] at e1
        simp [sumLen, hp16]; omega
      have HSL := Lib.hid hsl
      have hfl : [pre, wBytes m.name.data.toList, m.pub, wInt m.ht].flatten = wInts [ep, need, (ms.length : Int)] ++ memsW (ms.take (i + 1)) := by
        rw [take_succ_some ms i m HM.out, memsW_snoc, HPRE.out, memW]; simp
      have HFL := Lib.hid hfl
      have HLN : Hid ([pre, wBytes m.name.data.toList, m.pub, wInt m.ht].length ≤ 1099511627776) := Lib.hid (by simp)
      have HBB : Hid (∀ (W : World) (g : Nat) (Ab Ai : Option Addr) (cb ci : Nat), W.heap[g]? = some (.cells #[.slice A3 (bi pre).length c3, .slice Ab (bi (wBytes m.name.data.toList)).length cb, .slice (some ⟨q, 1, none⟩) 16 16, .slice Ai (bi (wInt m.ht)).length ci] 56 (0, 0)) → ReadsInt W .u8 A3 (bi pre).length (bi pre) → ReadsInt W .u8 Ab (bi (wBytes m.name.data.toList)).length (bi (wBytes m.name.data.toList)) → ReadsInt W .u8 (some ⟨q, 1, none⟩) 16 (bi m.pub) → ReadsInt W .u8 Ai (bi (wInt m.ht)).length (bi (wInt m.ht)) → ReadsBB W (some ⟨g, 0, none⟩) [pre, wBytes m.name.data.toList, m.pub, wInt m.ht].length [pre, wBytes m.name.data.toList, m.pub, wInt m.ht]) := Lib.hid (fun W g Ab Ai cb ci h e1 e2 e3 e4 => bb4 h e1 e2 e3 e4)
      clear hrp hbx hx1 hg2 hsl hfl
      simp only [Act.put]
      go_region_held3 (fun w' => w'.cell? ⟨q, 0, none⟩ = some (.string m.name) ∧ w'.cell? ⟨q, 17, none⟩ = some (.int .i64 m.ht)) (refine ⟨?_, ?_⟩ <;> (repeat (first | (with_reducible assumption) | (with_reducible refine cell_keep_alloc ?_ _) | (with_reducible refine cell_keep_drew ?_) | (with_reducible refine cell_keep_drewN ?_ _) | (refine cell_keep_b (by assumption) ?_) | (go_split_ands; assumption))))
        (first
          | (go_at_call 33; go_must (refine (bytes_any m.name _ ?_).mono ?_; (focus omega); rintro e w3 ⟨v3, rfl, hown3, hB3⟩; obtain ⟨Ab, cb, rfl, hrb⟩ := own_reads hown3; clear hown3))
          | (go_at_call 34; go_must (refine (int_any m.ht _ hht.1 hht.2).mono ?_; rintro e w4 ⟨v4, rfl, hown4, hB4⟩; obtain ⟨Ai, ci, rfl, hri⟩ := own_reads hown4; clear hown4))
          | (go_at_call 32; go_must (refine (concat_any _ 4 [pre, wBytes m.name.data.toList, m.pub, wInt m.ht] _ (HBB.out _ w4.heap.size Ab Ai cb ci (heap_alloc_new w4 _) (rd_keep_alloc (rd_keep_b hB4 (rd_keep_b hB3 HR4.out)) _) (rd_keep_alloc (rd_keep_b hB4 hrb) _) (rd_keep_alloc (rd_keep_b hB4 (rd_keep_b hB3 HRP.out)) _) (rd_keep_alloc hri _)) HSL.out HLN.out).mono ?_; rintro e w5 ⟨v5, rfl, hown5, hB5⟩)))
      have hb5 : Below w0.heap.size w0 w5 := by (repeat (first | (with_reducible assumption) | (with_reducible exact Below.refl _ _) | (with_reducible refine bl_alloc ?_ _) | (with_reducible refine bl_drew ?_) | (with_reducible refine bl_drewN ?_ _) | (with_reducible refine bl_then (by assumption) ?_)))
      go_wp2_with fail
      go_roundw
      case rel =>
        refine ⟨i + 1, by omega, by go_num, ?_, ?_⟩
        · exact hb5
        · rw [← HFL.out]; exact own_mono hown5 (by rw [szA]; have e3 : w2.heap.size ≤ w3.heap.size := hB3.size; have e4 : w3.heap.size ≤ w4.heap.size := hB4.size; omega)
      case measure => simp [RowKit.intOf]; omega
    · have d1 : decide ((i : Int) < ms.length) = false := decide_eq_false (by omega)
      obtain rfl : i = ms.length := by omega
      have hcv := own_string (P := Tryd.prog) Tryd.underlying56 Tryd.underlying5 Tryd.underlying9 hown
      rw [strOfNums_bi] at hcv
      have hcu : cusW ep need ms = pre := by rw [HPRE.out, List.take_length, cusW]
      have HCU := Lib.hid hcu
      clear hcu hown hr3
      go_wp2_with fail
      go_ret
      exact ⟨by rw [HCU.out]; rfl, hB0.trans (hB.mono (by omega))⟩
end Go.Proofs.YtbgijijecipjeaaDoor
