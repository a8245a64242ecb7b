/- Contract of custodian.Valid. -/
import Derived.Test.YtbgijijecipjeaaDoorMap
import Derived.Test.YtbgijijecipjeaaDoorIdx
namespace Go.Proofs.YtbgijijecipjeaaDoor
open Go.RowKit Go.IntWalk Go.Maps Go.Proofs.YtbgijijecipjeaaDoorW.PrintWords

def memOk (m : Mem) : Prop := 1 ≤ m.name.size ∧ m.name.size ≤ 12 ∧ 0 ≤ m.ht ∧ m.ht ≤ 6
def nameK (ms : List Mem) : List (List UInt8) := ms.map fun m => m.name.data.toList
def pubK (ms : List Mem) : List (List UInt8) := ms.map fun m => keyBytes (digLits m.pub)
/-- Valid custodians. -/
def validP (ep need : Int) (ms : List Mem) : Prop :=
  (∀ m ∈ ms, memOk m) ∧ (nameK ms).Nodup ∧ (pubK ms).Nodup ∧ 1 ≤ need ∧ need ≤ (ms.length : Int) ∧ ms.length ≤ 16 ∧ 0 ≤ ep ∧ ep ≤ 2147483646
open Classical in
noncomputable def validB (ep need : Int) (ms : List Mem) : Bool := decide (validP ep need ms)

theorem validB_false {ep need : Int} {ms : List Mem} (h : ¬ validP ep need ms) : validB ep need ms = false := by unfold validB; exact @decide_eq_false _ (Classical.propDecidable _) h
theorem validB_true {ep need : Int} {ms : List Mem} (h : validP ep need ms) : validB ep need ms = true := by unfold validB; exact @decide_eq_true _ (Classical.propDecidable _) h
theorem memNot {m : Mem} (h : ¬ memOk m) : (m.name.size : Int) < 1 ∨ (¬ (m.name.size : Int) < 1 ∧ 12 < (m.name.size : Int)) ∨ (¬ (m.name.size : Int) < 1 ∧ ¬ 12 < (m.name.size : Int) ∧ m.ht < 0) ∨ (¬ (m.name.size : Int) < 1 ∧ ¬ 12 < (m.name.size : Int) ∧ ¬ m.ht < 0 ∧ 6 < m.ht) := by
  unfold memOk at h; omega
def SD (ks : List (List UInt8)) : DataW Unit := setOf (.lit (.bool true)) (ks.map Lit.string)
theorem SD_size (ks : List (List UInt8)) : Maps.size (SD ks) = (ks.foldl addS []).length := by
  rw [SD, size_setOf _ _ (by intro x hx; obtain ⟨y, -, rfl⟩ := List.mem_map.1 hx; exact trivial), show ([] : List Lit) = ([] : List (List UInt8)).map Lit.string from rfl, foldl_addKey, List.length_map]
theorem SD_snoc (ks : List (List UInt8)) (x : List UInt8) : SD (ks ++ [x]) = (SD ks).put (.string x) (.lit (.bool true)) := by
  rw [SD, List.map_append, List.map_cons, List.map_nil, setOf_snoc]; rfl
/-- A map in memory that holds these keys. -/
def MapK (w : World) (t b : Nat) (ks : List (List UInt8)) : Prop := w.ownsMap Tryd.prog t (plainElem Tryd.prog 4) b ks.length (SD ks)

set_option maxRecDepth 100000 in
set_option maxHeartbeats 4000000 in
theorem valid_any (ep need : Int) (A : Option Addr) (c : Nat) (ms : List Mem) (w : World) (hr : ReadsMem w A ms.length ms) (h3 : ∀ x ∈ ms, x.name.size ≤ maxLen ∧ in64 x.ht) (hn : ms.length ≤ 1099511627776) :
    Calls Tryd.prog 12 #[cusV ep need A ms.length c] w fun e w' => e = .returned (.bool (validB ep need ms)) ∧ Below w.heap.size w w' := by
  have HR := Lib.hid hr
  have H3 := Lib.hid h3
  clear hr h3
  unfold cusV
  have hmm := @run_makeMap Tryd.prog
  go_enter Tryd.func12, Tryd.ntmps12
  go_wp2_with fail
  obtain ⟨w0, hw0⟩ : ∃ w0, w0 = ((w.alloc (Obj.cells #[Value.int IntKind.i64 ep, Value.int IntKind.i64 need, Value.slice A ms.length c] 24)).alloc (.map #[] 0)).alloc (.map #[] 0) := ⟨_, rfl⟩
  have hM1 : MapK w0 9 (w.heap.size + 1) [] := by
    rw [hw0]
    have := (World.ownsMap_made (w.alloc (Obj.cells #[Value.int IntKind.i64 ep, Value.int IntKind.i64 need, Value.slice A ms.length c] 24)) Tryd.prog 9 (plainElem (H := Unit) Tryd.prog 4)).alloc (.map #[] 0)
    rw [szA] at this; exact this
  have hM2 : MapK w0 36 (w.heap.size + 1 + 1) [] := by
    rw [hw0]
    have := World.ownsMap_made ((w.alloc (Obj.cells #[Value.int IntKind.i64 ep, Value.int IntKind.i64 need, Value.slice A ms.length c] 24)).alloc (.map #[] 0)) Tryd.prog 36 (plainElem (H := Unit) Tryd.prog 4)
    rw [szA, szA] at this; exact this
  have hg0 : w0.heap[w.heap.size]? = some (.cells #[Value.int IntKind.i64 ep, Value.int IntKind.i64 need, Value.slice A ms.length c] 24 (0, 0)) := by
    rw [hw0]; exact hp_alloc (hp_alloc (heap_alloc_new _ _) _) _
  have hB0 : Below w.heap.size w w0 := by rw [hw0]; (repeat (first | (with_reducible assumption) | (with_reducible exact Below.refl _ _) | (with_reducible refine bl_alloc ?_ _) | (with_reducible refine bl_drew ?_) | (with_reducible refine bl_drewN ?_ _) | (with_reducible refine bl_then (by assumption) ?_)))
  have hz0 : w0.heap.size = w.heap.size + 1 + 1 + 1 := by rw [hw0, szA, szA, szA]
  rw [← hw0]
  clear hw0
  have HM1 := Lib.hid hM1
  have HM2 := Lib.hid hM2
  clear hM1 hM2
  -- the box and what lay before it stand; the two maps grow
  go_loopw [13] (fun v13 wr => ∃ i : Nat, i ≤ ms.length ∧ v13 = .int .i64 i ∧ (∀ m ∈ ms.take i, memOk m) ∧ Below w.heap.size w wr ∧ wr.heap[w.heap.size]? = w0.heap[w.heap.size]? ∧ w0.heap.size ≤ wr.heap.size ∧ MapK wr 9 (w.heap.size + 1) (nameK (ms.take i)) ∧ MapK wr 36 (w.heap.size + 1 + 1) (pubK (ms.take i))) (fun v13 _ => ms.length - (RowKit.intOf v13).toNat)
  case atStart => exact ⟨0, by omega, rfl, by simp, hB0, rfl, Nat.le_refl _, HM1.out, HM2.out⟩
  case round =>
    obtain ⟨i, hi, rfl, hok, hB, hbx, hz, hm1, hm2⟩ := hrel
    rw [hg0] at hbx
    have hx2 : wr.cell? ⟨w.heap.size, 2, none⟩ = some (.slice A ms.length c) := by rw [cell_of_row _ _ _ _ _ _ hbx]; rfl
    have HK1 := Lib.hid hm1
    have HK2 := Lib.hid hm2
    have HOK := Lib.hid hok
    clear hm1 hm2 hok
    by_cases hlt : i < ms.length
    · have d1 : decide ((i : Int) < ms.length) = true := decide_eq_true (by omega)
      obtain ⟨m, hm⟩ : ∃ m, ms[i]? = some m := ⟨_, List.getElem?_eq_getElem hlt⟩
      obtain ⟨hp16, ad, rfl, hcell⟩ := (HR.out.below hB).2 i m hm
      have hcl : ∀ k v, (memRow m)[k]? = some v → wr.cell? ((ad.add (i * 18)).add k) = some v := fun k v hv => by rw [← add_add']; exact hcell k v hv
      have hml18 := memRow_length m hp16
      have h47 : (Tryd.prog.info? 47).map (·.size) = some (memRow m).length := by rw [hml18]; kernel_rfl
      have hmo := H3.out m (List.mem_of_getElem? hm)
      have hmem := List.mem_of_getElem? hm
      have HCL := Lib.hid hcl
      have HB := Lib.hid hB
      have HM := Lib.hid hm
      have HBX := Lib.hid hbx
      have hbz := hB.size
      have HG0 := Lib.hid hg0
      clear hcl hcell hB hm hbx hg0
      go_upto_region 5 with (first
        | ((with_reducible show wpList _ _ _ (⟨some 16, _, _, _, _, _⟩ :: _) _ _); go_must (refine wpList_load_at rfl 47 (.tmp 15) rfl (ad.add (i * 18)) rfl (memRow m) _ HCL.out Tryd.underlying47 rfl h47 ?_))
        | ((with_reducible show wpList _ _ _ (⟨none, .store 47 _ _, _, _, _, _⟩ :: _) _ _); go_must (refine wpList_store_row rfl 47 (.tmp 6) (.tmp 16) rfl wr.heap.size _ rfl rfl 47 _ (heap_alloc_new _ _) (by rw [List.size_toArray]; exact h47) (by rw [List.size_toArray, List.size_toArray, hml18]; rfl) (memRow_one m) ?_)))
      rw [setRow_alloc_new']
      simp only [Act.put]
      obtain ⟨w2, hw2⟩ : ∃ w2, w2 = wr.alloc (.cells (memRow m).toArray 47) := ⟨_, rfl⟩
      have hg2 : w2.heap[wr.heap.size]? = some (.cells (memRow m).toArray 47 (0, 0)) := by rw [hw2]; exact heap_alloc_new _ _
      have hBr : Below wr.heap.size wr w2 := by rw [hw2]; exact (Below.refl _ _).alloc (Nat.le_refl _) _
      rw [← hw2]
      clear hw2
      obtain ⟨q, hq⟩ : ∃ q, q = wr.heap.size := ⟨_, rfl⟩
      rw [← hq] at hg2 ⊢
      have HQ := Lib.hid hq
      clear hq
      have hc0 : w2.cell? ⟨q, 0, none⟩ = some (.string m.name) := by rw [cell_of_row _ _ _ _ _ _ hg2]; rfl
      have hc17 : w2.cell? ⟨q, 17, none⟩ = some (.int .i64 m.ht) := by
        rw [cell_of_row _ _ _ _ _ _ hg2, List.getElem?_toArray, memRow, List.getElem?_cons_succ, List.getElem?_append_right (by rw [Lib.byteCells_length, hp16]; decide), Lib.byteCells_length, hp16]; rfl
      by_cases hmk : memOk m
      · obtain ⟨k1, k2, k3, k4⟩ := hmk
        have t1 : decide ((m.name.size : Int) < 1) = false := decide_eq_false (by omega)
        have t2 : decide (12 < (m.name.size : Int)) = false := decide_eq_false (by omega)
        have t3 : decide (m.ht < 0) = false := decide_eq_false (by omega)
        have t4 : decide (6 < m.ht) = false := decide_eq_false (by omega)
        go_upto_region 7 with fail
        have hkey1 : keyOf Tryd.prog 9 (.string m.name) = some (.string m.name.data.toList) := Go.WideMaps.keyOf_string_mk Tryd.underlying9 hmo.1
        have hM1 : MapK w2.drew 9 (w.heap.size + 1) (nameK (ms.take i)) := World.ownsMap.kept (row := none) HK1.out ⟨hBr.os, hBr.tape, hBr.output, hBr.size, fun k hk _ => hBr.block k hk⟩ (by simp)
        obtain ⟨w3, hrun1, hM1', hgr1⟩ := World.ownsMap.update hM1 strKeyed Tryd.underlying53 (by simp only [maxLen, nameK, List.length_map]; have := List.length_take_le i ms; omega) hkey1 (plainElem_bool (H := Unit) Tryd.underlying4 true)
        have hM2 : MapK w3 36 (w.heap.size + 1 + 1) (pubK (ms.take i)) :=
          World.ownsMap.kept (World.ownsMap.kept (w' := w2.drew) (row := none) HK2.out ⟨hBr.os, hBr.tape, hBr.output, hBr.size, fun k hk _ => hBr.block k hk⟩ (by simp)) hgr1 (by simp)
        obtain ⟨w4, hrun2, hM2', hgr2⟩ := World.ownsMap.update hM2 digKeyed Tryd.underlying54 (by simp only [maxLen, pubK, List.length_map]; have := List.length_take_le i ms; omega) (keyOf_dig m.pub hp16) (plainElem_bool (H := Unit) Tryd.underlying4 true)
        have hrp : w2.drew.rangeAt q 1 (Lib.byteCells m.pub) := by
          intro j v hv
          have hj : j < 16 := by have := (List.getElem?_eq_some_iff.1 hv).1; rw [Lib.byteCells_length, hp16] at this; exact this
          show w2.cell? ⟨q, 1 + j, none⟩ = some v
          rw [cell_of_row _ _ _ _ _ _ hg2, List.getElem?_toArray, memRow, Nat.add_comm 1 j, List.getElem?_cons_succ, List.getElem?_append_left (by rw [Lib.byteCells_length, hp16]; exact hj)]
          exact hv
        have hqw : q ≠ w.heap.size + 1 := by have := HQ.out; omega
        have hrp3 : w3.rangeAt q 1 (Lib.byteCells m.pub) := fun j v hv => hgr1.cell (hrp j v hv) (by simpa using hqw)
        have hl16 : (Tryd.prog.info? 36).map (·.size) = some (Lib.byteCells m.pub).length := by rw [Lib.byteCells_length, hp16]; kernel_rfl
        have hd1 : (loadRow 36 (.pointer (some ⟨q, 1, none⟩))).run Tryd.prog w2.drew = .ok (.agg (Lib.byteCells m.pub).toArray) w2.drew := run_loadAt_mid w2.drew q 1 _ _ _ hrp Tryd.underlying36 rfl hl16
        have hd2 : (loadRow 36 (.pointer (some ⟨q, 1, none⟩))).run Tryd.prog w3 = .ok (.agg (Lib.byteCells m.pub).toArray) w3 := run_loadAt_mid w3 q 1 _ _ _ hrp3 Tryd.underlying36 rfl hl16
        have HM1' := Lib.hid hM1'
        have HM2' := Lib.hid hM2'
        have HG1 := Lib.hid hgr1
        have HG2 := Lib.hid hgr2
        clear hM1 hM2 hM1' hM2' hgr1 hgr2 hrp hrp3 hl16
        have hB2 : Below w.heap.size w w2 := HB.out.trans (hBr.mono hbz)
        have hz2 := hBr.size
        have hB3 := pw_below_grown (w1 := w2.drew) hB2.drew _ hB2.size HG1.out (by intro k hk; injection hk; omega)
        have hB4 := pw_below_grown hB3 _ hB3.size HG2.out (by intro k hk; injection hk; omega)
        have hz3 : w2.heap.size ≤ w3.heap.size := HG1.out.size
        have hz4 := HG2.out.size
        have hb4 : w4.heap[w.heap.size]? = w0.heap[w.heap.size]? := by
          rw [HG0.out, HG2.out.block _ (by omega) (by intro e; injection e with e; omega), HG1.out.block _ (show w.heap.size < w2.heap.size by omega) (by intro e; injection e with e; omega)]
          exact (hBr.block _ (by omega)).trans HBX.out
        have hK1 : MapK w4 9 (w.heap.size + 1) (nameK (ms.take (i + 1))) := by
          rw [take_succ_some ms i m HM.out, nameK, List.map_append, List.map_cons, List.map_nil]
          unfold MapK
          rw [SD_snoc, List.length_append]
          exact World.ownsMap.kept HM1'.out HG2.out (by simp)
        have hK2 : MapK w4 36 (w.heap.size + 1 + 1) (pubK (ms.take (i + 1))) := by
          rw [take_succ_some ms i m HM.out, pubK, List.map_append, List.map_cons, List.map_nil]
          unfold MapK
          rw [SD_snoc, List.length_append]
          exact HM2'.out
        have hok2 : ∀ x ∈ ms.take (i + 1), memOk x := by
          rw [take_succ_some ms i m HM.out]
          intro x hx
          rcases List.mem_append.1 hx with hx | hx
          · exact HOK.out x hx
          · obtain rfl : x = m := by simpa using hx
            exact ⟨k1, k2, k3, k4⟩
        have HALL := Lib.hid (And.intro hok2 (And.intro hB4 (And.intro hb4 (And.intro (show w0.heap.size ≤ w4.heap.size by omega) (And.intro hK1 hK2)))))
        clear hok2 hB4 hb4 hK1 hK2 hB3 hB2 hz2 hz3 hz4
        go_region_with (fail)
        all_goals
          go_wp2_with fail
          go_roundw
          case rel => exact ⟨i + 1, by omega, by go_num, HALL.out⟩
          case measure => simp [RowKit.intOf]; omega
      · have hbad : validB ep need ms = false := by
          exact validB_false fun h => hmk (h.1 m hmem)
        have HBAD := Lib.hid hbad
        clear hbad
        have hB2 : Below w.heap.size w w2 := HB.out.trans (hBr.mono hbz)
        rcases memNot hmk with t1 | ⟨t1, t2⟩ | ⟨t1, t2, t3⟩ | ⟨t1, t2, t3, t4⟩
        all_goals
          go_wp2_with fail
          go_ret
          exact ⟨by rw [HBAD.out]; rfl, hB2⟩
    · have d1 : decide ((i : Int) < ms.length) = false := decide_eq_false (by omega)
      obtain rfl : i = ms.length := by omega
      rw [List.take_length] at HK1 HK2 HOK
      obtain ⟨N1, hN1⟩ : ∃ N1, N1 = Maps.size (SD (nameK ms)) := ⟨_, rfl⟩
      obtain ⟨N2, hN2⟩ : ∃ N2, N2 = Maps.size (SD (pubK ms)) := ⟨_, rfl⟩
      have hl1 : ∀ ty, (Builtin.len_ #[53] ty #[.map (some (w.heap.size + 1))]).run Tryd.prog wr = .ok (.int .i64 (N1 : Int)) wr := fun ty => by rw [hN1]; exact HK1.out.len Tryd.underlying53 ty
      have hl2 : ∀ ty, (Builtin.len_ #[54] ty #[.map (some (w.heap.size + 1 + 1))]).run Tryd.prog wr = .ok (.int .i64 (N2 : Int)) wr := fun ty => by rw [hN2]; exact HK2.out.len Tryd.underlying54 ty
      have hi1 : N1 = ms.length ↔ (nameK ms).Nodup := by
        have := addS_nodup (nameK ms) [] (by simp)
        simp only [List.nil_append, List.length_nil, Nat.zero_add, nameK, List.length_map] at this ⊢
        rw [hN1, SD_size]; exact this
      have hi2 : N2 = ms.length ↔ (pubK ms).Nodup := by
        have := addS_nodup (pubK ms) [] (by simp)
        simp only [List.nil_append, List.length_nil, Nat.zero_add, pubK, List.length_map] at this ⊢
        rw [hN2, SD_size]; exact this
      have hc0 : wr.cell? ⟨w.heap.size, 0, none⟩ = some (.int .i64 ep) := by rw [cell_of_row _ _ _ _ _ _ hbx]; rfl
      have hc1 : wr.cell? ⟨w.heap.size, 1, none⟩ = some (.int .i64 need) := by rw [cell_of_row _ _ _ _ _ _ hbx]; rfl
      have hall : (((N1 : Int) == (ms.length : Int)) = false ∧ validB ep need ms = false) ∨ (((N1 : Int) == (ms.length : Int)) = true ∧ ((N2 : Int) == (ms.length : Int)) = false ∧ validB ep need ms = false) ∨
          (((N1 : Int) == (ms.length : Int)) = true ∧ ((N2 : Int) == (ms.length : Int)) = true ∧ decide (1 ≤ need) = false ∧ validB ep need ms = false) ∨
          (((N1 : Int) == (ms.length : Int)) = true ∧ ((N2 : Int) == (ms.length : Int)) = true ∧ decide (1 ≤ need) = true ∧ decide (need ≤ (ms.length : Int)) = false ∧ validB ep need ms = false) ∨
          (((N1 : Int) == (ms.length : Int)) = true ∧ ((N2 : Int) == (ms.length : Int)) = true ∧ decide (1 ≤ need) = true ∧ decide (need ≤ (ms.length : Int)) = true ∧ decide ((ms.length : Int) ≤ 16) = false ∧ validB ep need ms = false) ∨
          (((N1 : Int) == (ms.length : Int)) = true ∧ ((N2 : Int) == (ms.length : Int)) = true ∧ decide (1 ≤ need) = true ∧ decide (need ≤ (ms.length : Int)) = true ∧ decide ((ms.length : Int) ≤ 16) = true ∧ decide (0 ≤ ep) = false ∧ validB ep need ms = false) ∨
          (((N1 : Int) == (ms.length : Int)) = true ∧ ((N2 : Int) == (ms.length : Int)) = true ∧ decide (1 ≤ need) = true ∧ decide (need ≤ (ms.length : Int)) = true ∧ decide ((ms.length : Int) ≤ 16) = true ∧ decide (0 ≤ ep) = true ∧ decide (ep ≤ 2147483646) = false ∧ validB ep need ms = false) ∨
          (((N1 : Int) == (ms.length : Int)) = true ∧ ((N2 : Int) == (ms.length : Int)) = true ∧ decide (1 ≤ need) = true ∧ decide (need ≤ (ms.length : Int)) = true ∧ decide ((ms.length : Int) ≤ 16) = true ∧ decide (0 ≤ ep) = true ∧ decide (ep ≤ 2147483646) = true ∧ validB ep need ms = true) := by
        have hno : ∀ h : ¬ validP ep need ms, validB ep need ms = false := fun h => validB_false h
        simp only [beq_eq_false_iff_ne, beq_iff_eq, decide_eq_false_iff_not, decide_eq_true_eq]
        by_cases a1 : N1 = ms.length
        · by_cases a2 : N2 = ms.length
          · by_cases a3 : 1 ≤ need
            · by_cases a4 : need ≤ (ms.length : Int)
              · by_cases a5 : ms.length ≤ 16
                · by_cases a6 : 0 ≤ ep
                  · by_cases a7 : ep ≤ 2147483646
                    · have hv := validB_true (ep := ep) (need := need) (ms := ms) ⟨HOK.out, hi1.1 a1, hi2.1 a2, a3, a4, a5, a6, a7⟩
                      iterate 7 right
                      exact ⟨by omega, by omega, a3, a4, by omega, a6, a7, hv⟩
                    · iterate 6 right
                      left
                      exact ⟨by omega, by omega, a3, a4, by omega, a6, a7, hno fun h => a7 h.2.2.2.2.2.2.2⟩
                  · iterate 5 right
                    left
                    exact ⟨by omega, by omega, a3, a4, by omega, a6, hno fun h => a6 h.2.2.2.2.2.2.1⟩
                · iterate 4 right
                  left
                  exact ⟨by omega, by omega, a3, a4, by omega, hno fun h => a5 h.2.2.2.2.2.1⟩
              · iterate 3 right
                left
                exact ⟨by omega, by omega, a3, a4, hno fun h => a4 h.2.2.2.2.1⟩
            · iterate 2 right
              left
              exact ⟨by omega, by omega, a3, hno fun h => a3 h.2.2.2.1⟩
          · right; left
            exact ⟨by omega, by omega, hno fun h => a2 (hi2.2 h.2.2.1)⟩
        · left
          exact ⟨by omega, hno fun h => a1 (hi1.2 h.2.1)⟩
      have HB := Lib.hid hB
      have HALL := Lib.hid hall
      clear hN1 hN2 hi1 hi2 hall HK1 HK2 HOK hB hbx
      rcases HALL.out with ⟨e1, hv⟩ | ⟨e1, e2, hv⟩ | ⟨e1, e2, e3, hv⟩ | ⟨e1, e2, e3, e4, hv⟩ | ⟨e1, e2, e3, e4, e5, hv⟩ | ⟨e1, e2, e3, e4, e5, e6, hv⟩ | ⟨e1, e2, e3, e4, e5, e6, e7, hv⟩ | ⟨e1, e2, e3, e4, e5, e6, e7, hv⟩
      all_goals
        have HV := Lib.hid hv
        clear hv HALL
        go_wp2_with fail
        go_ret
        exact ⟨by rw [HV.out]; rfl, HB.out⟩
end Go.Proofs.YtbgijijecipjeaaDoor
