/- Contract of hash.Of. -/
import Derived.Test.YtbgijijecipjeaaDoorHashA
import Derived.Test.YtbgijijecipjeaaDoorWireA
import Derived.Test.YtbgijijecipjeaaDoorRow2
import Derived.Test.YtbgijijecipjeaaDoorPureA
import Derived.Deep.RegionHeld3
namespace Go.Proofs.YtbgijijecipjeaaDoor
open Go.RowKit Go.Proofs.YtbgijijecipjeaaDoorW.PrintWords

/-- A slice of strings that is read. -/
def ReadsStr (w : World) (A : Option Addr) (n : Nat) (ss : List ByteArray) : Prop :=
  ss.length = n ∧ (0 < n → ∃ ad, A = some ad ∧ ∀ j, j < n → w.cell? (ad.add j) = some (.string (ss.getD j ByteArray.empty)))
def texts (ss : List ByteArray) : List (List UInt8) := ss.map fun s => s.data.toList

theorem conv_one (tag : Nat) (W : World) (b : Nat) (h : W.cell? ⟨b, 0, none⟩ = some (.int .u8 (tag : Int))) : (convert 56 9 (.slice (some ⟨b, 0, none⟩) 1 1)).run Tryd.prog W = .ok (.string (strOfNums [(tag : Int)])) W := by
  refine run_convert_bytes_arg W 56 5 Tryd.underlying56 Tryd.underlying5 b 0 1 1 [(tag : Int)] rfl ?_ 9 Tryd.underlying9
  intro i hi
  obtain rfl : i = 0 := by simp at hi; omega
  simpa using h
theorem partsLen_len (ps : List (List UInt8)) : 9 * ps.length ≤ partsLen ps := by
  induction ps with
  | nil => simp
  | cons x ps ih => simp [partsLen] at ih ⊢; omega
theorem run_arrayAt {P : Program} (t e : TypeId) (n l c : Nat) (a : Option Addr) (w : World) (ht : P.underlying t = some (.array n e)) (h : n ≤ l) : (Instr.arrayAt t (.slice a l c)).run P w = .ok (.pointer a) w := by
  have hl : ¬ l < n := by omega
  simp [Instr.arrayAt, Sem.run_bind, run_underlying ht, hl, Sem.run_pure]
theorem szA (w : World) (o : Obj) : (w.alloc o).heap.size = w.heap.size + 1 := Array.size_push ..
theorem zero86 : Tryd.zeroCells86.size = 73 := by kernel_rfl
theorem range_below {w w1 : World} (hb : Below w.heap.size w w1) {b o : Nat} {cs : List Value} (h : w.rangeAt b o cs) : w1.rangeAt b o cs := fun j v hv => pw_cell hb (h j v hv)
theorem there_below {w w1 : World} (hb : Below w.heap.size w w1) {b o n : Nat} (h : w.there b o n) : w1.there b o n := fun j hj => by
  obtain ⟨h1, h2⟩ := h j hj
  obtain ⟨u, hu⟩ := Option.isSome_iff_exists.1 h1
  exact ⟨by rw [pw_cell hb hu]; rfl, (hb.frozen (World.block_lt_of_cell? w _ hu)).trans h2⟩

set_option maxRecDepth 100000 in
set_option maxHeartbeats 8000000 in
theorem of_any (tag : Nat) (htag : tag < 256) (A : Option Addr) (c : Nat) (ss : List ByteArray) (w : World) (hT : TabK w) (hr : ReadsStr w A ss.length ss) (_hc : ss.length ≤ c) (hn : partsLen (texts ss) ≤ 35184372088832) :
    Calls Tryd.prog 39 #[.int .i64 tag, .slice A ss.length c] w fun e w' => e = .returned (.agg (Lib.byteCells (hOf tag (texts ss))).toArray) ∧ Below w.heap.size w w' := by
  have HR := Lib.hid hr
  clear hr
  obtain ⟨ps, hps⟩ : ∃ ps, ps = texts ss := ⟨_, rfl⟩
  rw [← hps] at hn ⊢
  have hpl : ps.length = ss.length := by rw [hps]; simp [texts]
  have HPS := Lib.hid hps
  clear hps
  have hsl := partsLen_len ps
  rw [hpl] at hsl
  have hwr : IntKind.u8.wrap (tag : Int) = (tag : Int) := by simp [IntKind.wrap, IntKind.bits, IntKind.signed]; omega
  have hcv := conv_one tag
  have HSZ : Hid (([] : List UInt8).length + (strOfNums [(tag : Int)]).size < 1152921504606846976) := Lib.hid (by simp [strOfNums, ByteArray.size])
  go_enter Tryd.func39, Tryd.ntmps39
  go_wp2_with fail
  go_upto_region 1 with fail
  go_cut [5] (fun v5 wx => ∃ p s blk, w.heap.size + 1 ≤ p ∧ v5 = .pointer (some ⟨p, 0, none⟩) ∧ Rep s blk (ofMsg tag []) ∧ Below w.heap.size w wx ∧ row? wx w.heap.size = some (Lib.byteCells (List.replicate 16 0)).toArray ∧ row? wx p = some (strm s blk (ofMsg tag []).length).toArray)
  case first =>
    have hz86 := zero86
    have HMS : Hid (([] : List UInt8) ++ (strOfNums [(tag : Int)]).data.toList = ofMsg tag []) := Lib.hid (by simp [strOfNums, ofMsg])
    go_region_with (first
      | (go_at_call 52; go_must (refine (begin_any _).mono ?_; rintro e w1 ⟨rfl, hB1⟩; obtain ⟨hcc1, hcf1, hrw1, hsz1⟩ := brow hB1; have q0 := hsz1 w.heap.size; (try simp at q0); have q1 := hsz1 (w.heap.size + 1); (try simp at q1); have q2 := hsz1 (w.heap.size + 1 + 1); (try simp at q2); have hb1 : Below w.heap.size w w1 := by (repeat (first | (with_reducible assumption) | (with_reducible exact Below.refl _ _) | (with_reducible refine bl_alloc ?_ _) | (with_reducible refine bl_drew ?_) | (with_reducible refine bl_drewN ?_ _) | (with_reducible refine bl_then (by assumption) ?_)))))
      | (go_at_call 53; go_must ((refine (add_any shaInit zB64 [] (strOfNums [(tag : Int)]) _ ?_ Rep.nil HSZ.out).mono ?_); (focus (refine hT.below ?_; (repeat (first | (with_reducible assumption) | (with_reducible exact Below.refl _ _) | (with_reducible refine bl_alloc ?_ _) | (with_reducible refine bl_drew ?_) | (with_reducible refine bl_drewN ?_ _) | (with_reducible refine bl_then (by assumption) ?_))))); rintro e w2 ⟨s2, blk2, hR2, rfl, hB2⟩; obtain ⟨hcc2, hcf2, hrw2, hsz2⟩ := brow hB2; have q3 := hsz2 w1.heap.size; (try simp at q3); have q4 := hsz2 (w1.heap.size + 1); (try simp at q4); (have hb2 : Below w.heap.size w w2 := by (repeat (first | (with_reducible assumption) | (with_reducible exact Below.refl _ _) | (with_reducible refine bl_alloc ?_ _) | (with_reducible refine bl_drew ?_) | (with_reducible refine bl_drewN ?_ _) | (with_reducible refine bl_then (by assumption) ?_)))); rw [HMS.out] at hR2; obtain ⟨N, hN⟩ : ∃ N, N = ([] : List UInt8).length + (strOfNums [(tag : Int)]).data.toList.length := ⟨_, rfl⟩; rw [← hN]; have HM : Hid ((ofMsg tag []).length = N) := Lib.hid (by rw [hN, ← HMS.out]; simp); clear hN; have hone : oneAll (strm s2 blk2 N).toArray = true := strm_one s2 blk2 N; have hz := strm_length s2 blk2 N hR2.len)))
    all_goals
      go_wp2_with fail
      go_meet
      have hs1 := hb1.size
      have hs2 := hb2.size
      have hs1' := hB1.size
      have hs2' := hB2.size
      (try simp at hs1')
      (try simp at hs2')
      have hx1 : (w.heap.size = w1.heap.size) = False := by simp; omega
      have hx2 : (w.heap.size = w2.heap.size) = False := by simp; omega
      have hx3 : (w.heap.size = w1.heap.size + 1) = False := by simp; omega
      have hx4 : (w.heap.size = w2.heap.size + 1) = False := by simp; omega
      refine ⟨_, s2, blk2, ?_, rfl, ?_, ?_, ?_, ?_⟩
      · omega
      · exact hR2
      · (repeat (first | (with_reducible assumption) | (with_reducible exact Below.refl _ _) | (with_reducible refine bl_alloc ?_ _) | (with_reducible refine bl_drew ?_) | (with_reducible refine bl_drewN ?_ _) | (with_reducible refine bl_then (by assumption) ?_)))
        all_goals (refine below_setRow ?_ (by have := hb1.size; have := hb2.size; omega) _; (repeat (first | (with_reducible assumption) | (with_reducible exact Below.refl _ _) | (with_reducible refine bl_alloc ?_ _) | (with_reducible refine bl_drew ?_) | (with_reducible refine bl_drewN ?_ _) | (with_reducible refine bl_then (by assumption) ?_))))
      · go_simp
        have hx5 : (w.heap.size = w.heap.size + 1 + 1) = False := by simp; omega
        have hx6 : (w.heap.size = w.heap.size + 1) = False := by simp
        have hx7 : (w.heap.size = w.heap.size + 1 + 1 + 1) = False := by simp; omega
        (try simp only [hx5, if_false])
        have hl : w.heap.size < w1.heap.size + 1 + 1 := by omega
        have hl' : w.heap.size < w1.heap.size + 1 := by omega
        all_goals (try rfl)
        all_goals
          rw [row_below hB2 w.heap.size (by rw [szA, szA]; exact hl)]
          rw [row_alloc_lt _ _ _ (by rw [szA]; exact hl')]
          rw [row_alloc_lt _ _ _ q0]
          rw [row_below hB1 w.heap.size (by simp)]
          go_simp
          rfl
      · rw [HM.out]; go_simp
  case rest =>
    obtain ⟨p, s0, blk0, hp, rfl, hR0, hB0, hrd0, hrs0⟩ := hcut
    have HR0 := Lib.hid hR0
    have HB0 := Lib.hid hB0
    have HRD0 := Lib.hid hrd0
    have HRS0 := Lib.hid hrs0
    have HCV := Lib.hid hcv
    clear hR0 hB0 hrd0 hrs0 hcv hwr
    go_wp2_with fail
    go_loopw [17] (fun v17 wr => ∃ (i : Nat) (s : St) (blk : List UInt8), i ≤ ss.length ∧ v17 = .int .i64 i ∧ Rep s blk (ofMsg tag (ps.take i)) ∧ Below w.heap.size w wr ∧ row? wr w.heap.size = some (Lib.byteCells (List.replicate 16 0)).toArray ∧ row? wr p = some (strm s blk (ofMsg tag (ps.take i)).length).toArray) (fun v17 _ => ss.length - (intOf v17).toNat)
    case atStart => exact ⟨0, s0, blk0, by omega, rfl, HR0.out, HB0.out, HRD0.out, HRS0.out⟩
    case round =>
      obtain ⟨i, s1, blk1, hi, rfl, hR1, hB1, hrd1, hrs1⟩ := hrel
      obtain ⟨m, hm⟩ : ∃ m, m = ofMsg tag (ps.take i) := ⟨_, rfl⟩
      rw [← hm] at hR1 hrs1
      have hml : m.length ≤ 1 + partsLen ps := by
        have h1 := ofMsg_length_le tag (ps.take i)
        have h2 := partsLen_take ps i
        rw [hm]; omega
      have HM := Lib.hid hm
      clear hm
      by_cases hlt : i < ss.length
      · have d1 : decide ((i : Int) < ss.length) = true := decide_eq_true (by omega)
        obtain ⟨ad, rfl, hcell⟩ := HR.out.2 (by omega)
        have hcell2 := pw_cell_below hB1 (hcell i hlt)
        obtain ⟨x, hx⟩ : ∃ x, x = ss.getD i ByteArray.empty := ⟨_, rfl⟩
        rw [← hx] at hcell2
        have hxi : ps.take (i + 1) = ps.take i ++ [x.data.toList] := by
          rw [HPS.out, texts, List.take_add_one, List.getElem?_map, List.getElem?_eq_getElem hlt, hx, List.getD_eq_getElem?_getD, List.getElem?_eq_getElem hlt]; rfl
        have hxs : x.data.toList.length + 9 ≤ partsLen ps := by
          apply partsLen_mem
          rw [HPS.out, texts]
          apply List.mem_map.2
          exact ⟨x, by rw [hx, List.getD_eq_getElem?_getD, List.getElem?_eq_getElem hlt]; exact List.getElem_mem hlt, rfl⟩
        have hxz : x.size + 9 ≤ partsLen ps := by rw [data_length] at hxs; exact hxs
        have hz1 := strm_length s1 blk1 m.length hR1.len
        have hpw := row_lt hrs1
        have hdw := row_lt hrd1
        have HXI := Lib.hid hxi
        have HR1 := Lib.hid hR1
        have HB1 := Lib.hid hB1
        have HRD1 := Lib.hid hrd1
        have HX := Lib.hid hx
        have hB1o := HB1.out
        have HLEN : Hid (m.length + (strOfNums (bi (wBytes x.data.toList))).size < 1152921504606846976) := Lib.hid (by
          have h9 := wBytes_length_le x.data.toList
          have : (strOfNums (bi (wBytes x.data.toList))).size = (wBytes x.data.toList).length := by rw [strOfNums_bi]; simp [ByteArray.size]
          omega)
        clear hxi hR1 hB1 hrd1 hx hcell
        go_wp2_with fail
        go_region_with (first
          | (go_at_call 33; go_must (refine (bytes_any x _ ?_).mono ?_; (focus omega); rintro e w2 ⟨v2, rfl, hown2, hB2⟩; obtain ⟨A2, c2, rfl⟩ := own_slice hown2; have hcv2 := own_string (P := Tryd.prog) Tryd.underlying56 Tryd.underlying5 Tryd.underlying9 hown2; obtain ⟨hcc2, hcf2, hrw2, hsz2⟩ := brow hB2; have q0 := hsz2 p; (try simp [hpw] at q0); have q1 := hsz2 w.heap.size; (try simp [hdw] at q1); have r1 := hrw2 p; (try simp [hpw, row_drew] at r1); (try rw [hrs1] at r1); have d2 := hrw2 w.heap.size; (try simp [hdw, row_drew] at d2)))
          | (go_at_call 53; go_must ((refine (add_any s1 blk1 m (strOfNums (bi (wBytes x.data.toList))) _ ?_ HR1.out ?_).mono ?_); (focus (refine hT.below ?_; (repeat (first | (with_reducible assumption) | (with_reducible exact Below.refl _ _) | (with_reducible refine bl_alloc ?_ _) | (with_reducible refine bl_drew ?_) | (with_reducible refine bl_drewN ?_ _) | (with_reducible refine bl_then (by assumption) ?_))))); (focus exact HLEN.out); rintro e w3 ⟨s3, blk3, hR3, rfl, hB3⟩; obtain ⟨hcc3, hcf3, hrw3, hsz3⟩ := brow hB3; have q3 := hsz3 p; (try simp [q0] at q3); have q4 := hsz3 w.heap.size; (try simp [q1] at q4); obtain ⟨N, hN⟩ : ∃ N, N = m.length + (strOfNums (bi (wBytes x.data.toList))).data.toList.length := ⟨_, rfl⟩; rw [← hN]; have HN3 := Lib.hid hN; clear hN; have hone := strm_one s3 blk3 N; have hz3 := strm_length s3 blk3 N hR3.len; have r3 := hrw3 p q0; have ht := storeRowK_some Tryd.prog 86 73 p (strm s3 blk3 N).toArray w3 (strm s1 blk1 m.length).toArray (by simpa using hz1) (by simpa using hz3) hone)))
        all_goals
          go_wp2_with fail
        have hp2 : p < wr.heap.size := hpw
        have HBX := HB1.out
        all_goals
          go_roundw
          case rel =>
            refine ⟨i + 1, s3, blk3, Nat.succ_le_of_lt hlt, by go_num, ?_, ?_, ?_, ?_⟩
            · rw [HXI.out, ofMsg_snoc, ← HM.out]
              simpa [strOfNums_bi] using hR3
            · refine below_setRow ?_ (Nat.le_of_lt hp) _
              (repeat (first | (with_reducible assumption) | (with_reducible exact Below.refl _ _) | (with_reducible refine bl_alloc ?_ _) | (with_reducible refine bl_drew ?_) | (with_reducible refine bl_drewN ?_ _) | (with_reducible refine bl_then (by assumption) ?_)))
            · have hd3 := hrw3 w.heap.size q1
              rw [d2, HRD1.out] at hd3
              rw [row_setRow, if_neg (Nat.ne_of_lt hp), hd3]
            · have hml3 : (ofMsg tag (List.take (i + 1) ps)).length = N := by
                rw [HXI.out, ofMsg_snoc, ← HM.out, HN3.out]; simp [strOfNums_bi]
              rw [hml3, row_setRow, if_pos rfl, r3, r1]
              rfl
          case measure => simp [intOf]; omega
      · have d1 : decide ((i : Int) < ss.length) = false := decide_eq_false (by omega)
        have hz1 := strm_length s1 blk1 m.length hR1.len
        obtain rfl : i = ss.length := Nat.le_antisymm hi (by omega)
        go_wp2_with fail
        refine (sum_any s1 blk1 m wr (hT.below hB1) hR1 (by omega)).mono ?_
        rintro e w1 ⟨rfl, hB2⟩
        have r1 := row_below hB2 w.heap.size (row_lt hrd1)
        rw [hrd1] at r1
        have q1 : w.heap.size < w1.heap.size := Nat.lt_of_lt_of_le (row_lt hrd1) hB2.size
        have h16 : (Lib.byteCells (hOf tag ps)).length = 16 := by rw [Lib.byteCells, List.length_map]; exact hOf_length tag ps
        have hone2 : oneAll (Lib.byteCells (hOf tag ps)).toArray = true := by simp [oneAll, Lib.byteCells, Value.oneCell']
        have hts := fun W => storeRowK_some Tryd.prog 36 16 w.heap.size (Lib.byteCells (hOf tag ps)).toArray W (Lib.byteCells (List.replicate 16 0)).toArray (by simp [Lib.byteCells]) (by simpa using h16) hone2
        rw [show (List.replicate 16 (0 : UInt8)) = [0, 0, 0, 0, 0, 0, 0, 0, 0, 0, 0, 0, 0, 0, 0, 0] from rfl] at hts
        have hsm : (Lib.byteCells (sha m)).length = 32 := by rw [Lib.byteCells, List.length_map]; exact sha_length m
        have hone : oneAll (Lib.byteCells (sha m)).toArray = true := by simp [oneAll, Lib.byteCells, Value.oneCell']
        have har : ∀ wx, (Instr.arrayAt 36 (.slice (some ⟨w1.heap.size, 0, none⟩) 16 32)).run Tryd.prog wx = .ok (.pointer (some ⟨w1.heap.size, 0, none⟩)) wx := fun wx => run_arrayAt _ _ 16 16 32 _ wx Tryd.underlying36 (Nat.le_refl _)
        have hmid : (w1.alloc (Obj.cells (Lib.byteCells (sha m)).toArray 89)).rangeAt w1.heap.size 0 (Lib.byteCells (hOf tag ps)) := by
          intro j v hv
          rw [Nat.zero_add, cell_of_row _ _ _ _ _ _ (heap_alloc_new _ _)]
          have hps : m = ofMsg tag ps := by rw [HM.out, List.take_of_length_le (by omega)]
          rw [hOf, ← hps] at hv
          have hv' : ((Lib.byteCells (sha m)).take 16)[j]? = some v := by rw [← hv, Lib.byteCells, Lib.byteCells, List.map_take]
          rw [List.getElem?_toArray]
          rw [List.getElem?_take] at hv'
          split at hv'
          · exact hv'
          · cases hv'
        go_wp2_with ((with_reducible show wpList _ _ _ (⟨some 31, _, _, _, _, _⟩ :: _) _ _); refine wpList_load_mid rfl 36 (.tmp 30) rfl w1.heap.size 0 rfl _ _ hmid Tryd.underlying36 rfl (by rw [h16]; kernel_rfl) ?_; simp only [Act.put, List.setIfInBounds_toArray, List.set_cons_succ, List.set_cons_zero])
        have hrf : row? ((w1.alloc (Obj.cells (Lib.byteCells (sha m)).toArray 89)).setRow w.heap.size (Lib.byteCells (hOf tag ps)).toArray) w.heap.size = some (Lib.byteCells (hOf tag ps)).toArray := by
          rw [row_setRow, if_pos rfl, row_alloc_lt _ _ _ q1, r1]; rfl
        obtain ⟨tf, hhf⟩ := row_heap hrf
        refine bodyPost_ret (v := .agg (Lib.byteCells (hOf tag ps)).toArray) (results_cell_row rfl _ _ w.heap.size tf _ (0, 0) _ rfl hhf Tryd.underlying36 rfl (by rw [List.size_toArray, h16]; kernel_rfl)) rfl ⟨rfl, ?_⟩
        refine below_setRow ?_ (Nat.le_refl _) _
        (repeat (first | (with_reducible assumption) | (with_reducible exact Below.refl _ _) | (with_reducible refine bl_alloc ?_ _) | (with_reducible refine bl_drew ?_) | (with_reducible refine bl_drewN ?_ _) | (with_reducible refine bl_then (by assumption) ?_)))
end Go.Proofs.YtbgijijecipjeaaDoor
