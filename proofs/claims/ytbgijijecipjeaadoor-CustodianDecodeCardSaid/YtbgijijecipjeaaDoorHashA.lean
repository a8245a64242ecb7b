/- Contracts of hash.Begin and hash.Stream.Add. Contract of hash.Stream.Sum. -/
import Derived.Test.YtbgijijecipjeaaDoorHash3
import Derived.Test.YtbgijijecipjeaaDoorPureA
import Derived.Deep.RegionWith
import Derived.Lib.IndexBytes
namespace Go.Proofs.YtbgijijecipjeaaDoor
open Go.RowKit

theorem begin_any (w : World) : Calls Tryd.prog 52 #[] w fun e w' => e = .returned (.agg (strm shaInit zB64 0).toArray) ∧ Below w.heap.size w w' := by
  go_enter Tryd.func52, Tryd.ntmps52
  go_wp2_with ((with_reducible show wpList _ _ _ (⟨none, .store 86 _ _, _, _, _, _⟩ :: _) _ _); go_must (refine wpList_store_row rfl 86 (.tmp 0) (.tmp 2) rfl w.heap.size _ rfl rfl 86 _ (heap_alloc_new _ _) (by kernel_rfl) (by kernel_rfl) (by kernel_rfl) ?_); rw [World.setRow_alloc_new])
  refine bodyPost_ret (v := .agg (strm shaInit zB64 0).toArray) ((results_cell_row rfl _ _ w.heap.size 86 _ (0, 0) _ rfl (heap_alloc_new _ _) Tryd.underlying86 rfl (by kernel_rfl)).trans (by kernel_rfl)) rfl ⟨rfl, (Below.refl _ _).alloc (Nat.le_refl _) _⟩
/-- The state of Add's loop. -/
structure AddW (w : World) (s : St) (blk : List UInt8) (n : Nat) (wr : World) : Prop where
  low : Below w.heap.size w wr
  tab : TabK wr
  sb : wr.heap[w.heap.size]? = some (.cells (strm s blk n).toArray 86 (0, 0))
  rb : wr.heap[w.heap.size + 1]? = some (.cells Tryd.zeroCells86 86 (0, 0))
  h0 : 0 < w.heap.size
theorem AddW.cell {w : World} {s : St} {blk : List UInt8} {n : Nat} {wr : World} (h : AddW w s blk n wr) (i : Nat) (v : Value) (hv : (strm s blk n)[i]? = some v) : wr.cell? ⟨w.heap.size, i, none⟩ = some v ∧ wr.frozen? ⟨w.heap.size, i, none⟩ = false :=
  ⟨by rw [cell_of_row _ _ _ _ _ _ h.sb]; simpa using hv, frozen_of_row _ _ _ _ _ h.sb⟩
theorem AddW.setB {w : World} {s : St} {blk : List UInt8} {n : Nat} {wr : World} (h : AddW w s blk n wr) (blk2 : List UInt8) (n2 : Nat) : AddW w s blk2 n2 (wr.setRow w.heap.size (strm s blk2 n2).toArray) :=
  ⟨below_setRow h.low (Nat.le_refl _) _, h.tab.setRow _ h.h0 _, setRow_heap _ _ _ _ _ _ h.sb, (setRow_other _ _ _ _ (by omega)).trans h.rb, h.h0⟩
theorem strm_setn (s : St) (blk : List UInt8) (n n2 : Nat) (y : Int) (hy : y = (n2 : Int)) (h : blk.length = 64) : (strm s blk n).toArray.setIfInBounds 72 (.int .u64 y) = (strm s blk n2).toArray := by
  have h8 : (s.list.map fun (x : Nat) => Value.int .u32 (x : Int)).length = 8 := rfl
  subst hy
  unfold strm
  rw [List.setIfInBounds_toArray, List.set_append_right _ _ (by rw [h8]; omega), List.set_append_right _ _ (by rw [h8, Lib.byteCells_length, h]; omega), h8, Lib.byteCells_length, h]
  rfl
theorem extract_drop (r : ByteArray) (k : Nat) : (r.extract k r.size).data.toList = r.data.toList.drop k := by
  exact Lib.extract_to_end r k
/-- The eight words of the state. -/
structure EightW (s : St) (B : Nat) (wr : World) : Prop where
  c0 : wr.cell? ⟨B, 0, none⟩ = some (.int .u32 s.a)
  c1 : wr.cell? ⟨B, 1, none⟩ = some (.int .u32 s.b)
  c2 : wr.cell? ⟨B, 2, none⟩ = some (.int .u32 s.c)
  c3 : wr.cell? ⟨B, 3, none⟩ = some (.int .u32 s.d)
  c4 : wr.cell? ⟨B, 4, none⟩ = some (.int .u32 s.e)
  c5 : wr.cell? ⟨B, 5, none⟩ = some (.int .u32 s.f)
  c6 : wr.cell? ⟨B, 6, none⟩ = some (.int .u32 s.g)
  c7 : wr.cell? ⟨B, 7, none⟩ = some (.int .u32 s.h)
theorem AddW.cells {w : World} {s : St} {blk : List UInt8} {n : Nat} {wr : World} (h : AddW w s blk n wr) : EightW s w.heap.size wr :=
  ⟨(h.cell 0 _ rfl).1, (h.cell 1 _ rfl).1, (h.cell 2 _ rfl).1, (h.cell 3 _ rfl).1, (h.cell 4 _ rfl).1, (h.cell 5 _ rfl).1, (h.cell 6 _ rfl).1, (h.cell 7 _ rfl).1⟩
theorem AddW.later {w : World} {s : St} {blk : List UInt8} {n : Nat} {wr w1 : World} (h : AddW w s blk n wr) (hb : Below wr.heap.size wr w1) : AddW w s blk n w1 := by
  have hz := h.low.size
  have h1 : w.heap.size < wr.heap.size := (Array.getElem?_eq_some_iff.1 h.sb).1
  have h2 : w.heap.size + 1 < wr.heap.size := (Array.getElem?_eq_some_iff.1 h.rb).1
  exact ⟨h.low.trans (hb.mono (by omega)), h.tab.below hb, (hb.block _ h1).trans h.sb, (hb.block _ h2).trans h.rb, h.h0⟩
structure EightF (B : Nat) (wr : World) : Prop where
  c0 : wr.frozen? ⟨B, 0, none⟩ = false
  c1 : wr.frozen? ⟨B, 1, none⟩ = false
  c2 : wr.frozen? ⟨B, 2, none⟩ = false
  c3 : wr.frozen? ⟨B, 3, none⟩ = false
  c4 : wr.frozen? ⟨B, 4, none⟩ = false
  c5 : wr.frozen? ⟨B, 5, none⟩ = false
  c6 : wr.frozen? ⟨B, 6, none⟩ = false
  c7 : wr.frozen? ⟨B, 7, none⟩ = false
theorem AddW.frz {w : World} {s : St} {blk : List UInt8} {n : Nat} {wr : World} (h : AddW w s blk n wr) : EightF w.heap.size wr :=
  ⟨(h.cell 0 _ rfl).2, (h.cell 1 _ rfl).2, (h.cell 2 _ rfl).2, (h.cell 3 _ rfl).2, (h.cell 4 _ rfl).2, (h.cell 5 _ rfl).2, (h.cell 6 _ rfl).2, (h.cell 7 _ rfl).2⟩
theorem AddW.run_store {w : World} {s : St} {blk : List UInt8} {n : Nat} {wr : World} (h : AddW w s blk n wr) (s2 : St) (hb : blk.length = 64) (P : Program) :
    (storeCells ⟨w.heap.size, 0, none⟩ (w32 s2.list).toList).run P wr = .ok () (wr.setRow w.heap.size (strm s2 blk n).toArray) := by
  have hst := run_storeCells_at P w.heap.size 0 86 (w32 s2.list).toList 0 _ wr h.sb (by rw [List.size_toArray, strm_length _ _ _ hb, Array.length_toList, w32_size]; exact (by decide : 0 + 0 + 8 ≤ 73)) (fun v hv => (Array.all_eq_true_iff_forall_mem.1 (w32_one _)) v (by simpa using hv))
  exact hst
theorem AddW.setS {w : World} {s : St} {blk : List UInt8} {n : Nat} {wr : World} (h : AddW w s blk n wr) (s2 : St) : AddW w s2 blk n (wr.setRow w.heap.size (strm s2 blk n).toArray) :=
  ⟨below_setRow h.low (Nat.le_refl _) _, h.tab.setRow _ h.h0 _, setRow_heap _ _ _ _ _ _ h.sb, (setRow_other _ _ _ _ (by omega)).trans h.rb, h.h0⟩
theorem AddW.bytes {w : World} {s : St} {blk : List UInt8} {n : Nat} {wr : World} (h : AddW w s blk n wr) (hb : blk.length = 64) : ∀ j, j < 64 → wr.cell? ⟨w.heap.size, 8 + j, none⟩ = some (.int .u8 ((blk.getD j 0).toNat : Int)) := by
  intro j hj
  refine (h.cell (8 + j) _ ?_).1
  unfold strm
  rw [List.getElem?_append_right (by simp [St.list])]
  simp [St.list, Lib.byteCells, List.getElem?_append_left, hb, hj, List.getD_eq_getElem?_getD]
theorem strm_n (s : St) (blk : List UInt8) (n : Nat) (h : blk.length = 64) : (strm s blk n)[72]? = some (.int .u64 (n : Int)) := by
  simp [strm, St.list, Lib.byteCells_length, h]
theorem strm_one (s : St) (blk : List UInt8) (n : Nat) : (strm s blk n).toArray.all (·.oneCell') = true := by
  rw [Array.all_eq_true_iff_forall_mem]
  intro v hv
  simp only [strm, List.mem_toArray, List.mem_append, List.mem_map, List.mem_singleton] at hv
  rcases hv with ⟨x, _, rfl⟩ | hv | rfl
  · rfl
  · exact Lib.byteCells_one _ _ hv
  · rfl
theorem byteArray_isEmpty (r : ByteArray) : r.toList.isEmpty = (r.size == 0) := by
  rw [ByteArray.toList_eq, Lib.size_eq r]
  cases r.data.toList <;> rfl
def strSize : Value → Nat
  | .string s => s.size
  | _ => 0
/-- What Add leaves. -/
def AddPost (m t : List UInt8) (w : World) (e : Ending) (w' : World) : Prop := ∃ s blk, Rep s blk (m ++ t) ∧ e = .returned (.agg (strm s blk (m.length + t.length)).toArray) ∧ Below w.heap.size w w'
set_option maxRecDepth 100000 in
set_option maxHeartbeats 400000 in
theorem add_any (s : St) (blk m : List UInt8) (text : ByteArray) (w : World) (hT : TabK w) (hrep : Rep s blk m) (hlen : m.length + text.size < 1152921504606846976) :
    Calls Tryd.prog 53 #[.agg (strm s blk m.length).toArray, .string text] w (AddPost m text.data.toList w) := by
  go_enter Tryd.func53, Tryd.ntmps53
  go_wp2_with fail
  go_loopw [1] (fun v1 wr => ∃ (r : ByteArray) (s' : St) (blk' m' : List UInt8), v1 = .string r ∧ r.size ≤ text.size ∧ m' ++ r.data.toList = m ++ text.data.toList ∧ Rep s' blk' m' ∧ AddW w s' blk' m'.length wr) (fun v1 _ => strSize v1)
  case atStart =>
    refine ⟨text, s, blk, m, rfl, Nat.le_refl _, rfl, hrep, ⟨((Below.refl _ _).alloc (Nat.le_refl _) _).alloc (by simp) _, hT.below (((Below.refl _ _).alloc (Nat.le_refl _) _).alloc (by simp) _), ?_, ?_, hT.lt⟩⟩
    · exact heap_alloc2_old _ _ _
    · exact heap_alloc2_new _ _ _
  case round =>
    obtain ⟨r, s', blk', m', rfl, hr, hm, hR, hA⟩ := hrel
    have hml : m'.length + r.size = m.length + text.size := by
      have := congrArg List.length hm
      simp only [List.length_append, ← Lib.size_eq] at this
      exact this
    obtain ⟨cn, fn⟩ := hA.cell 72 _ (strm_n _ _ _ hR.len)
    obtain ⟨n, hn⟩ : ∃ n, n = m'.length := ⟨_, rfl⟩
    rw [← hn] at cn
    have hn61 : n < 1152921504606846976 := by omega
    have HN := Lib.hid hn
    have HM := Lib.hid hm
    have HML := Lib.hid hml
    clear hn hm hml
    by_cases h0 : r.size = 0
    · have hE : r.toList.isEmpty = true := by rw [byteArray_isEmpty]; simpa using h0
      have hsb := hA.sb
      have hrb := hA.rb
      have HA := Lib.hid hA
      clear hA hT hrep
      go_wp2_with (first
        | ((with_reducible show wpList _ _ _ (⟨some 37, _, _, _, _, _⟩ :: _) _ _); go_must (refine wpList_load_row rfl 86 (.tmp 2) rfl w.heap.size rfl 86 _ (0, 0) _ hsb Tryd.underlying86 rfl (by rw [List.size_toArray, strm_length _ _ _ hR.len]; kernel_rfl) ?_))
        | ((with_reducible show wpList _ _ _ (⟨none, .store 86 _ _, _, _, _, _⟩ :: _) _ _); go_must (refine wpList_store_row rfl 86 (.tmp 4) (.tmp 37) rfl (w.heap.size + 1) _ rfl rfl 86 _ hrb (by rw [List.size_toArray, strm_length _ _ _ hR.len]; kernel_rfl) ((by kernel_rfl : Tryd.zeroCells86.size = 73).trans (by rw [List.size_toArray, strm_length _ _ _ hR.len])) (strm_one _ _ _) ?_)))
      refine bodyPost_ret (v := .agg (strm s' blk' m'.length).toArray) (results_cell_row rfl _ _ (w.heap.size + 1) 86 _ (0, 0) _ rfl (setRow_heap _ _ _ _ _ _ hrb) Tryd.underlying86 rfl (by rw [List.size_toArray, strm_length _ _ _ hR.len]; kernel_rfl)) rfl ?_
      have hr0 : r.data.toList = [] := List.eq_nil_of_length_eq_zero (by rw [← Lib.size_eq]; exact h0)
      have hmm : m' = m ++ text.data.toList := by rw [← HM.out, hr0, List.append_nil]
      exact ⟨s', blk', hmm ▸ hR, by rw [hmm, List.length_append], below_setRow HA.out.low (by omega) _⟩
    · have hE : r.toList.isEmpty = false := by rw [byteArray_isEmpty]; simpa using h0
      obtain ⟨a, ha⟩ : ∃ a, a = n % 64 := ⟨_, rfl⟩
      have ha64 : a < 64 := by omega
      have hai : (n : Int) % 64 = (a : Int) := by omega
      obtain ⟨k, hk⟩ : ∃ k, k = min r.size (64 - a) := ⟨_, rfl⟩
      have hk1 : k ≤ 64 - a := by omega
      have hk2 : k ≤ r.size := by omega
      have hk0 : 0 < k := by omega
      have hsl : ∀ wx, (Instr.sliceAt 84 (.pointer (some ⟨w.heap.size, 8, none⟩)) (some (.int .i64 ((n : Int) % 64))) none none).run Tryd.prog wx = .ok (.slice (some ⟨w.heap.size, 8 + a, none⟩) (64 - a) (64 - a)) wx := by
        intro wx
        rw [hai]
        exact run_sliceAt_from wx 84 5 64 _ _ a _ Tryd.underlying84 (by kernel_rfl) ha64
      have hx : (r.data.toList.take k).length = k := by rw [List.length_take, ← Lib.size_eq]; omega
      have hcp := run_copy_str (P := Tryd.prog) wr 56 9 3 5 w.heap.size (8 + a) (64 - a) (64 - a) k r _ 86 Tryd.underlying56 (by kernel_rfl) hA.sb hk.symm (by rw [List.size_toArray, strm_length _ _ _ hR.len]; omega)
      have hsp := strm_put s' blk' m'.length a (r.data.toList.take k) hR.len (by rw [hx]; omega)
      rw [hx] at hsp
      simp only [hsp] at hcp
      have hA2 := hA.setB (putBlk blk' a (r.data.toList.take k)) m'.length
      obtain ⟨w2, hw2⟩ : ∃ w2, w2 = wr.setRow w.heap.size (strm s' (putBlk blk' a (r.data.toList.take k)) m'.length).toArray := ⟨_, rfl⟩
      rw [← hw2] at hcp hA2
      have hbl : (putBlk blk' a (r.data.toList.take k)).length = 64 := putBlk_length _ _ _ hR.len (by rw [hx]; omega)
      obtain ⟨c72, f72⟩ := hA2.cell 72 _ (strm_n _ _ _ hbl)
      rw [← HN.out] at c72
      have HCP := Lib.hid hcp
      have HA2 := Lib.hid hA2
      have HAI := Lib.hid hai
      have HAA := Lib.hid ha
      have HK := Lib.hid hk
      have HX := Lib.hid hx
      clear hcp hai hk hA ha hw2 hA2 hsp hx
      go_upto_region 5 with ((with_reducible show wpList _ _ _ (⟨some 17, _, _, _, _, _⟩ :: _) _ _); go_must (refine Lib.wpList_copy_run wr rfl (.tmp 15) (.tmp 16) 56 9 rfl _ _ rfl rfl HCP.out ?_))
      go_cut [1, 5, 6] (fun v1 v5 v6 wx => v1 = .string (r.extract k r.size) ∧ v5 = .int .i64 (a : Int) ∧ v6 = .int .i64 (k : Int) ∧ AddW w s' (putBlk blk' a (r.data.toList.take k)) (n + k) wx)
      case first =>
        go_wp2_with fail
        go_meet
        refine ⟨rfl, congrArg (Value.int .i64) HAI.out, rfl, ?_⟩
        have h1 := HA2.out
        rw [setCell_eq_setRow _ _ _ _ _ _ _ h1.sb, strm_setn _ _ _ (n + k) _ (by omega) hbl]
        exact h1.setB _ _
      case rest =>
        obtain ⟨rfl, rfl, rfl, hA3⟩ := hcut
        have hre : (r.extract k r.size).data.toList = r.data.toList.drop k := by rw [extract_drop]
        have hrs : (r.extract k r.size).size = r.size - k := by simp
        have hm2 : (m' ++ r.data.toList.take k) ++ (r.extract k r.size).data.toList = m ++ text.data.toList := by
          rw [hre, List.append_assoc, List.take_append_drop]; exact HM.out
        have hl2 : (m' ++ r.data.toList.take k).length = n + k := by rw [List.length_append, HX.out, HN.out]
        have HM2 := Lib.hid hm2
        have HL2 := Lib.hid hl2
        have HRS := Lib.hid hrs
        clear hre hm2 hl2 hrs
        by_cases hak : a + k = 64
        · have hb : ((a : Int) + k == 64) = true := by simp; omega
          have hR2 : Rep (cmpN s' (putBlk blk' a (r.data.toList.take k))) (putBlk blk' a (r.data.toList.take k)) (m' ++ r.data.toList.take k) := by
            have h := hR.full (r.data.toList.take k) (by rw [HX.out, ← HN.out, ← HAA.out]; omega)
            rw [← HN.out, ← HAA.out] at h
            exact h
          obtain ⟨b2, hb2⟩ : ∃ b, b = putBlk blk' a (r.data.toList.take k) := ⟨_, rfl⟩
          rw [← hb2] at hbl hA3 hR2
          have HR2 := Lib.hid hR2
          have hs' := hR.ok
          have hcells := hA3.cells
          have HR := Lib.hid hR
          have HAK := Lib.hid hak
          clear hb2 hR2 hR hak cn fn c72 f72 hsl HCP HA2
          obtain ⟨c0, c1, c2, c3, c4, c5, c6, c7⟩ := hcells
          have hA4 : AddW w s' b2 (n + k) wc.drew := ⟨hA3.low.drew, hA3.tab, hA3.sb, hA3.rb, hA3.h0⟩
          have hz8 : (w32 (cmpN s' b2).list).size = 8 := rfl
          go_wp2_with fail
          go_region_with ((go_at_call 73; go_must (refine (compress_any s' hs' b2 w.heap.size 8 64 wc.drew hA4.tab hbl (Nat.le_refl _) (hA4.bytes hbl)).mono ?_; rintro e w1 ⟨rfl, hB1⟩; have hA5 := hA4.later hB1; have hst := hA5.run_store (cmpN s' b2) hbl Tryd.prog; have HA6 := Lib.hid (hA5.setS (cmpN s' b2)))))
          all_goals
            go_wp2_with fail
            go_roundw
            case rel => exact ⟨_, _, _, _, rfl, by rw [HRS.out]; omega, HM2.out, HR2.out, by rw [HL2.out]; exact HA6.out⟩
            case measure => simp only [strSize]; rw [HRS.out]; omega
        · have hb : ((a : Int) + k == 64) = false := by simp; omega
          have hR2 : Rep s' (putBlk blk' a (r.data.toList.take k)) (m' ++ r.data.toList.take k) := by
            have h := hR.part (r.data.toList.take k) (by rw [HX.out, ← HN.out, ← HAA.out]; omega)
            rw [← HN.out, ← HAA.out] at h
            exact h
          go_wp2_with fail
          go_roundw
          case rel => exact ⟨_, s', _, _, rfl, by rw [HRS.out]; omega, HM2.out, hR2, by rw [HL2.out]; exact hA3⟩
          case measure => simp only [strSize]; rw [HRS.out]; omega
end Go.Proofs.YtbgijijecipjeaaDoor
namespace Go.Proofs.YtbgijijecipjeaaDoor
open Go.RowKit Go.Proofs.YtbgijijecipjeaaDoorW.PrintWords

/-- The state of Sum. -/
structure SumW (w : World) (s : St) (blk : List UInt8) (n : Nat) (wr : World) : Prop where
  low : Below w.heap.size w wr
  tab : TabK wr
  sb : wr.heap[w.heap.size]? = some (.cells (strm s blk n).toArray 86 (0, 0))
  rb : wr.heap[w.heap.size + 1]? = some (.cells (Lib.byteCells (List.replicate 32 0)).toArray 89 (0, 0))
  h0 : 0 < w.heap.size
theorem SumW.cell {w : World} {s : St} {blk : List UInt8} {n : Nat} {wr : World} (h : SumW w s blk n wr) (i : Nat) (v : Value) (hv : (strm s blk n)[i]? = some v) : wr.cell? ⟨w.heap.size, i, none⟩ = some v ∧ wr.frozen? ⟨w.heap.size, i, none⟩ = false :=
  ⟨by rw [cell_of_row _ _ _ _ _ _ h.sb]; simpa using hv, frozen_of_row _ _ _ _ _ h.sb⟩
theorem SumW.size {w : World} {s : St} {blk : List UInt8} {n : Nat} {wr : World} (h : SumW w s blk n wr) : w.heap.size + 2 ≤ wr.heap.size := (Array.getElem?_eq_some_iff.1 h.rb).1
theorem SumW.later {w : World} {s : St} {blk : List UInt8} {n : Nat} {wr w1 : World} (h : SumW w s blk n wr) (hb : Below (w.heap.size + 2) wr w1) : SumW w s blk n w1 := by
  have hz := h.low.size
  refine ⟨h.low.trans (hb.mono (by omega)), fun j v hv => ?_, (hb.block _ (by omega)).trans h.sb, (hb.block _ (by omega)).trans h.rb, h.h0⟩
  have h1 := h.tab j v hv
  have h2 := h.h0
  exact (hb.cell (p := ⟨0, 0 + j, none⟩) (by show 0 < _; omega)).trans h1

/-- The state while the result is written. -/
structure SumV (w : World) (s : St) (blk : List UInt8) (n q : Nat) (l : List UInt8) (wr : World) : Prop where
  base : SumW w s blk n wr
  ob : wr.heap[q]? = some (.cells (Lib.byteCells l).toArray 89 (0, 0))
  hq : w.heap.size + 2 ≤ q
theorem SumW.set {w : World} {s : St} {blk : List UInt8} {n : Nat} {wr : World} (h : SumW w s blk n wr) (s2 : St) (blk2 : List UInt8) (n2 : Nat) : SumW w s2 blk2 n2 (wr.setRow w.heap.size (strm s2 blk2 n2).toArray) :=
  ⟨below_setRow h.low (Nat.le_refl _) _, h.tab.setRow _ h.h0 _, setRow_heap _ _ _ _ _ _ h.sb, (setRow_other _ _ _ _ (by omega)).trans h.rb, h.h0⟩
theorem bytes_set (l : List UInt8) (i : Nat) (x : UInt8) (y : Int) (hy : y = (x.toNat : Int)) : (Lib.byteCells l).toArray.setIfInBounds i (.int .u8 y) = (Lib.byteCells (l.set i x)).toArray := by
  subst hy; simp [Lib.byteCells, List.map_set]
theorem byteCells_at (l : List UInt8) (i : Nat) (h : i < l.length) : (Lib.byteCells l).toArray[i]? = some (.int .u8 ((l.getD i 0).toNat : Int)) := by
  simp [Lib.byteCells, List.getElem?_eq_getElem h, List.getD_eq_getElem?_getD]
theorem byteCells_all (l : List UInt8) : (Lib.byteCells l).toArray.all (·.oneCell') = true := by
  rw [Array.all_eq_true_iff_forall_mem]; intro v hv; exact Lib.byteCells_one l v (by simpa using hv)
theorem SumV.put {w : World} {s : St} {blk : List UInt8} {n q : Nat} {l : List UInt8} {wr : World} (h : SumV w s blk n q l wr) (i : Nat) (x : UInt8) (y : Int) (hy : y = (x.toNat : Int)) :
    SumV w s blk n q (l.set i x) (wr.setCell ⟨q, i, none⟩ (.int .u8 y)) := by
  have hq := h.hq
  have h0 := h.base.h0
  rw [setCell_eq_setRow _ _ _ _ _ _ _ h.ob, bytes_set _ _ _ _ hy]
  exact ⟨⟨below_setRow h.base.low (by omega) _, h.base.tab.setRow _ (by omega) _, (setRow_other _ _ _ _ (by omega)).trans h.base.sb, (setRow_other _ _ _ _ (by omega)).trans h.base.rb, h0⟩, setRow_heap _ _ _ _ _ _ h.ob, hq⟩
theorem set_prefix (b : List UInt8) (i : Nat) (hb : b.length = 32) (hi : i < 32) : (b.take i ++ List.replicate (32 - i) 0).set i (b.getD i 0) = b.take (i + 1) ++ List.replicate (32 - (i + 1)) 0 := by
  have ht : (b.take i).length = i := by rw [List.length_take]; omega
  rw [List.set_append_right _ _ (by omega), ht, Nat.sub_self, show 32 - i = (32 - (i + 1)) + 1 by omega, List.replicate_succ, List.set_cons_zero, List.take_succ_eq_append_getElem (by omega)]
  have e : b.getD i 0 = b[i] := by simp [List.getD_eq_getElem?_getD, List.getElem?_eq_getElem (show i < b.length by omega)]
  rw [e, List.append_assoc, List.singleton_append]
theorem info_u8 : (Tryd.prog.info? 5).map (fun i => (i.zero, i.size, i.bytes)) = some (some (.int .u8 0), 1, 1) := by kernel_rfl

set_option maxRecDepth 100000 in
set_option maxHeartbeats 800000 in
theorem sum_any (s : St) (blk m : List UInt8) (w : World) (hT : TabK w) (hrep : Rep s blk m) (hlen : m.length < 576460752303423488) :
    Calls Tryd.prog 54 #[.agg (strm s blk m.length).toArray] w fun e w' => e = .returned (.agg (Lib.byteCells (sha m)).toArray) ∧ Below w.heap.size w w' := by
  obtain ⟨n, hn⟩ : ∃ n, n = m.length := ⟨_, rfl⟩
  rw [← hn] at hlen ⊢
  have HN := Lib.hid hn
  clear hn
  go_enter Tryd.func54, Tryd.ntmps54
  have hS0 : SumW w s blk n ((w.alloc (.cells (strm s blk n).toArray 86)).alloc (.cells (Lib.byteCells (List.replicate 32 0)).toArray 89)) :=
    ⟨((Below.refl _ _).alloc (Nat.le_refl _) _).alloc (by simp) _, hT.below (((Below.refl _ _).alloc (Nat.le_refl _) _).alloc (by simp) _), heap_alloc2_old _ _ _, heap_alloc2_new _ _ _, hT.lt⟩
  have h72 := strm_n s blk n hrep.len
  have HS0 := Lib.hid hS0
  clear hS0
  go_wp2_with fail
  have hown0 := own_lit (base := w.heap.size + 2) (((w.alloc (.cells (strm s blk n).toArray 86)).alloc (.cells (Lib.byteCells (List.replicate 32 0)).toArray 89))) 5 .u8 [128] (by simp) (by decide)
  simp only [World.size_alloc] at hown0
  go_loopw [4] (fun v4 wr => ∃ j : Nat, j ≤ (119 - n % 64) % 64 ∧ sliceLen v4 = j + 1 ∧ SumW w s blk n wr ∧ wr.ownsRow (w.heap.size + 2) 5 1 v4 (bi (128 :: List.replicate j 0)).length (nums .u8 (bi (128 :: List.replicate j 0)))) (fun v4 _ => 64 - sliceLen v4)
  case atStart =>
    exact ⟨0, Nat.zero_le _, rfl, HS0.out.later ((Below.refl _ _).alloc (by simp) _), by rw [show bi (128 :: List.replicate 0 0) = [128] by simp [bi]]; exact hown0⟩
  case round =>
    obtain ⟨j, hj, hsl, hS, hown⟩ := hrel
    obtain ⟨A, c, rfl⟩ := own_slice hown
    obtain ⟨d72, -⟩ := hS.cell 72 _ (strm_n _ _ _ hrep.len)
    have hbl : (bi (128 :: List.replicate j 0)).length = j + 1 := by simp [bi]
    have hS2 := hS.size
    rw [hbl] at hown ⊢
    have HS := Lib.hid hS
    have HOWN := Lib.hid hown
    clear hS hown hown0 h72
    by_cases hjz : j = (119 - n % 64) % 64
    · have hb : (((n : Int) + (j + 1)) % 64 != 56) = false := by rw [bne_eq_false_iff_eq]; omega
      have HJ := Lib.hid hjz
      clear hjz
      go_wp2_with fail
      have hz : (119 - n % 64) % 64 < 64 := Nat.mod_lt _ (by decide)
      go_loopw [4, 23] (fun v4 v23 wr => ∃ k : Nat, k ≤ 8 ∧ v23 = .int .i64 k ∧ SumW w s blk n wr ∧ wr.ownsRow (w.heap.size + 2) 5 1 v4 (bi (128 :: (List.replicate j 0 ++ (be64 (8 * n)).take k))).length (nums .u8 (bi (128 :: (List.replicate j 0 ++ (be64 (8 * n)).take k))))) (fun _ v23 _ => 8 - (intOf v23).toNat)
      case atStart => exact ⟨0, by omega, rfl, HS.out, by rw [List.take_zero, List.append_nil, hbl]; exact HOWN.out⟩
      case round =>
        clear HOWN HS d72 hsl
        obtain ⟨k, hk, rfl, hS, hown⟩ := hrel
        obtain ⟨A2, c2, rfl⟩ := own_slice hown
        have hbl2 : (bi (128 :: (List.replicate j 0 ++ (be64 (8 * n)).take k))).length = j + 1 + k := by simp [bi, be64]; omega
        rw [hbl2] at hown ⊢
        have hS3 := hS.size
        have HS := Lib.hid hS
        have HOWN := Lib.hid hown
        clear hS hown
        by_cases h8 : k < 8
        · have d8 : decide ((k : Int) < 8) = true := decide_eq_true (by omega)
          go_wp2_with (at_builtin; go_must (refine print_append_num (w0 := wr) (w.heap.size + 2) rfl (.tmp 26) (.tmp 33) 56 5 .u8 1 rfl Tryd.underlying56 info_u8 (by decide) (.slice A2 (j + 1 + k) c2) (bi (128 :: (List.replicate j 0 ++ (be64 (8 * n)).take k))) _ rfl rfl (by rw [hbl2]; exact HOWN.out) (Below.refl _ _) hS3 (by rw [hbl2]; omega) ?_); intro v1 w1 hown1 hB1 hg1 hat1)
          have hS1 := HS.out.later hB1
          have hby : bi (128 :: (List.replicate j 0 ++ (be64 (8 * n)).take k)) ++ [8 * (n : Int) / 2 ^ (56 - 8 * k) % 256] = bi (128 :: (List.replicate j 0 ++ (be64 (8 * n)).take (k + 1))) := by
            rw [List.take_succ_eq_append_getElem (show k < (be64 (8 * n)).length from h8), ← List.append_assoc, ← List.cons_append, bi_append]
            congr 1
            have h := be64_at (8 * n) k h8
            rw [List.getD_eq_getElem?_getD, List.getElem?_eq_getElem (show k < (be64 (8 * n)).length from h8), Option.getD_some] at h
            rw [h]
            simp [bi]
          rw [hby] at hown1
          have HS1 := Lib.hid hS1
          have HO1 := Lib.hid hown1
          clear hS1 hown1 hg1 hat1 hB1 hby
          go_roundw
          case rel => exact ⟨k + 1, by omega, by go_num, HS1.out, HO1.out⟩
          case measure => simp [intOf]; omega
        · have d8 : decide ((k : Int) < 8) = false := decide_eq_false (by omega)
          obtain rfl : k = 8 := by omega
          have hcv := own_string (src := 56) (dst := 9) Tryd.underlying56 Tryd.underlying5 Tryd.underlying9 HOWN.out
          rw [List.take_of_length_le (show (be64 (8 * n)).length ≤ 8 from Nat.le_refl _), show (128 :: (List.replicate j 0 ++ be64 (8 * n))) = padN n by rw [padN, HJ.out], strOfNums_bi] at hcv
          have hlp := padN_length n
          have hszp : (ByteArray.mk (padN n).toArray).size = (padN n).length := by simp [ByteArray.size]
          have hS4 := HS.out
          have hsb := hS4.sb
          have hrep' := hrep
          have hadd := add_any s blk m ⟨(padN n).toArray⟩ wr hS4.tab hrep (by rw [hszp, ← HN.out]; omega)
          rw [← HN.out] at hadd
          have HADD := Lib.hid hadd
          have HS4 := Lib.hid hS4
          have HHB := Lib.hid hsb
          clear hadd HOWN HS hlp
          go_wp2_with ((with_reducible show wpList _ _ _ (⟨some 36, _, _, _, _, _⟩ :: _) _ _); go_must (refine wpList_load_row rfl 86 (.tmp 1) rfl w.heap.size rfl 86 _ (0, 0) _ HHB.out Tryd.underlying86 rfl (by rw [List.size_toArray, strm_length _ _ _ hrep.len]; kernel_rfl) ?_))
          refine HADD.out.mono ?_
          rintro e w1 ⟨s2, blk2, hR2, rfl, hB2⟩
          have hS5 := HS4.out.later (hB2.mono HS4.out.size)
          have hl2 := hR2.len
          obtain ⟨n2, hn2⟩ : ∃ n2, n2 = m.length + (ByteArray.mk (padN n).toArray).data.toList.length := ⟨_, rfl⟩
          rw [← hn2]
          have hsb5 := hS5.sb
          have HS5 := Lib.hid hS5
          clear hsb hS4 hrep' hn2 hS5 hcv
          go_wp2_with (first
            | ((with_reducible show wpList _ _ _ (⟨none, .store 86 _ _, _, _, _, _⟩ :: _) _ _); go_must (refine wpList_store_row rfl 86 (.tmp 1) (.tmp 39) rfl w.heap.size _ rfl rfl 86 _ hsb5 (by rw [List.size_toArray, strm_length _ _ _ hl2]; kernel_rfl) (by rw [List.size_toArray, List.size_toArray, strm_length _ _ _ hl2, strm_length _ _ _ hrep.len]) (strm_one _ _ _) ?_); obtain ⟨w6, hw6⟩ : ∃ w6, w6 = w1.setRow w.heap.size (strm s2 blk2 n2).toArray := ⟨_, rfl⟩; rw [← hw6]; have hS6 := HS5.out.set s2 blk2 n2; rw [← hw6] at hS6; clear hw6; simp only [Act.put]))
          have hz6 := hS6.size
          have hV0 : SumV w s2 blk2 n2 w6.heap.size (s2.bytes.take 0 ++ List.replicate (32 - 0) 0) (w6.alloc (.cells (Lib.byteCells (List.replicate 32 0)).toArray 89)) :=
            ⟨hS6.later ((Below.refl _ _).alloc hz6 _), heap_alloc_new _ _, hz6⟩
          have HS6 := Lib.hid hS6
          clear hS6 hsb5
          obtain ⟨q, hq⟩ : ∃ q, q = w6.heap.size := ⟨_, rfl⟩
          rw [← hq] at hV0 ⊢
          go_loopw [40] (fun v40 wr => ∃ i : Nat, i ≤ 32 ∧ v40 = .int .i64 i ∧ SumV w s2 blk2 n2 q (s2.bytes.take i ++ List.replicate (32 - i) 0) wr) (fun v40 _ => 32 - (intOf v40).toNat)
          case atStart => exact ⟨0, by omega, rfl, hV0⟩
          case round =>
            obtain ⟨i, hi, rfl, hV⟩ := hrel
            have hll : (s2.bytes.take i ++ List.replicate (32 - i) 0).length = 32 := by simp [bytes_length]; omega
            by_cases h32 : i < 32
            · have d32 : decide ((i : Int) < 32) = true := decide_eq_true (by omega)
              have cq : wr.cell? ⟨q, i, none⟩ = some (.int .u8 (((s2.bytes.take i ++ List.replicate (32 - i) 0).getD i 0).toNat : Int)) := by rw [cell_of_row _ _ _ _ _ _ hV.ob]; exact byteCells_at _ _ (by omega)
              have fq : wr.frozen? ⟨q, i, none⟩ = false := frozen_of_row _ _ _ _ _ hV.ob
              obtain ⟨cs, -⟩ := hV.base.cell (i / 4) (.int .u32 (s2.list.getD (i / 4) 0 : Nat)) (by
                unfold strm
                rw [List.getElem?_append_left (by simp [St.list]; omega)]
                simp [List.getD_eq_getElem?_getD, List.getElem?_eq_getElem (show i / 4 < s2.list.length by simp [St.list]; omega)])
              have HV := Lib.hid hV
              have HLL := Lib.hid hll
              clear hV hll hq
              go_wp2_with fail
              go_roundw
              case rel => exact ⟨i + 1, by omega, by go_num, by
                rw [← set_prefix s2.bytes i (bytes_length _) h32]
                refine HV.out.put i _ _ ?_
                rw [bytes_at s2 i h32, u8_ofNat, List.getD_eq_getElem?_getD]
                simp⟩
              case measure => simp [intOf]; omega
            · have d32 : decide ((i : Int) < 32) = false := decide_eq_false (by omega)
              obtain rfl : i = 32 := by omega
              have hob := hV.ob
              have hrb := hV.base.rb
              rw [Nat.sub_self, List.replicate_zero, List.append_nil, List.take_of_length_le (by rw [bytes_length]; omega)] at hob
              have HV := Lib.hid hV
              clear hV hll hq
              go_wp2_with (first
                | ((with_reducible show wpList _ _ _ (⟨some 57, _, _, _, _, _⟩ :: _) _ _); go_must (refine wpList_load_row rfl 89 (.tmp 6) rfl q rfl 89 _ (0, 0) _ hob Tryd.underlying89 rfl (by rw [List.size_toArray, Lib.byteCells_length, bytes_length]; kernel_rfl) ?_))
                | ((with_reducible show wpList _ _ _ (⟨none, .store 89 _ _, _, _, _, _⟩ :: _) _ _); go_must (refine wpList_store_row rfl 89 (.tmp 2) (.tmp 57) rfl (w.heap.size + 1) _ rfl rfl 89 _ hrb (by rw [List.size_toArray, Lib.byteCells_length, bytes_length]; kernel_rfl) (by rw [List.size_toArray, List.size_toArray, Lib.byteCells_length, Lib.byteCells_length, bytes_length]; rfl) (byteCells_all _) ?_)))
              refine bodyPost_ret (v := .agg (Lib.byteCells s2.bytes).toArray) (results_cell_row rfl _ _ (w.heap.size + 1) 89 _ (0, 0) _ rfl (setRow_heap _ _ _ _ _ _ hrb) Tryd.underlying89 rfl (by rw [List.size_toArray, Lib.byteCells_length, bytes_length]; kernel_rfl)) rfl ⟨?_, ?_⟩
              · rw [hR2.st, sha, HN.out]
              · exact below_setRow HV.out.base.low (by omega) _
    · have hb : (((n : Int) + (j + 1)) % 64 != 56) = true := by rw [bne_iff_ne]; omega
      go_wp2_with (at_builtin; go_must (refine print_append_num (w0 := wr) (w.heap.size + 2) rfl (.tmp 20) (.tmp 21) 56 5 .u8 1 rfl Tryd.underlying56 info_u8 (by decide) (.slice A (j + 1) c) (bi (128 :: List.replicate j 0)) 0 rfl rfl (by rw [hbl]; exact HOWN.out) (Below.refl _ _) hS2 (by rw [hbl]; omega) ?_); intro v1 w1 hown1 hB1 hg1 hat1)
      have hS1 := HS.out.later hB1
      rw [show bi (128 :: List.replicate j 0) ++ [0] = bi (128 :: List.replicate (j + 1) 0) by rw [List.replicate_succ', ← List.cons_append, bi_append]; rfl] at hown1
      obtain ⟨A1, c1, rfl⟩ := own_slice hown1
      have HS1 := Lib.hid hS1
      have HO1 := Lib.hid hown1
      clear hS1 hown1 hg1 hat1 hB1
      go_roundw
      case rel => exact ⟨j + 1, by omega, by simp [sliceLen, bi], HS1.out, HO1.out⟩
      case measure => simp [sliceLen, bi]; omega
end Go.Proofs.YtbgijijecipjeaaDoor
