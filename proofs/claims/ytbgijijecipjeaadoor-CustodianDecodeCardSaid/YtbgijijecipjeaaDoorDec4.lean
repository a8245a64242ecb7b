/- Contract of custodian.Decode. -/
import Derived.Test.YtbgijijecipjeaaDoorDecP
import Derived.Laws.MakeOwn
namespace Go.Proofs.YtbgijijecipjeaaDoor
open Go.RowKit Go.IntWalk Go.Proofs.YtbgijijecipjeaaDoorW.PrintWords

theorem grown_setRow (w : World) (g : Nat) (cs : Array Value) : w.grownBy (w.setRow g cs) (some g) :=
  ⟨rfl, rfl, rfl, Nat.le_of_eq (setRow_size w g cs).symm, fun q _ hq => heap_setRow_ne _ _ _ _ (by simpa using hq)⟩
theorem DSt.alloc_ {w : World} {R M : Nat} {b : List UInt8} {s : DS} (h : DSt w R M b s) (o : Obj) : DSt (w.alloc o) R M b s := by
  obtain ⟨A, c, hr, hA⟩ := h.rd
  exact ⟨⟨A, c, ⟨hp_alloc hr.box o, rd_keep_alloc hr.reads o, hr.len, hr.cap, hr.few⟩, hA⟩, hp_alloc h.mem o, h.le, h.ne⟩
/-- The state after so many of a member's three parts. -/
def dK (b : List UInt8) (o : Nat) (s : DS) : Nat → DS
  | 0 => s
  | 1 => dName b o s
  | 2 => dPub b o (dName b o s)
  | _ => dStep b o s
theorem dName_size (b : List UInt8) (o : Nat) (s : DS) : (dName b o s).Y.size = s.Y.size := by
  unfold dName; split
  · exact Array.size_setIfInBounds ..
  · rfl
theorem dPub_size (b : List UInt8) (o : Nat) (s : DS) (ho : o + 17 < s.Y.size) : (dPub b o s).Y.size = s.Y.size := by
  unfold dPub; split
  · rename_i h
    exact putPub_size _ _ _ (by rw [List.length_take, bi_len_drop]; omega) ho
  · rfl
theorem dK_size (b : List UInt8) (o : Nat) (s : DS) (k : Nat) (hk : k < 3) (ho : o + 17 < s.Y.size) : (dK b o s k).Y.size = s.Y.size := by
  rcases k with _ | _ | _ | k
  · rfl
  · exact dName_size b o s
  · have := dName_size b o s
    exact (dPub_size b o _ (by rw [this]; exact ho)).trans this
  · omega
def cusZ : Array Value := #[.int .i64 0, .int .i64 0, .slice none 0 0]
theorem cusZ_one : oneAll cusZ = true := by simp [oneAll, cusZ, Value.oneCell']

set_option maxRecDepth 100000 in
set_option maxHeartbeats 4000000 in
theorem decode_any (s : ByteArray) (w : World) (hs : s.size ≤ 1099511627776) :
    Calls Tryd.prog 26 #[.string s] w fun e w' => Below w.heap.size w w' ∧ ∃ A c, e = .returned (.tuple #[cusV (gDec s.data.toList).1 (gDec s.data.toList).2.1 A (gDec s.data.toList).2.2.1.length c, .int .i64 (gDec s.data.toList).2.2.2]) ∧ ReadsMem w' A (gDec s.data.toList).2.2.1.length (gDec s.data.toList).2.2.1 := by
  have kb := fun W => print_bytes (P := Tryd.prog) 9 56 5 Tryd.underlying9 Tryd.underlying56 Tryd.underlying5 s W
  obtain ⟨b, hb⟩ : ∃ b, b = s.data.toList := ⟨_, rfl⟩
  have hbl : b.length = s.size := by rw [hb, data_length]
  rw [← hb]
  have HBS := Lib.hid hb
  clear hb
  go_enter Tryd.func26, Tryd.ntmps26
  go_upto_region 2 with fail
  obtain ⟨wa, hwa⟩ : ∃ wa, wa = w.alloc (Obj.cells #[Value.int IntKind.i64 0, Value.int IntKind.i64 0, Value.slice none 0 0] 24) := ⟨_, rfl⟩
  obtain ⟨c, hc⟩ : ∃ c, c = grownCap wa s.size 0 5 := ⟨_, rfl⟩
  have hcl : s.size ≤ c := by rw [hc]; exact grownCap_ge _ _ _ _
  have hza : wa.heap.size = w.heap.size + 1 := by rw [hwa, szA]
  have hca : wa.heap[w.heap.size]? = some (.cells cusZ 24 (0, 0)) := by rw [hwa]; exact heap_alloc_new _ _
  have hBa : Below w.heap.size w wa := by rw [hwa]; (repeat (first | (with_reducible assumption) | (with_reducible exact Below.refl _ _) | (with_reducible refine bl_alloc ?_ _) | (with_reducible refine bl_drew ?_) | (with_reducible refine bl_drewN ?_ _) | (with_reducible refine bl_then (by assumption) ?_)))
  rw [← hwa, ← hc, ← hza]
  clear hc hwa
  obtain ⟨wb, hwb⟩ : ∃ wb, wb = Lib.bytesWorld wa 5 s := ⟨_, rfl⟩
  have hrb : ReadsInt wb .u8 (some ⟨wa.heap.size, 0, none⟩) s.size (bi b) := by
    have := bytes_reads wa 5 s (by omega)
    rw [← hwb, bytesOf_bi, ← HBS.out] at this; exact this
  have hzb : wb.heap.size = wa.heap.size + 1 := by rw [hwb, Lib.bytesWorld_size]
  have hBb : Below w.heap.size w wb := by rw [hwb]; exact bytes_below hBa (by omega) _ _
  have hcb : wb.heap[w.heap.size]? = some (.cells cusZ 24 (0, 0)) := by rw [hwb, Lib.bytesWorld_at_old _ _ _ _ (by omega)]; exact hca
  rw [← hwb]
  clear hwb hca hBa
  obtain ⟨w0, hw0⟩ : ∃ w0, w0 = wb.alloc (Obj.cells #[Value.slice (some ⟨wa.heap.size, 0, none⟩) s.size c, Value.int IntKind.i64 0] 68) := ⟨_, rfl⟩
  rw [← hw0]
  have hr0 : ReadsInt w0 .u8 (some ⟨wa.heap.size, 0, none⟩) s.size (bi b) := by rw [hw0]; exact rd_keep_alloc hrb _
  have hbox0 : w0.heap[wb.heap.size]? = some (.cells #[.slice (some ⟨wa.heap.size, 0, none⟩) s.size c, .int .i64 0] 68 (0, 0)) := by rw [hw0]; exact heap_alloc_new _ _
  have hc0 : w0.heap[w.heap.size]? = some (.cells cusZ 24 (0, 0)) := by rw [hw0]; exact hp_alloc hcb _
  have hB0 : Below w.heap.size w w0 := by rw [hw0]; exact hBb.alloc (by omega) _
  have hz0 : w0.heap.size = wb.heap.size + 1 := by rw [hw0, szA]
  clear hw0 hrb hcb hBb
  obtain ⟨R, hR⟩ : ∃ R, R = wb.heap.size := ⟨_, rfl⟩
  obtain ⟨D, hD⟩ : ∃ D, D = wa.heap.size := ⟨_, rfl⟩
  obtain ⟨Z, hZ⟩ : ∃ Z, Z = w.heap.size := ⟨_, rfl⟩
  rw [← hR] at hbox0 hz0 hzb ⊢
  rw [← hD] at hr0 hbox0 hzb hza ⊢
  rw [← hZ] at hc0 hza ⊢
  have HR0 := Lib.hid hr0
  have HBOX0 := Lib.hid hbox0
  have HC0 := Lib.hid hc0
  have HB0 := Lib.hid hB0
  have HNUM : Hid (D = Z + 1 ∧ R = D + 1 ∧ w0.heap.size = R + 1 ∧ Z = w.heap.size) := Lib.hid ⟨hza, hzb, hz0, hZ⟩
  have hcr : w0.cell? ⟨R, 0, none⟩ = some (.slice (some ⟨D, 0, none⟩) s.size c) := by rw [cell_of_row _ _ _ _ _ _ hbox0]; rfl
  clear hr0 hbox0 hc0 hB0 hz0 hzb hza hR hD hZ
  go_wp2_with fail
  have hI := getInts_any (some ⟨D, 0, none⟩) c b w0 (by rw [hbl]; exact HR0.out) (by omega) (by omega)
  have hle := gInts_le b
  have hgd : gDec b = if (gInts b).2.2 ≠ 0 then (0, 0, [], (gInts b).2.2)
    else if (gInts b).1.length ≠ 3 ∨ (gInts b).1.getD 2 0 < 1 ∨ 16 < (gInts b).1.getD 2 0 then (0, 0, [], 6)
    else if (gMems b ((gInts b).1.getD 2 0).toNat [] (gInts b).2.1).2.2 ≠ 0 then (0, 0, [], (gMems b ((gInts b).1.getD 2 0).toNat [] (gInts b).2.1).2.2)
    else if (gMems b ((gInts b).1.getD 2 0).toNat [] (gInts b).2.1).2.1 < b.length ∨ validB ((gInts b).1.getD 0 0) ((gInts b).1.getD 1 0) (gMems b ((gInts b).1.getD 2 0).toNat [] (gInts b).2.1).1 = false then (0, 0, [], 6)
    else ((gInts b).1.getD 0 0, (gInts b).1.getD 1 0, (gMems b ((gInts b).1.getD 2 0).toNat [] (gInts b).2.1).1, 0) := rfl
  rw [hbl] at hI hle
  obtain ⟨⟨l, u, er⟩, hg⟩ : ∃ g, g = gInts b := ⟨_, rfl⟩
  obtain ⟨gd, hgd'⟩ : ∃ gd, gd = gDec b := ⟨_, rfl⟩
  rw [← hgd'] at hgd
  rw [← hg] at hI hle hgd
  simp only [] at hI hle hgd
  have HGD := Lib.hid hgd
  have HG' := Lib.hid hgd'
  clear hgd hgd' hg
  refine hI.mono ?_
  rintro e w1 ⟨v, rfl, hown, hB1⟩
  have hbox1 := (hB1.block R (by have := HNUM.out; omega)).trans HBOX0.out
  have hC1 := (hB1.block Z (by have := HNUM.out; omega)).trans HC0.out
  have hrd1 := HR0.out.below hB1
  have hb1 : Below w.heap.size w w1 := HB0.out.trans (hB1.mono HB0.out.size)
  have hz1 := hB1.size
  have hD := done_any R (some ⟨D, 0, none⟩) s.size c u 0 er w1 hbox1 hle (by omega)
  have hown1 := Lib.hid hown
  have HBOX1 := Lib.hid hbox1
  have HC1 := Lib.hid hC1
  have HRD1 := Lib.hid hrd1
  have HB1 := Lib.hid hb1
  clear hown hB1 hbox1 hC1 hrd1 hb1 hcr hI kb
  by_cases c1 : er = 0
  · subst c1
    rw [show errAfter 0 0 = 0 from rfl, if_pos rfl] at hD
    have HD := Lib.hid hD
    clear hD
    go_wp2_with fail
    refine HD.out.mono ?_
    rintro e w2 ⟨rfl, hw2⟩
    have hb2 : w2.heap[R]? = some (.cells #[.slice (cutA (some ⟨D, 0, none⟩) c u) (s.size - u) (c - u), .int .i64 0] 68 (0, 0)) := by rw [← hw2]; exact setRow_heap _ _ _ _ _ _ HBOX1.out
    have hrd2 : Rdr w2 R (cutA (some ⟨D, 0, none⟩) c u) (b.length - u) (c - u) 0 (b.drop u) := by
      have h1 : Rdr w1 R (some ⟨D, 0, none⟩) s.size c 0 b := ⟨HBOX1.out, HRD1.out, hbl, hcl, hs⟩
      rw [hbl]
      refine h1.cut hle hb2 (fun k xs hx => ?_)
      rw [← hw2]
      exact rd_setRow hx _ _ (cutA_block (fun ad e => by injection e with e; subst e; have := HNUM.out; show D ≠ R; omega))
    have hc2 : w2.heap[Z]? = some (.cells cusZ 24 (0, 0)) := by rw [← hw2, heap_setRow_ne _ _ _ _ (by have := HNUM.out; omega)]; exact HC1.out
    have hB2 : Below w.heap.size w w2 := by rw [← hw2]; exact below_setRow HB1.out (by have := HNUM.out; omega) _
    have hz2 : w2.heap.size = w1.heap.size := by rw [← hw2, setRow_size]
    have HZ2 := Lib.hid hz2
    clear hz2
    have hown2 : w2.ownsRow w0.heap.size 3 1 v l.length (nums .i64 l) := by
      rw [← hw2]
      refine own_other hown1.out (grown_setRow _ _ _) ?_
      rcases hv : v.ownBlock with _ | k
      · exact .inl rfl
      · right
        have h1 := own_base hown1.out k hv
        have h2 := HNUM.out
        intro e; injection e with e; omega
    have HB2 := Lib.hid hb2
    have HRD2 := Lib.hid hrd2
    have HC2 := Lib.hid hc2
    have HBW2 := Lib.hid hB2
    have HOWN2 := Lib.hid hown2
    have HGD2 : Hid (gd = if l.length ≠ 3 ∨ l.getD 2 0 < 1 ∨ 16 < l.getD 2 0 then (0, 0, [], 6) else if (gMems b (l.getD 2 0).toNat [] u).2.2 ≠ 0 then (0, 0, [], (gMems b (l.getD 2 0).toNat [] u).2.2) else if (gMems b (l.getD 2 0).toNat [] u).2.1 < b.length ∨ validB (l.getD 0 0) (l.getD 1 0) (gMems b (l.getD 2 0).toNat [] u).1 = false then (0, 0, [], 6) else (l.getD 0 0, l.getD 1 0, (gMems b (l.getD 2 0).toNat [] u).1, 0)) := Lib.hid (by rw [HGD.out, if_neg (by simp)])
    have hr2 : row? w2 Z = some #[.int .i64 0, .int .i64 0, .slice none 0 0] := row_of hc2
    have hzs : ∀ (W : World), storeRowK Tryd.prog 24 3 Z #[Value.int IntKind.i64 0, Value.int IntKind.i64 0, Value.slice none 0 0] W (some #[Value.int IntKind.i64 0, Value.int IntKind.i64 0, Value.slice none 0 0]) = .ok () (W.setRow Z #[Value.int IntKind.i64 0, Value.int IntKind.i64 0, Value.slice none 0 0]) := fun W => storeRowK_some _ _ _ _ _ _ _ rfl rfl (by simp [oneAll, Value.oneCell'])
    clear hw2 hb2 hrd2 hc2 hB2 hown2 HGD
    by_cases hl3 : l.length = 3
    · obtain ⟨x0, x1, x2, rfl⟩ : ∃ x0 x1 x2, l = [x0, x1, x2] := by
        match l, hl3 with
        | [a, b, c], _ => exact ⟨a, b, c, rfl⟩
      obtain ⟨g, cap, rfl⟩ : ∃ g cap, v = .slice (some ⟨g, 0, none⟩) 3 cap := by
        rcases HOWN2.out.2 with ⟨-, h⟩ | ⟨g, cap, cur, h, -⟩
        · cases h
        · exact ⟨g, cap, h⟩
      have k0 := (own_at HOWN2.out 0 (by decide) (by decide))
      have k1 := (own_at HOWN2.out 1 (by decide) (by decide))
      have k2 := (own_at HOWN2.out 2 (by decide) (by decide))
      replace k0 : w2.cell? ⟨g, 0, none⟩ = some (.int .i64 x0) := k0.1
      replace k1 : w2.cell? ⟨g, 1, none⟩ = some (.int .i64 x1) := k1.1
      replace k2 : w2.cell? ⟨g, 2, none⟩ = some (.int .i64 x2) := k2.1
      have hgd3 : gd = if [x0, x1, x2].length ≠ 3 ∨ x2 < 1 ∨ 16 < x2 then (0, 0, [], 6) else if (gMems b x2.toNat [] u).2.2 ≠ 0 then (0, 0, [], (gMems b x2.toNat [] u).2.2) else if (gMems b x2.toNat [] u).2.1 < b.length ∨ validB x0 x1 (gMems b x2.toNat [] u).1 = false then (0, 0, [], 6) else (x0, x1, (gMems b x2.toNat [] u).1, 0) := HGD2.out
      have HGD3 := Lib.hid hgd3
      clear hgd3 HGD2 hl3
      by_cases hx : x2 < 1 ∨ 16 < x2
      · have hgd4 : gd = (0, 0, [], 6) := by rw [HGD3.out, if_pos (.inr hx)]
        have HGD4 := Lib.hid hgd4
        clear hgd4
        rcases (show x2 < 1 ∨ (¬ x2 < 1 ∧ 16 < x2) by omega) with hx1 | ⟨hx1, hx2⟩
        all_goals
          clear hx
          go_wp2_with fail
          have hhf := setRow_heap w2 Z cusZ #[Value.int IntKind.i64 0, Value.int IntKind.i64 0, Value.slice none 0 0] 24 (0, 0) HC2.out
          refine bodyPost_ret (v := .tuple #[cusV 0 0 none 0 0, .int .i64 6]) (results_cell_tmp_row rfl _ _ Z 24 _ (0, 0) _ _ rfl rfl hhf Tryd.underlying24 rfl (by kernel_rfl)) rfl ⟨below_setRow HBW2.out (by have := HNUM.out; omega) _, ?_⟩
          rw [← HG'.out, HGD4.out]
          exact ⟨none, 0, rfl, rfl, fun j m hm => by simp at hm⟩
      · obtain ⟨n, rfl⟩ : ∃ n : Nat, x2 = (n : Int) := ⟨x2.toNat, by omega⟩
        have hn1 : 1 ≤ n := by omega
        have hn16 : n ≤ 16 := by omega
        have hx1 : ¬ (n : Int) < 1 := by omega
        have hx2 : ¬ (16 : Int) < (n : Int) := by omega
        have hgd4 : gd = if (gMems b n [] u).2.2 ≠ 0 then (0, 0, [], (gMems b n [] u).2.2) else if (gMems b n [] u).2.1 < b.length ∨ validB x0 x1 (gMems b n [] u).1 = false then (0, 0, [], 6) else (x0, x1, (gMems b n [] u).1, 0) := by rw [HGD3.out, if_neg (by simp; omega), Int.toNat_natCast]
        have HGD4 := Lib.hid hgd4
        clear hx hgd4 HGD3
        obtain ⟨i, hi, hz⟩ := Option.map_eq_some_iff.1 (show (Tryd.prog.info? 47).map (fun i => (i.size, i.bytes, i.zero.isSome)) = some (18, 40, true) by kernel_rfl)
        simp only [Prod.mk.injEq] at hz
        obtain ⟨hz1, hz2', hz3⟩ := hz
        obtain ⟨z, hzz⟩ := Option.isSome_iff_exists.1 hz3
        obtain ⟨Y0, hY0⟩ : ∃ Y0, Y0 = madeCells z.cells (n * i.size) := ⟨_, rfl⟩
        have hY0s : Y0.size = 18 * n := by rw [hY0, size_madeCells, hz1, Nat.mul_comm]
        have hmk : ∀ W, (Instr.makeSlice 22 (.int .i64 (n : Int)) (.int .i64 (n : Int))).run Tryd.prog W = .ok (.slice (some ⟨W.heap.size, 0, none⟩) n n) (W.alloc (.cells Y0 47)) := fun W => by
          have := run_make (P := Tryd.prog) W 22 47 i z Tryd.underlying22 hi hzz .i64 .i64 n n (by omega) (by omega) (by rw [hz2']; omega) (by omega)
          simp only [Int.toNat_natCast] at this
          rw [this, hY0]
        have HY0 := Lib.hid hY0s
        clear hY0 hY0s hz1 hz2' hz3 hzz hi
        have hgl : g < w2.heap.size := World.block_lt_of_cell? w2 _ k0
        go_upto_region 7 with fail
        go_cut [8] (fun v8 wx => ∃ C M Y, v8 = .pointer (some ⟨C, 0, none⟩) ∧ wx.heap[C]? = some (.cells (cusRow x0 x1 (some ⟨M, 0, none⟩) n n) 24 (0, 0)) ∧ wx.heap[M]? = some (.cells Y 47 (0, 0)) ∧ Y.size = 18 * n ∧ w2.heap.size ≤ C ∧ w2.heap.size ≤ M ∧ C ≠ M ∧ Below w2.heap.size w2 wx)
        case first =>
          have hts : ∀ (W : World) (g n' d' : Nat) (B' : Option Addr), storeRowK Tryd.prog 24 3 g #[Value.int IntKind.i64 x0, Value.int IntKind.i64 x1, Value.slice B' n' d'] W (some #[Value.int IntKind.i64 0, Value.int IntKind.i64 0, Value.slice none 0 0]) = .ok () (W.setRow g #[Value.int IntKind.i64 x0, Value.int IntKind.i64 x1, Value.slice B' n' d']) := fun W g n' d' B' => storeRowK_some _ _ _ _ _ _ _ rfl rfl (by simp [oneAll, Value.oneCell'])
          go_region_held3 (fun w' => w'.cell? ⟨g, 0, none⟩ = some (.int .i64 x0) ∧ w'.cell? ⟨g, 1, none⟩ = some (.int .i64 x1) ∧ w'.cell? ⟨g, 2, none⟩ = some (.int .i64 (n : Int))) (refine ⟨?_, ?_, ?_⟩ <;> (repeat (first | (with_reducible assumption) | (with_reducible refine cell_keep_alloc ?_ _) | (with_reducible refine cell_keep_drew ?_) | (with_reducible refine cell_keep_drewN ?_ _) | (with_reducible refine (cell_setRow_ne _ _ _ _ (Nat.ne_of_lt hgl)).trans ?_) | (with_reducible refine (cell_setRow_ne _ _ _ _ (Nat.ne_of_lt (Nat.lt_succ_of_lt hgl))).trans ?_) | (go_split_ands; assumption)))) (first | fail)
          all_goals
            go_wp2_with fail
            go_meet
            first
              | exact ⟨w2.heap.size + 1, w2.heap.size, Y0, rfl, setRow_heap _ _ _ _ _ _ (hp_drew (heap_alloc2_new _ _ _)), (heap_setRow_ne _ _ _ _ (by omega)).trans (hp_drew (hp_alloc (heap_alloc_new _ _) _)), HY0.out, by omega, by omega, by omega, below_setRow (by (repeat (first | (with_reducible assumption) | (with_reducible exact Below.refl _ _) | (with_reducible refine bl_alloc ?_ _) | (with_reducible refine bl_drew ?_) | (with_reducible refine bl_drewN ?_ _) | (with_reducible refine bl_then (by assumption) ?_)))) (by omega) _⟩
              | exact ⟨w2.heap.size, w2.heap.size + 1, Y0, rfl, setRow_heap _ _ _ _ _ _ (hp_drew (hp_alloc (heap_alloc_new _ _) _)), (heap_setRow_ne _ _ _ _ (by omega)).trans (hp_drew (heap_alloc2_new _ _ _)), HY0.out, by omega, by omega, by omega, below_setRow (by (repeat (first | (with_reducible assumption) | (with_reducible exact Below.refl _ _) | (with_reducible refine bl_alloc ?_ _) | (with_reducible refine bl_drew ?_) | (with_reducible refine bl_drewN ?_ _) | (with_reducible refine bl_then (by assumption) ?_)))) (by omega) _⟩
        case rest =>
          obtain ⟨C, M, Y, rfl, hC, hM, hYs, hC2, hM2, hCM, hBc⟩ := hcut
          have hz1' := HZ2.out
          have hnum := HNUM.out
          have hst : DSt wc R M b ⟨u, 0, Y⟩ := by
            refine ⟨⟨cutA (some ⟨D, 0, none⟩) c u, c - u, ?_, ?_⟩, hM, by show u ≤ b.length; omega, by omega⟩
            · exact ⟨(hBc.block R (by omega)).trans HRD2.out.box, HRD2.out.reads.below hBc, HRD2.out.len, HRD2.out.cap, HRD2.out.few⟩
            · intro ad e
              exact ⟨cutA_block (fun ad e => by injection e with e; subst e; show D ≠ R; omega) ad e, cutA_block (fun ad e => by injection e with e; subst e; show D ≠ M; omega) ad e⟩
          have hinv : DInv b n u 0 ⟨u, 0, Y⟩ := DInv.zero b n u Y (by omega) hYs
          have hBw : Below w.heap.size w wc := HBW2.out.trans (hBc.mono HBW2.out.size)
          have hcz := (hBc.block Z (by omega)).trans HC2.out
          have HST := Lib.hid hst
          have HINV := Lib.hid hinv
          have HBW := Lib.hid hBw
          have HCZ := Lib.hid hcz
          have HC := Lib.hid hC
          have hcc : wc.cell? ⟨C, 2, none⟩ = some (.slice (some ⟨M, 0, none⟩) n n) := by rw [cell_of_row _ _ _ _ _ _ hC]; rfl
          have HN2 : Hid (C ≠ M ∧ C ≠ R ∧ M ≠ R ∧ Z ≠ C ∧ Z ≠ M ∧ Z ≠ R ∧ w.heap.size ≤ R ∧ w.heap.size ≤ M ∧ w.heap.size ≤ C ∧ C < wc.heap.size ∧ w.heap.size = Z) := Lib.hid ⟨hCM, by omega, by omega, by omega, by omega, by omega, by omega, by omega, by omega, hp_lt hC, hnum.2.2.2.symm⟩
          clear hst hinv hBw hcz hC hM hYs hC2 hM2 hCM hBc hz1' hnum k0 k1 k2 hgl hr2 hzs
          go_wp2_with fail
          go_loopw [67] (fun v67 wr => ∃ (i : Nat) (st : DS), i ≤ n ∧ v67 = .int .i64 i ∧ DInv b n u i st ∧ DSt wr R M b st ∧ wr.heap[C]? = some (.cells (cusRow x0 x1 (some ⟨M, 0, none⟩) n n) 24 (0, 0)) ∧ wr.heap[Z]? = some (.cells cusZ 24 (0, 0)) ∧ Below w.heap.size w wr) (fun v67 _ => n - (RowKit.intOf v67).toNat)
          case atStart => exact ⟨0, ⟨u, 0, Y⟩, by omega, rfl, HINV.out, HST.out, HC.out, HCZ.out, HBW.out⟩
          case round =>
            obtain ⟨wo, rfl⟩ : ∃ wo : World, wo = wr := ⟨_, rfl⟩
            clear HST HINV HBW HCZ HC hcc
            obtain ⟨i, st, hi, rfl, hinv, hst, hC, hcz, hBw⟩ := hrel
            have hcc : wo.cell? ⟨C, 2, none⟩ = some (.slice (some ⟨M, 0, none⟩) n n) := by rw [cell_of_row _ _ _ _ _ _ hC]; rfl
            have HST := Lib.hid hst
            have HINV := Lib.hid hinv
            have HBW := Lib.hid hBw
            have HCZ := Lib.hid hcz
            have HC := Lib.hid hC
            clear hst hinv hBw hcz hC
            have hmf : ∀ (fn : Fn) (first cap : Array Value) (w : World), (Instr.makeFunc fn first cap).run Tryd.prog w = .ok (.func fn first cap) w := fun _ _ _ _ => rfl
            by_cases hlt : i < n
            · have l1 : decide ((i : Int) < (n : Int)) = true := decide_eq_true (by omega)
              have hsz := HINV.out.2.1
              have hzw : C < wo.heap.size := hp_lt HC.out
              go_wp2_with fail
              obtain ⟨w3, hw3⟩ : ∃ w3, w3 = wo.alloc (Obj.cells #[Value.func (Fn.func 45) #[Value.pointer (some ⟨R, 0, none⟩)] #[], Value.func (Fn.func 46) #[Value.pointer (some ⟨R, 0, none⟩)] #[], Value.func (Fn.func 47) #[Value.pointer (some ⟨R, 0, none⟩)] #[]] 72) := ⟨_, rfl⟩
              obtain ⟨F, hF⟩ : ∃ F, F = wo.heap.size := ⟨_, rfl⟩
              rw [← hw3, ← hF]
              have hFb : w3.heap[F]? = some (.cells #[Value.func (Fn.func 45) #[Value.pointer (some ⟨R, 0, none⟩)] #[], Value.func (Fn.func 46) #[Value.pointer (some ⟨R, 0, none⟩)] #[], Value.func (Fn.func 47) #[Value.pointer (some ⟨R, 0, none⟩)] #[]] 72 (0, 0)) := by rw [hF, hw3]; exact heap_alloc_new _ _
              have hst3 : DSt w3 R M b st := by rw [hw3]; exact HST.out.alloc_ _
              have hC3 : w3.heap[C]? = some (.cells (cusRow x0 x1 (some ⟨M, 0, none⟩) n n) 24 (0, 0)) := by rw [hw3]; exact hp_alloc HC.out _
              have hZ3 : w3.heap[Z]? = some (.cells cusZ 24 (0, 0)) := by rw [hw3]; exact hp_alloc HCZ.out _
              have hB3 : Below w.heap.size w w3 := by rw [hw3]; exact HBW.out.alloc HBW.out.size _
              have hRF : R < F := by rw [hF]; obtain ⟨A', c', hr', -⟩ := HST.out.rd; exact hp_lt hr'.box
              have hMF : M < F := by rw [hF]; exact hp_lt HST.out.mem
              have HFB := Lib.hid hFb
              have HC3 := Lib.hid hC3
              have HZ3 := Lib.hid hZ3
              have HB3 := Lib.hid hB3
              have HST3 := Lib.hid hst3
              clear hw3 hF hFb hst3 hC3 hZ3 hB3 hcc hzw
              go_loopw [78] (fun v78 wi => ∃ k : Nat, k ≤ 3 ∧ v78 = .int .i64 k ∧ DSt wi R M b (dK b (i * 18) st k) ∧ KeepRM w3 wi R M) (fun v78 _ => 3 - (RowKit.intOf v78).toNat)
              case atStart => exact ⟨0, by omega, rfl, HST3.out, KeepRM.refl _ _ _⟩
              case round =>
                obtain ⟨k, hk, rfl, hsti, hkp⟩ := hrel
                have hn2 := HN2.out
                have hFi := (hkp.block F (by omega) (by omega)).trans HFB.out
                have hCi := (hkp.block C (by omega) (by omega)).trans HC3.out
                have hcc : wr.cell? ⟨C, 2, none⟩ = some (.slice (some ⟨M, 0, none⟩) n n) := by rw [cell_of_row _ _ _ _ _ _ hCi]; rfl
                have HSTI := Lib.hid hsti
                have HKP := Lib.hid hkp
                have i0 : (0 : Int) ≤ (i : Int) := by omega
                have i1 : (i : Int) < (n : Int) := by omega
                clear hn2 hsti hkp hCi
                rcases (show k = 0 ∨ k = 1 ∨ k = 2 ∨ k = 3 by omega) with rfl | rfl | rfl | rfl
                · have hc0 : wr.cell? ⟨F, 0, none⟩ = some (Value.func (Fn.func 45) #[Value.pointer (some ⟨R, 0, none⟩)] #[]) := by rw [cell_of_row _ _ _ _ _ _ hFi]; rfl
                  have hds := dK_size b (i * 18) st 0 (by decide) (by omega)
                  clear hFi
                  go_wp2_with fail
                  refine (name_st R M (i * 18) b _ wr HSTI.out (by rw [hds]; omega)).mono ?_
                  rintro e w5 ⟨rfl, hst5, hkp5⟩
                  have HST5 := Lib.hid hst5
                  have HKP5 := Lib.hid (HKP.out.trans hkp5)
                  clear hst5 hkp5 hds hc0 hcc
                  go_wp2_with fail
                  go_roundw
                  case rel => exact ⟨1, by omega, by go_num, HST5.out, HKP5.out⟩
                  case measure => simp [RowKit.intOf]
                · have hc0 : wr.cell? ⟨F, 1, none⟩ = some (Value.func (Fn.func 46) #[Value.pointer (some ⟨R, 0, none⟩)] #[]) := by rw [cell_of_row _ _ _ _ _ _ hFi]; rfl
                  have hds := dK_size b (i * 18) st 1 (by decide) (by omega)
                  clear hFi
                  go_wp2_with fail
                  refine (public_st R M (i * 18) b _ wr HSTI.out (by rw [hds]; omega)).mono ?_
                  rintro e w5 ⟨rfl, hst5, hkp5⟩
                  have HST5 := Lib.hid hst5
                  have HKP5 := Lib.hid (HKP.out.trans hkp5)
                  clear hst5 hkp5 hds hc0 hcc
                  go_wp2_with fail
                  go_roundw
                  case rel => exact ⟨2, by omega, by go_num, HST5.out, HKP5.out⟩
                  case measure => simp [RowKit.intOf]
                · have hc0 : wr.cell? ⟨F, 2, none⟩ = some (Value.func (Fn.func 47) #[Value.pointer (some ⟨R, 0, none⟩)] #[]) := by rw [cell_of_row _ _ _ _ _ _ hFi]; rfl
                  have hds := dK_size b (i * 18) st 2 (by decide) (by omega)
                  clear hFi
                  go_wp2_with fail
                  refine (height_st R M (i * 18) b _ wr HSTI.out (by rw [hds]; omega)).mono ?_
                  rintro e w5 ⟨rfl, hst5, hkp5⟩
                  have HST5 := Lib.hid hst5
                  have HKP5 := Lib.hid (HKP.out.trans hkp5)
                  clear hst5 hkp5 hds hc0 hcc
                  go_wp2_with fail
                  go_roundw
                  case rel => exact ⟨3, by omega, by go_num, HST5.out, HKP5.out⟩
                  case measure => simp [RowKit.intOf]
                · go_wp2_with fail
                  go_roundw
                  case rel =>
                    have hst4 : DSt wr R M b (dStep b (18 * i) st) := by rw [Nat.mul_comm 18 i]; exact HSTI.out
                    have hn2 := HN2.out
                    exact ⟨i + 1, dStep b (18 * i) st, by omega, by go_num, HINV.out.step hlt, hst4, (HKP.out.block C (by omega) (by omega)).trans HC3.out, (HKP.out.block Z (by omega) (by omega)).trans HZ3.out, HKP.out.below HB3.out (by omega) (by omega)⟩
                  case measure => simp [RowKit.intOf]; omega
            · have hin : n = i := by omega
              subst hin
              have l1 : decide ((n : Int) < (n : Int)) = false := decide_eq_false (by omega)
              obtain ⟨A5, c5, hr5, -⟩ := HST.out.rd
              have hb5 := hr5.box
              have k5 : wo.cell? ⟨R, 0, none⟩ = some (.slice A5 (b.length - st.off) c5) := by rw [cell_of_row _ _ _ _ _ _ hb5]; rfl
              have k6 : wo.cell? ⟨R, 1, none⟩ = some (.int .i64 st.e) := by rw [cell_of_row _ _ _ _ _ _ hb5]; rfl
              have f6 : wo.frozen? ⟨R, 1, none⟩ = false := frozen_of_row _ _ _ _ _ hb5
              have hle5 := HST.out.le
              obtain ⟨e5, he5⟩ : ∃ e5, e5 = st.e := ⟨_, rfl⟩
              rw [← he5] at k6 hb5
              have HB5 := Lib.hid hb5
              have hz6 : ∀ (W : World), storeRowK Tryd.prog 24 3 Z #[Value.int IntKind.i64 0, Value.int IntKind.i64 0, Value.slice none 0 0] W (some #[Value.int IntKind.i64 0, Value.int IntKind.i64 0, Value.slice none 0 0]) = .ok () (W.setRow Z #[Value.int IntKind.i64 0, Value.int IntKind.i64 0, Value.slice none 0 0]) := fun W => storeRowK_some _ _ _ _ _ _ _ rfl rfl (by simp [oneAll, Value.oneCell'])
              clear hcc hb5 hr5
              by_cases hc5 : e5 = 0
              · subst hc5
                obtain ⟨acc, T, hacc, hpub, hok, hg, hY⟩ : ∃ acc T, acc.length = n ∧ (∀ m ∈ acc, m.pub.length = 16) ∧ (∀ m ∈ acc, m.name.size ≤ b.length ∧ in64 m.ht) ∧ gMems b n [] u = gMems b (n - n) acc st.off ∧ st.Y = ((acc.map memRow).flatten ++ T).toArray := by
                  rcases HINV.out.2.2 with ⟨-, h⟩ | ⟨h, -⟩
                  · exact h
                  · exact absurd he5.symm h
                rw [Nat.sub_self, gMems] at hg
                have hgd6 := HGD4.out
                rw [hg, if_neg (by simp)] at hgd6
                simp only [] at hgd6
                have hmem : ReadsMem wo (some ⟨M, 0, none⟩) acc.length acc := by
                  refine ⟨rfl, fun j m hm => ⟨hpub m (List.mem_of_getElem? hm), _, rfl, fun k v hv => ?_⟩⟩
                  rw [add_plain, cell_of_row _ _ _ _ _ _ HST.out.mem, hY, List.getElem?_toArray, List.getElem?_append_left]
                  · exact flat_get acc hpub j m k v hm hv
                  · exact (List.getElem?_eq_some_iff.1 (flat_get acc hpub j m k v hm hv)).1
                have HMEM := Lib.hid hmem
                have HACC := Lib.hid hacc
                have HGD6 := Lib.hid hgd6
                have HOK := Lib.hid hok
                clear hmem hacc hgd6 hg hY hpub hok he5
                by_cases hoff : st.off < b.length
                · have o1 : (0 : Int) < ((b.length - st.off : Nat) : Int) := by omega
                  have hg7 : gd = (0, 0, [], 6) := by rw [HGD6.out, if_pos (.inl hoff)]
                  have HG7 := Lib.hid hg7
                  clear hg7 hoff
                  go_upto_region 19 with fail
                  obtain ⟨w6, hw6⟩ : ∃ w6, w6 = wo.setCell ⟨R, 1, none⟩ (Value.int IntKind.i64 6) := ⟨_, rfl⟩
                  rw [← hw6]
                  have HB6 : Hid (∃ A6 m6 c6, w6.heap[R]? = some (.cells #[.slice A6 m6 c6, .int .i64 6] 68 (0, 0))) := Lib.hid ⟨_, _, _, by rw [hw6]; exact blk_set HB5.out 1 _⟩
                  have HZ6 : Hid (w6.heap[Z]? = some (.cells cusZ 24 (0, 0))) := Lib.hid (by rw [hw6]; exact blk_far HCZ.out (by show Z ≠ R; have := HNUM.out; omega) _)
                  have HBW6 : Hid (Below w.heap.size w w6) := Lib.hid (by rw [hw6]; exact (HBW.out).trans ⟨rfl, rfl, rfl, Nat.le_of_eq (by rw [setCell_eq_setRow _ _ _ _ _ _ _ HB5.out, setRow_size]), fun q hq => Below.heap_setCell _ _ _ q (by show q ≠ R; have := HNUM.out; omega)⟩)
                  obtain ⟨A6, m6, c6, HB6⟩ := HB6.out
                  replace HB6 := Lib.hid HB6
                  clear hw6 k5 k6 f6 l1
                  have hr6 : row? w6 Z = some #[.int .i64 0, .int .i64 0, .slice none 0 0] := row_of HZ6.out
                  have hcr6 : w6.cell? ⟨R, 1, none⟩ = some (.int .i64 6) := by rw [cell_of_row _ _ _ _ _ _ HB6.out]; rfl
                  have hcz : ∀ X, (w6.setRow Z X).cell? ⟨R, 1, none⟩ = some (.int .i64 6) := fun X => by rw [cell_setRow_ne _ _ _ _ (by show R ≠ Z; have := HNUM.out; omega)]; exact hcr6
                  have hcz2 : ∀ X, (w6.drew.setRow Z X).cell? ⟨R, 1, none⟩ = some (.int .i64 6) := hcz
                  go_wp2_with fail
                  go_region_with (fail)
                  all_goals
                    go_wp2_with fail
                    have hhf := setRow_heap w6 Z cusZ #[Value.int IntKind.i64 0, Value.int IntKind.i64 0, Value.slice none 0 0] 24 (0, 0) HZ6.out
                    refine bodyPost_ret (v := .tuple #[cusV 0 0 none 0 0, .int .i64 6]) (results_cell_tmp_row rfl _ _ Z 24 _ (0, 0) _ _ rfl rfl hhf Tryd.underlying24 rfl (by kernel_rfl)) rfl ⟨?_, ?_⟩
                    · refine below_setRow ?_ (by have := HNUM.out; omega) _
                      exact HBW6.out.drew
                    · rw [← HG'.out, HG7.out]
                      exact ⟨none, 0, rfl, rfl, fun j m hm => by simp at hm⟩
                · have o1 : b.length - st.off = 0 := by omega
                  rw [o1] at k5
                  have hrC : row? wo C = some #[.int .i64 x0, .int .i64 x1, .slice (some ⟨M, 0, none⟩) n n] := row_of HC.out
                  have hal : acc.length ≤ 1099511627776 := by have := HACC.out; omega
                  have hV := valid_any x0 x1 (some ⟨M, 0, none⟩) n acc wo HMEM.out (fun m hm => ⟨Nat.le_trans (HOK.out m hm).1 (by simp only [maxLen]; omega), (HOK.out m hm).2⟩) hal
                  rw [HACC.out] at hV
                  unfold cusV at hV
                  have HV := Lib.hid hV
                  have hg7 : gd = if validB x0 x1 acc = false then (0, 0, [], 6) else (x0, x1, acc, 0) := by
                    rw [HGD6.out]
                    by_cases hv : validB x0 x1 acc = false
                    · rw [if_pos (.inr hv), if_pos hv]
                    · rw [if_neg (by simp only [not_or]; exact ⟨hoff, hv⟩), if_neg hv]
                  have HG7 := Lib.hid hg7
                  clear hV hg7 hal o1 hoff
                  go_wp2_with fail
                  refine HV.out.mono ?_
                  rintro e w5 ⟨rfl, hB5⟩
                  have hzlt := hp_lt HCZ.out
                  have hrlt := hp_lt HB5.out
                  have hclt := hp_lt HC.out
                  have hbx5 := (hB5.block R hrlt).trans HB5.out
                  have hz5 := (hB5.block Z hzlt).trans HCZ.out
                  have hc5' := (hB5.block C hclt).trans HC.out
                  have hbw5 := HBW.out.trans (hB5.mono HBW.out.size)
                  have hm5 := HMEM.out.below hB5
                  have HBX5 := Lib.hid hbx5
                  have HZ5 := Lib.hid hz5
                  have HC5 := Lib.hid hc5'
                  have HBW5 := Lib.hid hbw5
                  have HM5 := Lib.hid hm5
                  have k7 : w5.cell? ⟨R, 1, none⟩ = some (.int .i64 0) := by rw [cell_of_row _ _ _ _ _ _ hbx5]; rfl
                  have f7 : w5.frozen? ⟨R, 1, none⟩ = false := frozen_of_row _ _ _ _ _ hbx5
                  have hr7 : row? w5 Z = some #[.int .i64 0, .int .i64 0, .slice none 0 0] := row_of hz5
                  have hr8 : row? w5 C = some #[.int .i64 x0, .int .i64 x1, .slice (some ⟨M, 0, none⟩) n n] := row_of hc5'
                  clear hbx5 hz5 hc5' hbw5 hm5 hB5 hzlt hrlt hclt k5 k6 f6 hrC
                  rcases Bool.eq_false_or_eq_true (validB x0 x1 acc) with hv | hv
                  · rw [hv]
                    have hg8 : gd = (x0, x1, acc, 0) := by rw [HG7.out, hv]; rfl
                    have HG8 := Lib.hid hg8
                    have hts : ∀ (W : World), storeRowK Tryd.prog 24 3 Z #[Value.int IntKind.i64 x0, Value.int IntKind.i64 x1, Value.slice (some ⟨M, 0, none⟩) n n] W (some #[Value.int IntKind.i64 0, Value.int IntKind.i64 0, Value.slice none 0 0]) = .ok () (W.setRow Z #[Value.int IntKind.i64 x0, Value.int IntKind.i64 x1, Value.slice (some ⟨M, 0, none⟩) n n]) := fun W => storeRowK_some _ _ _ _ _ _ _ rfl rfl (by simp [oneAll, Value.oneCell'])
                    clear hv hg8
                    go_wp2_with fail
                    have hhf := setRow_heap w5 Z cusZ #[Value.int IntKind.i64 x0, Value.int IntKind.i64 x1, Value.slice (some ⟨M, 0, none⟩) n n] 24 (0, 0) HZ5.out
                    refine bodyPost_ret (v := .tuple #[cusV x0 x1 (some ⟨M, 0, none⟩) n n, .int .i64 0]) (results_cell_tmp_row rfl _ _ Z 24 _ (0, 0) _ _ rfl rfl hhf Tryd.underlying24 rfl (by kernel_rfl)) rfl ⟨below_setRow HBW5.out (by have := HNUM.out; omega) _, ?_⟩
                    rw [← HG'.out, HG8.out]
                    exact ⟨some ⟨M, 0, none⟩, n, by simp only []; rw [HACC.out], HM5.out.setRow _ _ (.inr ⟨_, rfl, by show M ≠ Z; have := HN2.out; omega⟩)⟩
                  · rw [hv]
                    have hg8 : gd = (0, 0, [], 6) := by rw [HG7.out, hv]; rfl
                    have HG8 := Lib.hid hg8
                    clear hv hg8
                    go_upto_region 19 with fail
                    obtain ⟨w6, hw6⟩ : ∃ w6, w6 = w5.setCell ⟨R, 1, none⟩ (Value.int IntKind.i64 6) := ⟨_, rfl⟩
                    rw [← hw6]
                    have HB6 : Hid (∃ A6 m6 c6, w6.heap[R]? = some (.cells #[.slice A6 m6 c6, .int .i64 6] 68 (0, 0))) := Lib.hid ⟨_, _, _, by rw [hw6]; exact blk_set HBX5.out 1 _⟩
                    have HZ6 : Hid (w6.heap[Z]? = some (.cells cusZ 24 (0, 0))) := Lib.hid (by rw [hw6]; exact blk_far HZ5.out (by show Z ≠ R; have := HNUM.out; omega) _)
                    have HBW6 : Hid (Below w.heap.size w w6) := Lib.hid (by rw [hw6]; exact (HBW5.out).trans ⟨rfl, rfl, rfl, Nat.le_of_eq (by rw [setCell_eq_setRow _ _ _ _ _ _ _ HBX5.out, setRow_size]), fun q hq => Below.heap_setCell _ _ _ q (by show q ≠ R; have := HNUM.out; omega)⟩)
                    obtain ⟨A6, m6, c6, HB6⟩ := HB6.out
                    replace HB6 := Lib.hid HB6
                    clear hw6 k7 f7 hr7 hr8 l1
                    have hr6 : row? w6 Z = some #[.int .i64 0, .int .i64 0, .slice none 0 0] := row_of HZ6.out
                    have hcr6 : w6.cell? ⟨R, 1, none⟩ = some (.int .i64 6) := by rw [cell_of_row _ _ _ _ _ _ HB6.out]; rfl
                    have hcz : ∀ X, (w6.setRow Z X).cell? ⟨R, 1, none⟩ = some (.int .i64 6) := fun X => by rw [cell_setRow_ne _ _ _ _ (by show R ≠ Z; have := HNUM.out; omega)]; exact hcr6
                    have hcz2 : ∀ X, (w6.drew.setRow Z X).cell? ⟨R, 1, none⟩ = some (.int .i64 6) := hcz
                    go_wp2_with fail
                    go_region_with (fail)
                    all_goals
                      go_wp2_with fail
                      have hhf := setRow_heap w6 Z cusZ #[Value.int IntKind.i64 0, Value.int IntKind.i64 0, Value.slice none 0 0] 24 (0, 0) HZ6.out
                      refine bodyPost_ret (v := .tuple #[cusV 0 0 none 0 0, .int .i64 6]) (results_cell_tmp_row rfl _ _ Z 24 _ (0, 0) _ _ rfl rfl hhf Tryd.underlying24 rfl (by kernel_rfl)) rfl ⟨?_, ?_⟩
                      · refine below_setRow ?_ (by have := HNUM.out; omega) _
                        exact HBW6.out.drew
                      · rw [← HG'.out, HG8.out]
                        exact ⟨none, 0, rfl, rfl, fun j m hm => by simp at hm⟩
              · have hg9 : gd = (0, 0, [], e5) := by
                  rcases HINV.out.2.2 with ⟨h, -⟩ | ⟨-, hg⟩
                  · exact absurd (he5.trans h) hc5
                  · rw [HGD4.out, hg, if_pos (by show st.e ≠ 0; rw [← he5]; exact hc5), he5]
                have HG9 := Lib.hid hg9
                have hc5b : (e5 == 0) = false := by simpa using hc5
                have hc5c : (e5 != 0) = true := by simpa using hc5
                clear hg9 hc5 he5
                go_upto_region 19 with fail
                obtain ⟨w6, hw6⟩ : ∃ w6, w6 = wo := ⟨_, rfl⟩
                have HB6 : Hid (w6.heap[R]? = some (.cells #[.slice A5 (b.length - st.off) c5, .int .i64 e5] 68 (0, 0))) := Lib.hid (by rw [hw6]; exact HB5.out)
                have HZ6 : Hid (w6.heap[Z]? = some (.cells cusZ 24 (0, 0))) := Lib.hid (by rw [hw6]; exact HCZ.out)
                have HBW6 : Hid (Below w.heap.size w w6) := Lib.hid (by rw [hw6]; exact HBW.out)
                rw [← hw6]
                clear hw6 k5 k6 f6
                have hr6 : row? w6 Z = some #[.int .i64 0, .int .i64 0, .slice none 0 0] := row_of HZ6.out
                have hcr6 : w6.cell? ⟨R, 1, none⟩ = some (.int .i64 e5) := by rw [cell_of_row _ _ _ _ _ _ HB6.out]; rfl
                have hcz : ∀ X, (w6.setRow Z X).cell? ⟨R, 1, none⟩ = some (.int .i64 e5) := fun X => by rw [cell_setRow_ne _ _ _ _ (by show R ≠ Z; have := HNUM.out; omega)]; exact hcr6
                have hcz2 : ∀ X, (w6.drew.setRow Z X).cell? ⟨R, 1, none⟩ = some (.int .i64 e5) := hcz
                go_wp2_with fail
                go_region_with (fail)
                all_goals
                  go_wp2_with fail
                  have hhf := setRow_heap w6 Z cusZ #[Value.int IntKind.i64 0, Value.int IntKind.i64 0, Value.slice none 0 0] 24 (0, 0) HZ6.out
                  refine bodyPost_ret (v := .tuple #[cusV 0 0 none 0 0, .int .i64 e5]) (results_cell_tmp_row rfl _ _ Z 24 _ (0, 0) _ _ rfl rfl hhf Tryd.underlying24 rfl (by kernel_rfl)) rfl ⟨?_, ?_⟩
                  · refine below_setRow ?_ (by have := HNUM.out; omega) _
                    exact HBW6.out.drew
                  · rw [← HG'.out, HG9.out]
                    exact ⟨none, 0, rfl, rfl, fun j m hm => by simp at hm⟩
    · have hl3' : ((l.length : Int) != 3) = true := by simp; omega
      have hgd : gd = (0, 0, [], 6) := by rw [HGD2.out, if_pos (.inl hl3)]
      obtain ⟨A9, c9, rfl⟩ := own_slice HOWN2.out
      have HGD3 := Lib.hid hgd
      clear hgd hl3
      go_wp2_with fail
      have hhf := setRow_heap w2 Z cusZ #[Value.int IntKind.i64 0, Value.int IntKind.i64 0, Value.slice none 0 0] 24 (0, 0) HC2.out
      refine bodyPost_ret (v := .tuple #[cusV 0 0 none 0 0, .int .i64 6]) (results_cell_tmp_row rfl _ _ Z 24 _ (0, 0) _ _ rfl rfl hhf Tryd.underlying24 rfl (by kernel_rfl)) rfl ⟨below_setRow HBW2.out (by have := HNUM.out; omega) _, ?_⟩
      rw [← HG'.out, HGD3.out]
      exact ⟨none, 0, rfl, rfl, fun j m hm => by simp at hm⟩
  · rw [show errAfter 0 er = er from rfl, if_neg c1, decide_eq_false c1] at hD
    have HD := Lib.hid hD
    have C1 := Lib.hid c1
    clear hD c1
    go_wp2_with fail
    refine HD.out.mono ?_
    rintro e w2 ⟨rfl, hw2⟩
    have hb2 : w2.heap[R]? = some (.cells #[.slice (some ⟨D, 0, none⟩) s.size c, .int .i64 er] 68 (0, 0)) := by rw [← hw2]; exact setRow_heap _ _ _ _ _ _ HBOX1.out
    have hc2 : w2.heap[Z]? = some (.cells cusZ 24 (0, 0)) := by rw [← hw2, heap_setRow_ne _ _ _ _ (by have := HNUM.out; omega)]; exact HC1.out
    have hB2 : Below w.heap.size w w2 := by rw [← hw2]; exact below_setRow HB1.out (by have := HNUM.out; omega) _
    have hr2 : row? w2 Z = some #[.int .i64 0, .int .i64 0, .slice none 0 0] := row_of hc2
    have hcr2 : w2.cell? ⟨R, 1, none⟩ = some (.int .i64 er) := by rw [cell_of_row _ _ _ _ _ _ hb2]; rfl
    have hcz : ∀ X, (w2.setRow Z X).cell? ⟨R, 1, none⟩ = some (.int .i64 er) := fun X => by rw [cell_setRow_ne _ _ _ _ (by show R ≠ Z; have := HNUM.out; omega)]; exact hcr2
    have hcz2 : ∀ X, (w2.drew.setRow Z X).cell? ⟨R, 1, none⟩ = some (.int .i64 er) := hcz
    have hzs : ∀ (W : World), storeRowK Tryd.prog 24 3 Z #[Value.int IntKind.i64 0, Value.int IntKind.i64 0, Value.slice none 0 0] W (some #[Value.int IntKind.i64 0, Value.int IntKind.i64 0, Value.slice none 0 0]) = .ok () (W.setRow Z #[Value.int IntKind.i64 0, Value.int IntKind.i64 0, Value.slice none 0 0]) := fun W => storeRowK_some _ _ _ _ _ _ _ rfl rfl (by simp [oneAll, Value.oneCell'])
    have HC2 := Lib.hid hc2
    have HB2 := Lib.hid hB2
    clear hw2 hb2 hc2 hB2
    go_wp2_with fail
    go_region_with (fail)
    all_goals
      go_wp2_with fail
      have hhf := setRow_heap w2 Z cusZ #[Value.int IntKind.i64 0, Value.int IntKind.i64 0, Value.slice none 0 0] 24 (0, 0) HC2.out
      refine bodyPost_ret (v := .tuple #[cusV 0 0 none 0 0, .int .i64 er]) (results_cell_tmp_row rfl _ _ Z 24 _ (0, 0) _ _ rfl rfl hhf Tryd.underlying24 rfl (by kernel_rfl)) rfl ⟨?_, ?_⟩
      · refine below_setRow ?_ (by have := HNUM.out; omega) _
        exact HB2.out.drew
      · rw [← HG'.out, HGD.out, if_pos C1.out]
        exact ⟨none, 0, rfl, rfl, fun j m hm => by simp at hm⟩
end Go.Proofs.YtbgijijecipjeaaDoor
