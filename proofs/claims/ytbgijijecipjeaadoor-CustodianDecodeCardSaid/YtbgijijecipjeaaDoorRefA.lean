/- Contracts of the specification's encodings: custodyref01.Int, Ints, Bytes. Contracts of the specification's encodings: custodyref01.Ints, custodyref02.Text. -/
import Derived.Test.YtbgijijecipjeaaDoorWireA
import Derived.Test.YtbgijijecipjeaaDoorPureA
import Derived.Test.YtbgijijecipjeaaDoorRow
namespace Go.Proofs.YtbgijijecipjeaaDoor
open Go.RowKit Go.IntWalk Go.Proofs.YtbgijijecipjeaaDoorW.PrintWords

theorem own_mono {w : World} {b b' : Nat} {e : TypeId} {size n : Nat} {v : Value} {xs : List Value} (h : w.ownsRow b e size v n xs) (hb : b' ≤ b) : w.ownsRow b' e size v n xs := by
  refine ⟨h.1, ?_⟩
  rcases h.2 with h2 | ⟨g, cap, cur, rfl, hg, r⟩
  · exact .inl h2
  · exact .inr ⟨g, cap, cur, rfl, Nat.le_trans hb hg, r⟩

set_option maxRecDepth 100000 in
set_option maxHeartbeats 800000 in
theorem rint_any (n : Int) (w : World) (h1 : -9223372036854775808 ≤ n) (h2 : n < 9223372036854775808) : Calls Tryd.prog 38 #[.int .i64 n] w (RetB (wInt n) w) := by
  have hm := magN_lt n h1 h2
  obtain ⟨m, hme⟩ : ∃ m, m = magN n := ⟨_, rfl⟩
  rw [← hme] at hm
  have HME := Lib.hid hme
  clear hme
  go_enter Tryd.func38, Tryd.ntmps38
  go_upto_if 11 with fail
  go_cut [3] (fun v3 wx => v3 = .int .i64 (m : Int) ∧ w = wx)
  case first =>
    by_cases hn : n < 0
    · have d0 : decide (n < 0) = true := decide_eq_true hn
      go_wp2_with fail
      go_meet
      refine ⟨congrArg (Value.int .i64) ?_, rfl⟩
      rw [HME.out, magN, if_pos hn]; omega
    · have d0 : decide (n < 0) = false := decide_eq_false hn
      go_wp2_with fail
      go_meet
      refine ⟨congrArg (Value.int .i64) ?_, rfl⟩
      rw [HME.out, magN, if_neg (by omega)]; omega
  case rest =>
    obtain ⟨rfl, rfl⟩ := hcut
    have HN0 := Lib.hid (own_nil w w.heap.size 5 1)
    go_wp2_with fail
    go_loopw [3, 4] (fun v3 v4 wr => ∃ j : Nat, j ≤ 8 ∧ v3 = .int .i64 ((m / 256 ^ j : Nat) : Int) ∧ (j = 0 ∨ 0 < m / 256 ^ (j - 1)) ∧ Below w.heap.size w wr ∧ wr.ownsRow w.heap.size 5 1 v4 (les m j).length (nums .u8 (les m j))) (fun v3 _ _ => (intOf v3).toNat)
    case atStart => exact ⟨0, by omega, by simp, .inl rfl, Below.refl _ _, HN0.out⟩
    case round =>
      obtain ⟨j, hj, rfl, hpos, hB, hown⟩ := hrel
      obtain ⟨x, hx⟩ : ∃ x, x = m / 256 ^ j := ⟨_, rfl⟩
      rw [← hx]
      have hxm : x ≤ m := by rw [hx]; exact Nat.div_le_self _ _
      obtain ⟨A, c, rfl⟩ := own_slice hown
      have hz := hB.size
      have hll := les_length m j
      have HOWN := Lib.hid hown
      have HB := Lib.hid hB
      have HX := Lib.hid hx
      have HP := Lib.hid hpos
      clear hown hB hx hpos
      by_cases hlt : 0 < x
      · have d1 : decide (0 < (x : Int)) = true := decide_eq_true (by omega)
        have hj8 := div8 m j hm (by rw [← HX.out]; exact hlt)
        go_wp2_with (at_builtin; go_must (refine print_append_num (w0 := wr) (w.heap.size) rfl (.tmp 16) (.tmp 20) 56 5 .u8 1 rfl Tryd.underlying56 infoU8 (by decide) (.slice A (les m j).length c) (les m j) _ rfl rfl HOWN.out ((Below.refl _ _).mono hz) hz (by rw [hll]; omega) ?_); intro v1 w1 hown1 hB1 hg1 hat1)
        have hown2 : w1.ownsRow w.heap.size 5 1 v1 (les m (j + 1)).length (nums .u8 (les m (j + 1))) := by
          rw [les_succ, ← HX.out]; exact hown1
        have hB2 := HB.out.trans hB1
        have HO2 := Lib.hid hown2
        clear hown2 hown1 hB1 hg1 hat1
        go_wp2_with fail
        go_roundw
        case rel =>
          refine ⟨j + 1, by omega, ?_, .inr ?_, hB2, HO2.out⟩
          · rw [pow256_succ, ← HX.out]; rfl
          · rw [Nat.add_sub_cancel, ← HX.out]; exact hlt
        case measure => simp [intOf]; omega
      · have d1 : decide (0 < (x : Int)) = false := decide_eq_false (by omega)
        obtain rfl : x = 0 := by omega
        have hjk : j = nbF m 8 := (nbF_eq m j HX.out.symm HP.out 8 hj).symm
        have hrd : ReadsInt wr .u8 A j (les m j) := by
          obtain ⟨A', c', he, hr⟩ := own_reads HOWN.out
          injection he with hA
          rw [hll] at hr; rw [hA]; exact hr
        have HRD := Lib.hid hrd
        have HJK := Lib.hid hjk
        clear hrd hjk
        rw [hll]
        have HN1 := Lib.hid (own_nil wr wr.heap.size 5 1)
        obtain ⟨h0, hh0⟩ : ∃ h0, h0 = UInt8.ofNat (128 + j) ^^^ flipN n := ⟨_, rfl⟩
        have HH0 := Lib.hid hh0
        clear hh0
        go_upto_if 27 with fail
        go_cut [6] (fun v6 wx => Below wr.heap.size wr wx ∧ wx.ownsRow wr.heap.size 5 1 v6 (bi [h0]).length (nums .u8 (bi [h0])))
        case first =>
          by_cases hn : n < 0
          · have d0 : decide (0 ≤ n) = false := decide_eq_false (by omega)
            go_wp2_with (at_builtin; go_must (refine print_append_num (w0 := wr) (wr.heap.size) rfl (.tmp 34) (.tmp 38) 56 5 .u8 1 rfl Tryd.underlying56 infoU8 (by decide) (.slice none 0 0) [] _ rfl rfl HN1.out (Below.refl _ _) (Nat.le_refl _) (by simp) ?_); intro v1 w1 hown1 hB1 hg1 hat1)
            go_meet
            refine ⟨hB1, ?_⟩
            have e : bi [h0] = [127 - (j : Int)] := by
              rw [HH0.out, flipN, if_pos hn, bi, List.map_cons, List.map_nil, xor255 _ (by omega)]
              congr 1; omega
            rw [e]
            simpa using hown1
          · have d0 : decide (0 ≤ n) = true := decide_eq_true (by omega)
            go_wp2_with (at_builtin; go_must (refine print_append_num (w0 := wr) (wr.heap.size) rfl (.tmp 28) (.tmp 32) 56 5 .u8 1 rfl Tryd.underlying56 infoU8 (by decide) (.slice none 0 0) [] _ rfl rfl HN1.out (Below.refl _ _) (Nat.le_refl _) (by simp) ?_); intro v1 w1 hown1 hB1 hg1 hat1)
            go_meet
            refine ⟨hB1, ?_⟩
            have e : bi [h0] = [128 + (j : Int)] := by
              rw [HH0.out, flipN, if_neg (by omega), bi, List.map_cons, List.map_nil, xor0 _ (by omega)]
              congr 1
            rw [e]
            simpa using hown1
        case rest =>
          obtain ⟨hB1, hown1⟩ := hcut
          have HB1 := Lib.hid hB1
          have HO1 := Lib.hid hown1
          clear hB1 hown1
          obtain ⟨wo, rfl⟩ : ∃ wo : World, wo = wr := ⟨_, rfl⟩
          go_wp2_with fail
          go_loopw [6, 7] (fun v6 v7 wx => ∃ t : Nat, t ≤ j ∧ v7 = .int .i64 ((j : Int) - 1 - t) ∧ Below wo.heap.size wo wx ∧ wx.ownsRow wo.heap.size 5 1 v6 (bi (h0 :: digs m j (flipN n) t)).length (nums .u8 (bi (h0 :: digs m j (flipN n) t)))) (fun _ v7 _ => (intOf v7 + 1).toNat)
          case atStart => exact ⟨0, Nat.zero_le _, by go_num, HB1.out, HO1.out⟩
          case round =>
            obtain ⟨t, ht, rfl, hB2, hown2⟩ := hrel
            have hbl : (bi (h0 :: digs m j (flipN n) t)).length = t + 1 := by simp [bi, digs_length]
            obtain ⟨A2, c2, rfl⟩ := own_slice hown2
            have hz2 := hB2.size
            rw [hbl] at hown2 ⊢
            have HRD2 := Lib.hid (HRD.out.below hB2)
            have HO2 := Lib.hid hown2
            have HB2 := Lib.hid hB2
            clear hown2 hB2
            by_cases htk : t < j
            · have d1 : decide ((0 : Int) ≤ (j : Int) - 1 - t) = true := decide_eq_true (by omega)
              obtain ⟨ad, rfl, hcell⟩ := HRD2.out.at_ ((j : Int) - 1 - t) (by omega) (by omega)
              have hix : ((j : Int) - 1 - t).toNat = j - 1 - t := by omega
              obtain ⟨d, hd⟩ : ∃ d, d = m / 256 ^ (j - 1 - t) % 256 := ⟨_, rfl⟩
              have hrdv : rd (les m j) ((j : Int) - 1 - t) = (d : Int) := by
                rw [rd, hix, les_get m j _ (by omega), hd]
              rw [hrdv, hix] at hcell
              have hd8 : d < 256 := by rw [hd]; exact Nat.mod_lt _ (by decide)
              have HD := Lib.hid hd
              clear hd hrdv
              have hnx : bi (h0 :: digs m j (flipN n) (t + 1)) = bi (h0 :: digs m j (flipN n) t) ++ bi [UInt8.ofNat d ^^^ flipN n] := by
                rw [digs_succ, ← List.cons_append, bi_append, HD.out, ofNat_mod]
              have HNX := Lib.hid hnx
              clear hnx
              by_cases hn : n < 0
              case' pos =>
                have d2 : decide (n < 0) = true := decide_eq_true hn
                have hb1 : bi [UInt8.ofNat d ^^^ flipN n] = [255 - (d : Int)] := by
                  rw [flipN, if_pos hn, bi, List.map_cons, List.map_nil, xor255 _ hd8]
              case' neg =>
                have d2 : decide (n < 0) = false := decide_eq_false hn
                have hb1 : bi [UInt8.ofNat d ^^^ flipN n] = [(d : Int)] := by
                  rw [flipN, if_neg hn, bi, List.map_cons, List.map_nil, xor0 _ hd8]
              all_goals
                have HBY := Lib.hid hb1
                clear hb1
                go_wp2_with (at_builtin; go_must (refine print_append_num (w0 := wr) (wo.heap.size) rfl (.tmp 54) (.tmp 56) 56 5 .u8 1 rfl Tryd.underlying56 infoU8 (by decide) (.slice A2 (t + 1) c2) (bi (h0 :: digs m j (flipN n) t)) _ rfl rfl (by rw [hbl]; exact HO2.out) ((Below.refl _ _).mono hz2) hz2 (by rw [hbl]; omega) ?_); intro v1 w1 hown1 hB1 hg1 hat1)
                have hB3 := HB2.out.trans hB1
                rw [← HBY.out, ← HNX.out] at hown1
                have HO3 := Lib.hid hown1
                clear hown1
                go_wp2_with fail
              · go_roundw
                case rel => exact ⟨t + 1, by omega, by go_num, hB3, HO3.out⟩
                case measure => simp [intOf]; omega
              · refine ⟨?_, ?_⟩
                · (repeat apply Exists.intro); exact ⟨⟨t + 1, by omega, by go_num, hB3, HO3.out⟩, rfl⟩
                · simp [intOf]; omega
            · have d1 : decide ((0 : Int) ≤ (j : Int) - 1 - t) = false := decide_eq_false (by omega)
              obtain rfl : t = j := by omega
              go_wp2_with fail
              go_ret
              refine ⟨_, rfl, ?_, HB.out.trans (HB2.out.mono hz)⟩
              have e : wInt n = h0 :: digs m t (flipN n) t := by rw [wInt, ← HME.out, ← HJK.out, HH0.out]
              rw [e, hbl]
              exact own_mono HO2.out hz
end Go.Proofs.YtbgijijecipjeaaDoor
namespace Go.Proofs.YtbgijijecipjeaaDoor
open Go.RowKit Go.IntWalk Go.Proofs.YtbgijijecipjeaaDoorW.PrintWords

set_option maxRecDepth 100000 in
set_option maxHeartbeats 800000 in
theorem rints_any (A : Option Addr) (c : Nat) (xs : List Int) (w : World) (hr : ReadsInt w .i64 A xs.length xs) (_hc : xs.length ≤ c) (hn : xs.length ≤ 1099511627776) (hx : ∀ x ∈ xs, -9223372036854775808 ≤ x ∧ x < 9223372036854775808) :
    Calls Tryd.prog 35 #[.slice A xs.length c] w (RetB (wInts xs) w) := by
  have HR := Lib.hid hr
  have HX := Lib.hid hx
  clear hr hx
  go_enter Tryd.func35, Tryd.ntmps35
  go_wp2_with fail
  refine (rint_any (xs.length : Int) w (by omega) (by omega)).mono ?_
  rintro e w1 ⟨v, rfl, hown, hB⟩
  have HOWN := Lib.hid hown
  have HB := Lib.hid hB
  clear hown hB
  go_wp2_with fail
  go_loopw [3, 4] (fun v3 v4 wr => ∃ i : Nat, i ≤ xs.length ∧ v4 = .int .i64 i ∧ Below w.heap.size w wr ∧ wr.ownsRow w.heap.size 5 1 v3 (bi (wInt (xs.length : Int) ++ wMany (xs.take i))).length (nums .u8 (bi (wInt (xs.length : Int) ++ wMany (xs.take i))))) (fun _ v4 _ => xs.length - (intOf v4).toNat)
  case atStart => exact ⟨0, by omega, rfl, HB.out, by rw [List.take_zero, show wMany [] = [] from rfl, List.append_nil]; exact HOWN.out⟩
  case round =>
    obtain ⟨i, hi, rfl, hB, hown⟩ := hrel
    have hl := wInt_length_le (xs.length : Int)
    have hl2 := wMany_length_le (xs.take i)
    have hl3 : (xs.take i).length ≤ i := List.length_take_le _ _
    have hz := hB.size
    by_cases hlt : i < xs.length
    · have d1 : decide ((i : Int) < xs.length) = true := decide_eq_true (by omega)
      obtain ⟨ad, rfl, hcell⟩ := HR.out.at_ i (by omega) (by omega)
      have hcell2 := pw_cell_below (hB.mono (Nat.le_refl _)) hcell
      obtain ⟨y, hy⟩ : ∃ y, y = xs.getD i 0 := ⟨_, rfl⟩
      have hyr : rd xs i = y := by simp [rd, hy]
      rw [hyr] at hcell2
      simp only [Int.toNat_natCast] at hcell2
      have hyx : -9223372036854775808 ≤ y ∧ y < 9223372036854775808 := by
        rw [hy, List.getD_eq_getElem?_getD, List.getElem?_eq_getElem hlt]
        exact HX.out _ (List.getElem_mem hlt)
      have HY := Lib.hid hy
      have HOWN := Lib.hid hown
      have HB := Lib.hid hB
      clear hy hyr hown hB hcell
      go_wp2_with fail
      refine (rint_any y wr hyx.1 hyx.2).mono ?_
      rintro e w2 ⟨v2, rfl, hown2, hB2⟩
      obtain ⟨A2, c2, rfl, hR2⟩ := own_reads hown2
      have hl4 := wInt_length_le y
      have hz2 := hB2.size
      have HO2 := Lib.hid (pw_own_below HOWN.out hB2)
      have HR2 := Lib.hid hR2
      have HB3 := Lib.hid (HB.out.trans (hB2.mono hz))
      have hbl : (bi (wInt (xs.length : Int) ++ wMany (xs.take i))).length ≤ 9 + 9 * i := by rw [bi_length, List.length_append]; omega
      have hbl2 : (bi (wInt y)).length ≤ 9 := by rw [bi_length]; omega
      clear hown2 hB2 hR2 HB
      go_wp2_with (at_builtin; go_must (refine print_append_row (w0 := w) w.heap.size rfl (.tmp 14) (.tmp 19) 56 5 .u8 1 rfl Tryd.underlying56 infoU8 (by decide) _ (bi (wInt (xs.length : Int) ++ wMany (xs.take i))) (bi (wInt y)) A2 _ c2 rfl rfl HO2.out HR2.out HB3.out (by omega) (by omega) ?_); intro v3 w3 hown3 hB4 hg3 hat3)
      go_roundw
      case rel => exact ⟨i + 1, by omega, by go_num, hB4, by
        rw [← bi_append, List.append_assoc, HY.out, List.getD_eq_getElem?_getD, List.getElem?_eq_getElem hlt, Option.getD_some, ← wMany_snoc, ← List.take_succ_eq_append_getElem hlt] at hown3
        exact hown3⟩
      case measure => simp [intOf]; omega
    · have d1 : decide ((i : Int) < xs.length) = false := decide_eq_false (by omega)
      obtain rfl : i = xs.length := by omega
      go_wp2_with fail
      go_ret
      refine ⟨_, rfl, ?_, hB⟩
      rw [List.take_length] at hown
      exact hown

set_option maxRecDepth 100000 in
set_option maxHeartbeats 800000 in
theorem text_any (d : List UInt8) (w : World) (hd : d.length = 16) :
    Calls Tryd.prog 37 #[.agg (Lib.byteCells d).toArray] w fun e w' => e = .returned (.string ⟨d.toArray⟩) ∧ Below w.heap.size w w' := by
  go_enter Tryd.func37, Tryd.ntmps37
  go_wp2_with fail
  obtain ⟨w0, hw0⟩ : ∃ w0, w0 = w.alloc (Obj.cells (Lib.byteCells d).toArray 36) := ⟨_, rfl⟩
  have hblk : w0.heap[w.heap.size]? = some (.cells (Lib.byteCells d).toArray 36 (0, 0)) := by rw [hw0]; exact heap_alloc_new _ _
  have hz0 : w0.heap.size = w.heap.size + 1 := by rw [hw0]; exact Array.size_push ..
  have hB0 : Below w.heap.size w w0 := by rw [hw0]; exact (Below.refl _ _).alloc (Nat.le_refl _) _
  rw [← hw0]
  clear hw0
  have HN0 := Lib.hid (own_nil w0 w0.heap.size 5 1)
  go_loopw [3, 4] (fun v3 v4 wr => ∃ i : Nat, i ≤ 16 ∧ v4 = .int .i64 i ∧ Below w0.heap.size w0 wr ∧ wr.ownsRow w0.heap.size 5 1 v3 (bi (d.take i)).length (nums .u8 (bi (d.take i)))) (fun _ v4 _ => 16 - (intOf v4).toNat)
  case atStart => exact ⟨0, by omega, rfl, Below.refl _ _, HN0.out⟩
  case round =>
    obtain ⟨i, hi, rfl, hB, hown⟩ := hrel
    obtain ⟨A, c, rfl⟩ := own_slice hown
    have hz := hB.size
    have hbl : (bi (d.take i)).length = i := by rw [bi_length, List.length_take]; omega
    have hblk2 := hblk
    rw [← hB.block _ (by omega)] at hblk2
    have HOWN := Lib.hid hown
    have HB := Lib.hid hB
    clear hown hB
    by_cases hlt : i < 16
    · have d1 : decide ((i : Int) < 16) = true := decide_eq_true (by omega)
      obtain ⟨x, hx⟩ : ∃ x, d[i]? = some x := ⟨_, List.getElem?_eq_getElem (by omega)⟩
      have hcell : wr.cell? ⟨w.heap.size, i, none⟩ = some (.int .u8 (x.toNat : Int)) := by
        rw [cell_of_row _ _ _ _ _ _ hblk2, List.getElem?_toArray, Lib.byteCells, List.getElem?_map, hx]; rfl
      have htk : bi (d.take (i + 1)) = bi (d.take i) ++ [(x.toNat : Int)] := by
        rw [List.take_add_one, hx, bi_append]; rfl
      have HTK := Lib.hid htk
      clear htk hx hblk2
      go_wp2_with (at_builtin; go_must (refine print_append_num (w0 := wr) (w0.heap.size) rfl (.tmp 9) (.tmp 13) 56 5 .u8 1 rfl Tryd.underlying56 infoU8 (by decide) _ (bi (d.take i)) _ rfl rfl HOWN.out ((Below.refl _ _).mono hz) hz (by rw [hbl]; omega) ?_); intro v1 w1 hown1 hB1 hg1 hat1)
      have hB2 := HB.out.trans hB1
      rw [← HTK.out] at hown1
      have HO1 := Lib.hid hown1
      clear hown1
      go_wp2_with fail
      go_roundw
      case rel => exact ⟨i + 1, by omega, by go_num, hB2, HO1.out⟩
      case measure => simp [intOf]; omega
    · have d1 : decide ((i : Int) < 16) = false := decide_eq_false (by omega)
      obtain rfl : i = 16 := by omega
      have hcv := own_string (P := Tryd.prog) Tryd.underlying56 Tryd.underlying5 Tryd.underlying9 HOWN.out
      rw [show d.take 16 = d from List.take_of_length_le (by omega), strOfNums_bi] at hcv
      rw [show d.take 16 = d from List.take_of_length_le (by omega)]
      go_wp2_with fail
      go_ret
      exact ⟨rfl, hB0.trans (HB.out.mono (by omega))⟩
end Go.Proofs.YtbgijijecipjeaaDoor
