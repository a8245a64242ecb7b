/- Contracts of wire.Int, wire.Bytes, wire.Ints. Contracts of wire.Bytes, wire.Ints. -/
import Derived.Test.YtbgijijecipjeaaDoorChecked
import Derived.Test.YtbgijijecipjeaaDoorBits
import Derived.Test.YtbgijijecipjeaaDoorPureA
import Derived.Lib.Hide
import Derived.Deep.DeepMust
import Derived.KernelRfl
namespace Go.Proofs.YtbgijijecipjeaaDoor
open Go.RowKit Go.Proofs.YtbgijijecipjeaaDoorW.PrintWords

theorem infoU8 : (Tryd.prog.info? 5).map (fun i => (i.zero, i.size, i.bytes)) = some (some (.int .u8 0), 1, 1) := by kernel_rfl
/-- A fresh slice of bytes is returned. -/
def RetB (l : List UInt8) (w : World) (e : Ending) (w' : World) : Prop := ∃ v, e = .returned v ∧ w'.ownsRow w.heap.size 5 1 v (bi l).length (nums .u8 (bi l)) ∧ Below w.heap.size w w'

set_option maxRecDepth 100000 in
set_option maxHeartbeats 800000 in
theorem int_any (n : Int) (w : World) (h1 : -9223372036854775808 ≤ n) (h2 : n < 9223372036854775808) : Calls Tryd.prog 34 #[.int .i64 n] w (RetB (wInt n) w) := by
  have hm := magN_lt n h1 h2
  obtain ⟨m, hme⟩ : ∃ m, m = magN n := ⟨_, rfl⟩
  obtain ⟨f, hfe⟩ : ∃ f, f = flipN n := ⟨_, rfl⟩
  rw [← hme] at hm
  have HME := Lib.hid hme
  have HFE := Lib.hid hfe
  clear hme hfe
  go_enter Tryd.func34, Tryd.ntmps34
  go_wp2_with fail
  go_step3
  go_upto_if 11 with fail
  go_cut [3, 4] (fun v3 v4 wx => v3 = .int .u64 (m : Int) ∧ v4 = .int .u8 (f.toNat : Int) ∧ w = wx)
  case first =>
    by_cases hn : n < 0
    · have d0 : decide (n < 0) = true := decide_eq_true hn
      have hsg : IntKind.u64.signed = false := rfl
      go_wp2_with fail
      go_meet
      refine ⟨congrArg (Value.int .u64) ?_, ?_, rfl⟩
      · rw [wrap_u64_neg n h1 hn, not64 _ (by omega), HME.out, magN, if_pos hn]; omega
      · rw [HFE.out, flipN, if_pos hn]; rfl
    · have d0 : decide (n < 0) = false := decide_eq_false hn
      go_wp2_with fail
      go_meet
      refine ⟨congrArg (Value.int .u64) ?_, ?_, rfl⟩
      · rw [wrap_u64_pos n (by omega) h2, HME.out, magN, if_neg (by omega)]
      · rw [HFE.out, flipN, if_neg (by omega)]; rfl
  case rest =>
    obtain ⟨rfl, rfl, rfl⟩ := hcut
    go_wp2_with fail
    go_step3
    go_wp2_with fail
    go_loop [5] (fun v5 => ∃ k : Nat, k ≤ 8 ∧ v5 = .int .i64 k ∧ nbF m k = nbF m 8) (fun v5 => (intOf v5).toNat)
    case atStart => exact ⟨8, by omega, rfl, rfl⟩
    case round =>
      obtain ⟨k, hk, rfl, hnb⟩ := hrel
      by_cases hgo : 0 < k ∧ ¬ 0 < m / 256 ^ (k - 1)
      · obtain ⟨k0, hmk⟩ := hgo
        have hpw : (m : Int) / 2 ^ (8 * (k - 1)) = ((m / 256 ^ (k - 1) : Nat) : Int) := pow8 m (k - 1)
        have hnb2 : nbF m (k - 1) = nbF m 8 := by
          rw [← hnb, show k = (k - 1) + 1 by omega, nbF, if_neg hmk]; rfl
        have hmk0 : (m : Int) / 2 ^ (8 * (k - 1)) ≤ 0 := by rw [hpw]; omega
        have HNB := Lib.hid hnb2
        have HPW := Lib.hid hpw
        clear hnb hnb2 hpw
        go_wp2_with fail
        go_round
        case rel => exact ⟨k - 1, by omega, by go_num, HNB.out⟩
        case measure => simp [intOf]; omega
      · have hkk : k = nbF m 8 := by
          rcases Nat.eq_zero_or_pos k with h0 | h0
          · rw [← hnb, h0]; rfl
          · have h1 : 0 < m / 256 ^ (k - 1) := by
              rcases Nat.eq_zero_or_pos (m / 256 ^ (k - 1)) with h | h
              · exact absurd ⟨h0, by omega⟩ hgo
              · exact h
            rw [← hnb, show k = (k - 1) + 1 by omega, nbF, if_pos (by simpa using h1)]
        have hpos : 0 < k → 0 < (m : Int) / 2 ^ (8 * (k - 1)) := by
          intro h0
          have h1 : 0 < m / 256 ^ (k - 1) := by
            rcases Nat.eq_zero_or_pos (m / 256 ^ (k - 1)) with h | h
            · exact absurd ⟨h0, by omega⟩ hgo
            · exact h
          have hpw : (m : Int) / 2 ^ (8 * (k - 1)) = ((m / 256 ^ (k - 1) : Nat) : Int) := pow8 m (k - 1)
          rw [hpw]; omega
        have HKK := Lib.hid hkk
        clear hnb hgo hkk
        have hown := own_lit (base := w.heap.size) w 5 .u8 (bi [UInt8.ofNat (128 + k) ^^^ f]) (Nat.le_refl _) (by simp [bi])
        have hhead : bits BinOp.xor IntKind.u8 (128 + (k : Int)) (f.toNat : Int) = ((UInt8.ofNat (128 + k) ^^^ f).toNat : Int) := xorB (128 + k) _ f (by omega)
        have HO := Lib.hid hown
        have HH := Lib.hid hhead
        clear hown hhead
        by_cases hk0 : 0 < k
        case' pos => replace hpos := hpos hk0
        case' neg => clear hpos
        all_goals
          go_wp2_with fail
          rw [HH.out]
          have hB0 : Below w.heap.size w (w.alloc (Obj.cells #[Value.int IntKind.u8 ((UInt8.ofNat (128 + k) ^^^ f).toNat : Int)] 5)) := (Below.refl _ _).alloc (Nat.le_refl _) _
          go_loopw [6, 7] (fun v6 v7 wr => ∃ t : Nat, t ≤ k ∧ v7 = .int .i64 ((k : Int) - 1 - t) ∧ Below w.heap.size w wr ∧ wr.ownsRow w.heap.size 5 1 v6 (bi ((UInt8.ofNat (128 + k) ^^^ f) :: digs m k f t)).length (nums .u8 (bi ((UInt8.ofNat (128 + k) ^^^ f) :: digs m k f t)))) (fun _ v7 _ => (intOf v7 + 1).toNat)
          case atStart => exact ⟨0, Nat.zero_le _, by go_num, hB0, HO.out⟩
          case round =>
            obtain ⟨t, ht, rfl, hB, hown⟩ := hrel
            have hbl : (bi ((UInt8.ofNat (128 + k) ^^^ f) :: digs m k f t)).length = t + 1 := by simp [bi, digs_length]
            obtain ⟨A, c, rfl⟩ := own_slice hown
            rw [hbl] at hown ⊢
            have hz := hB.size
            have HOW := Lib.hid hown
            have HB := Lib.hid hB
            clear hown hB
            by_cases htk : t < k
            · have d1 : decide ((t : Int) ≤ (k : Int) - 1) = true := decide_eq_true (by omega)
              try (exfalso; omega)
              all_goals
                go_wp2_with (at_builtin; go_must (refine print_append_num (w0 := wr) (w.heap.size) rfl (.tmp 36) (.tmp 44) 56 5 .u8 1 rfl Tryd.underlying56 infoU8 (by decide) (.slice A (t + 1) c) (bi ((UInt8.ofNat (128 + k) ^^^ f) :: digs m k f t)) _ rfl rfl (by rw [hbl]; exact HOW.out) ((Below.refl _ _).mono hz) hz (by rw [hbl]; omega) ?_); intro v1 w1 hown1 hB1 hg1 hat1)
                have hby : bi ((UInt8.ofNat (128 + k) ^^^ f) :: digs m k f t) ++ [bits BinOp.xor IntKind.u8 ((m : Int) / 2 ^ (8 * (k - 1 - t)) % 256) (f.toNat : Int)] = bi ((UInt8.ofNat (128 + k) ^^^ f) :: digs m k f (t + 1)) := by
                  rw [pow8, xorB (m / 256 ^ (k - 1 - t)) _ f rfl, digs_succ, ← List.cons_append, bi_append]; rfl
                rw [hby] at hown1
                have hB2 : Below w.heap.size w w1 := HB.out.trans hB1
                refine ⟨?_, ?_⟩
                · (repeat apply Exists.intro); exact ⟨⟨t + 1, by omega, by go_num, hB2, hown1⟩, rfl⟩
                · simp [intOf]; omega
            · have d1 : decide ((t : Int) ≤ (k : Int) - 1) = false := decide_eq_false (by omega)
              obtain rfl : t = k := by omega
              go_wp2_with fail
              rw [Exit.noGoto_ret]
              go_ret
              refine ⟨_, rfl, ?_, HB.out⟩
              have e : wInt n = (UInt8.ofNat (128 + t) ^^^ f) :: digs m t f t := by rw [wInt, ← HME.out, ← HFE.out, ← HKK.out]
              rw [e, hbl]
              exact HOW.out
end Go.Proofs.YtbgijijecipjeaaDoor
namespace Go.Proofs.YtbgijijecipjeaaDoor
open Go.RowKit Go.Proofs.YtbgijijecipjeaaDoorW.PrintWords

theorem bytesOf_bi (s : ByteArray) : bytesOf s = bi s.data.toList := rfl

set_option maxRecDepth 100000 in
set_option maxHeartbeats 800000 in
theorem bytes_any (s : ByteArray) (w : World) (hs : s.size ≤ 70368744177664) : Calls Tryd.prog 33 #[.string s] w (RetB (wBytes s.data.toList) w) := by
  go_enter Tryd.func33, Tryd.ntmps33
  go_wp2_with fail
  refine (int_any (s.size : Int) w (by omega) (by omega)).mono ?_
  rintro e w1 ⟨v, rfl, hown, hB⟩
  have hl := wInt_length_le (s.size : Int)
  have hbl := bi_length (wInt (s.size : Int))
  have hz := hB.size
  have HOWN := Lib.hid hown
  have HB := Lib.hid hB
  have HBL := Lib.hid hbl
  clear hown hB hbl
  go_wp2_with (at_builtin; go_must (refine print_append_str (w0 := w) w.heap.size rfl (.tmp 5) (.tmp 6) 56 9 5 rfl Tryd.underlying56 Tryd.underlying9 infoU8 v (bi (wInt (s.size : Int))) s rfl rfl HOWN.out HB.out hz (by rw [HBL.out]; omega) ?_); intro v1 w2 hown1 hB1 hg1)
  go_ret
  refine ⟨v1, rfl, ?_, hB1⟩
  rw [bytesOf_bi, ← bi_append] at hown1
  rw [wBytes, ← Lib.size_eq]
  exact hown1

set_option maxRecDepth 100000 in
set_option maxHeartbeats 800000 in
theorem ints_any (A : Option Addr) (c : Nat) (xs : List Int) (w : World) (hr : ReadsInt w .i64 A xs.length xs) (_hc : xs.length ≤ c) (hn : xs.length ≤ 1099511627776) (hx : ∀ x ∈ xs, -9223372036854775808 ≤ x ∧ x < 9223372036854775808) :
    Calls Tryd.prog 31 #[.slice A xs.length c] w (RetB (wInts xs) w) := by
  have HR := Lib.hid hr
  have HX := Lib.hid hx
  clear hr hx
  go_enter Tryd.func31, Tryd.ntmps31
  go_wp2_with fail
  refine (int_any (xs.length : Int) w (by omega) (by omega)).mono ?_
  rintro e w1 ⟨v, rfl, hown, hB⟩
  have HOWN := Lib.hid hown
  have HB := Lib.hid hB
  clear hown hB
  go_wp2_with fail
  go_loopw [3, 11] (fun v3 v11 wr => ∃ i : Nat, i ≤ xs.length ∧ v11 = .int .i64 i ∧ Below w.heap.size w wr ∧ wr.ownsRow w.heap.size 5 1 v3 (bi (wInt (xs.length : Int) ++ wMany (xs.take i))).length (nums .u8 (bi (wInt (xs.length : Int) ++ wMany (xs.take i))))) (fun _ v11 _ => xs.length - (intOf v11).toNat)
  case atStart => exact ⟨0, by omega, rfl, HB.out, by rw [List.take_zero, show wMany [] = [] from rfl, List.append_nil]; exact HOWN.out⟩
  case round =>
    obtain ⟨i, hi, rfl, hB, hown⟩ := hrel
    have hl := wInt_length_le (xs.length : Int)
    have hl2 := wMany_length_le (xs.take i)
    have hl3 : (xs.take i).length ≤ i := List.length_take_le _ _
    have hz := hB.size
    by_cases hlt : i < xs.length
    · have d1 : decide ((i : Int) < xs.length) = true := decide_eq_true (by omega)
      obtain ⟨ad, rfl, hcell⟩ := HR.out.at_ i (by omega) (by omega)
      have hcell2 := pw_cell_below (hB.mono (Nat.le_refl _)) hcell
      obtain ⟨y, hy⟩ : ∃ y, y = xs.getD i 0 := ⟨_, rfl⟩
      have hyr : rd xs i = y := by simp [rd, hy]
      rw [hyr] at hcell2
      simp only [Int.toNat_natCast] at hcell2
      have hyx : -9223372036854775808 ≤ y ∧ y < 9223372036854775808 := by
        rw [hy, List.getD_eq_getElem?_getD, List.getElem?_eq_getElem hlt]
        exact HX.out _ (List.getElem_mem hlt)
      have HY := Lib.hid hy
      have HOWN := Lib.hid hown
      have HB := Lib.hid hB
      clear hy hyr hown hB hcell
      go_wp2_with fail
      refine (int_any y wr hyx.1 hyx.2).mono ?_
      rintro e w2 ⟨v2, rfl, hown2, hB2⟩
      obtain ⟨A2, c2, rfl, hR2⟩ := own_reads hown2
      have hl4 := wInt_length_le y
      have hz2 := hB2.size
      have HO2 := Lib.hid (pw_own_below HOWN.out hB2)
      have HR2 := Lib.hid hR2
      have HB3 := Lib.hid (HB.out.trans (hB2.mono hz))
      have hbl : (bi (wInt (xs.length : Int) ++ wMany (xs.take i))).length ≤ 9 + 9 * i := by rw [bi_length, List.length_append]; omega
      have hbl2 : (bi (wInt y)).length ≤ 9 := by rw [bi_length]; omega
      clear hown2 hB2 hR2 HB
      go_wp2_with (at_builtin; go_must (refine print_append_row (w0 := w) w.heap.size rfl (.tmp 15) (.tmp 17) 56 5 .u8 1 rfl Tryd.underlying56 infoU8 (by decide) _ (bi (wInt (xs.length : Int) ++ wMany (xs.take i))) (bi (wInt y)) A2 _ c2 rfl rfl HO2.out HR2.out HB3.out (by omega) (by omega) ?_); intro v3 w3 hown3 hB4 hg3 hat3)
      go_roundw
      case rel => exact ⟨i + 1, by omega, by go_num, hB4, by
        rw [← bi_append, List.append_assoc, HY.out, List.getD_eq_getElem?_getD, List.getElem?_eq_getElem hlt, Option.getD_some, ← wMany_snoc, ← List.take_succ_eq_append_getElem hlt] at hown3
        exact hown3⟩
      case measure => simp [intOf]; omega
    · have d1 : decide ((i : Int) < xs.length) = false := decide_eq_false (by omega)
      obtain rfl : i = xs.length := by omega
      go_wp2_with fail
      go_ret
      refine ⟨_, rfl, ?_, hB⟩
      rw [List.take_length] at hown
      exact hown
end Go.Proofs.YtbgijijecipjeaaDoor
