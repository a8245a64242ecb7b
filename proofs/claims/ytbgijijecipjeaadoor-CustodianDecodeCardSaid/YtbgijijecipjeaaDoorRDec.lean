/- Contracts of custodyref01.Same and custodyref01.GetInt. Contracts of custodyref01.count, GetBytes, GetInts. Contract of custodyref30.Decode. Plain words: custodians are decoded from their encoding, and what is decoded is the encoding of what comes out. -/
import Derived.Test.YtbgijijecipjeaaDoorRefA
import Derived.Test.YtbgijijecipjeaaDoorGetA
import Derived.Test.YtbgijijecipjeaaDoorEnc
import Derived.Test.YtbgijijecipjeaaDoorRCus
import Derived.BigQuiet
import Derived.Test.YtbgijijecipjeaaDoorGet3
import Derived.Test.YtbgijijecipjeaaDoorDec4
import Derived.Test.YtbgijijecipjeaaDoorGet4
import Derived.Test.YtbgijijecipjeaaDoorDecP
namespace Go.Proofs.YtbgijijecipjeaaDoor
open Go.RowKit Go.IntWalk Go.Proofs.YtbgijijecipjeaaDoorW.PrintWords

theorem digs_pred (m k : Nat) (f : UInt8) (t : Nat) (ht : t ≤ k) : digs m (k + 1) f t = digs (m / 256) k f t := by
  induction t with
  | zero => rfl
  | succ t ih =>
    rw [digs_succ, digs_succ, ih (by omega), show k + 1 - 1 - t = (k - 1 - t) + 1 by omega, Nat.pow_succ', Nat.div_div_eq_div_mul]
theorem digs_bnum (f : UInt8) (l : List UInt8) : digs (bnum f l) l.length f l.length = l := by
  rw [← List.reverse_reverse l]
  generalize l.reverse = r
  induction r with
  | nil => rfl
  | cons c r ih =>
    have hc := (c ^^^ f).toNat_lt
    rw [List.reverse_cons, bnum_snoc, List.length_append, List.length_singleton, digs_succ, digs_pred _ _ _ _ (Nat.le_refl _), show (bnum f r.reverse * 256 + (c ^^^ f).toNat) / 256 = bnum f r.reverse by omega, ih]
    congr 1
    rw [show r.reverse.length + 1 - 1 - r.reverse.length = 0 by omega, Nat.pow_zero, Nat.div_one, show UInt8.ofNat (bnum f r.reverse * 256 + (c ^^^ f).toNat) = c ^^^ f by
      apply UInt8.toNat_inj.1
      simp, xor_cancel]
theorem lenB_cases (x : UInt8) : (x.toNat < 128 → flipB x = 255 ∧ (8 < lenB x ↔ x.toNat < 119) ∧ lenB x + x.toNat = 127) ∧ (128 ≤ x.toNat → flipB x = 0 ∧ (8 < lenB x ↔ 136 < x.toNat) ∧ lenB x + 128 = x.toNat) := by
  have h : ∀ n : Fin 256, (n.val < 128 → flipB (UInt8.ofNat n.val) = 255 ∧ (8 < lenB (UInt8.ofNat n.val) ↔ n.val < 119) ∧ lenB (UInt8.ofNat n.val) + n.val = 127) ∧ (128 ≤ n.val → flipB (UInt8.ofNat n.val) = 0 ∧ (8 < lenB (UInt8.ofNat n.val) ↔ 136 < n.val) ∧ lenB (UInt8.ofNat n.val) + 128 = n.val) := by decide +kernel
  have := h ⟨x.toNat, x.toNat_lt⟩
  simpa using this
/-- The number that an encoding says. -/
def numB (x : UInt8) (r : List UInt8) : Int := if flipB x = 0 then (bnum (flipB x) (r.take (lenB x)) : Int) else -1 - (bnum (flipB x) (r.take (lenB x)) : Int)
set_option maxRecDepth 100000 in
theorem rgInt_same (x : UInt8) (r : List UInt8) (hk : lenB x ≤ 8) (hl : lenB x ≤ r.length) (hb : bnum (flipB x) (r.take (lenB x)) < 9223372036854775808) :
    wInt (numB x r) = x :: r.take (lenB x) ↔ ¬ (0 < lenB x ∧ (r.headD 0 ^^^ flipB x) = 0) := by
  have hn1 : -9223372036854775808 ≤ numB x r ∧ numB x r < 9223372036854775808 := by unfold numB; split <;> omega
  constructor
  · intro h hz
    have e := gInt_wInt (numB x r) hn1.1 hn1.2 (r.drop (lenB x))
    rw [h, List.cons_append, List.take_append_drop, gInt_cons, if_neg (by omega), if_neg (by omega), if_pos hz] at e
    simp at e
  · intro hz
    obtain ⟨f, hf⟩ : ∃ f, f = flipB x := ⟨_, rfl⟩
    obtain ⟨l, hle⟩ : ∃ l, l = r.take (lenB x) := ⟨_, rfl⟩
    have hll : l.length = lenB x := by rw [hle, List.length_take]; omega
    obtain ⟨m, hm⟩ : ∃ m, m = bnum f l := ⟨_, rfl⟩
    have hd := digs_bnum f l
    have hlt := bnum_lt f l
    rw [← hm, hll] at hd hlt
    have hfl : flipN (numB x r) = f ∧ magN (numB x r) = m := by
      unfold numB
      rw [← hf, ← hle, ← hm]
      rw [← hf, ← hle, ← hm] at hb
      by_cases h0 : f = 0
      · rw [if_pos h0, flipN, magN, if_neg (by omega), if_neg (by omega)]; exact ⟨h0.symm, by omega⟩
      · rw [if_neg h0, flipN, magN, if_pos (by omega), if_pos (by omega)]
        refine ⟨?_, by omega⟩
        rw [hf] at h0 ⊢
        unfold flipB at h0 ⊢
        split <;> simp_all
    have hnb : nbF m 8 = lenB x := by
      refine nbF_eq m (lenB x) (Nat.div_eq_of_lt hlt) ?_ 8 hk
      rcases Nat.eq_zero_or_pos (lenB x) with h0 | h0
      · exact .inl h0
      · right
        rcases Nat.eq_zero_or_pos (m / 256 ^ (lenB x - 1)) with h1 | h1
        · exfalso
          refine hz ⟨h0, ?_⟩
          have e : r.headD 0 = l.headD 0 := by
            rw [hle]
            cases r with
            | nil => simp at hl; omega
            | cons y r => obtain ⟨k, hk⟩ : ∃ k, lenB x = k + 1 := ⟨lenB x - 1, by omega⟩; rw [hk]; rfl
          rw [e, ← hd, ← hf]
          obtain ⟨k, hk⟩ : ∃ k, lenB x = k + 1 := ⟨lenB x - 1, by omega⟩
          rw [hk] at h1 ⊢
          rw [digs, List.range_succ_eq_map, List.map_cons]
          show (UInt8.ofNat (m / 256 ^ (k + 1 - 1 - 0)) ^^^ f) ^^^ f = 0
          rw [Nat.sub_zero, h1, xor_cancel]; rfl
        · exact h1
    rw [wInt, hfl.1, hfl.2, hnb, hd, ← hle]
    have e := lenB_eq x
    rw [← hf] at e
    have e2 : UInt8.ofNat (128 + lenB x) = x ^^^ f := by
      apply UInt8.toNat_inj.1
      rw [e]; simp; omega
    rw [e2, xor_cancel]
theorem bnum_take_succ (f : UInt8) (r : List UInt8) (j : Nat) (hj : j < r.length) : bnum f (r.take (j + 1)) = bnum f (r.take j) * 256 + (r.getD j 0 ^^^ f).toNat := by
  rw [List.take_succ_eq_append_getElem hj, bnum_snoc]
  simp [List.getD_eq_getElem?_getD, List.getElem?_eq_getElem hj]
theorem bnum_grow (f : UInt8) (r : List UInt8) (j d : Nat) (h : j + d ≤ r.length) : bnum f (r.take j) * 256 ^ d ≤ bnum f (r.take (j + d)) := by
  induction d with
  | zero => simp
  | succ d ih =>
    rw [← Nat.add_assoc, bnum_take_succ f r (j + d) (by omega), Nat.pow_succ, ← Nat.mul_assoc]
    exact Nat.le_trans (Nat.mul_le_mul_right 256 (ih (by omega))) (Nat.le_add_right _ _)

set_option maxRecDepth 100000 in
set_option maxHeartbeats 4000000 in
theorem rsame_any (A B : Option Addr) (c d : Nat) (xs ys : List Int) (w : World) (hx : ReadsInt w .u8 A xs.length xs) (hy : ReadsInt w .u8 B ys.length ys) (hn : xs.length ≤ 1099511627776) (_hm : ys.length ≤ 1099511627776) :
    Calls Tryd.prog 72 #[.slice A xs.length c, .slice B ys.length d] w fun e w' => e = .returned (.bool (decide (xs = ys))) ∧ Below w.heap.size w w' := by
  have HX := Lib.hid hx
  have HY := Lib.hid hy
  clear hx hy
  go_enter Tryd.func72, Tryd.ntmps72
  by_cases hl : xs.length = ys.length
  · have hl1 : ((xs.length : Int) != ys.length) = false := by simp; omega
    go_wp2_with fail
    go_loopw [5] (fun v5 wr => ∃ i : Nat, i ≤ xs.length ∧ v5 = .int .i64 i ∧ xs.take i = ys.take i ∧ Below w.heap.size w wr) (fun v5 _ => xs.length - (RowKit.intOf v5).toNat)
    case atStart => exact ⟨0, by omega, rfl, by simp, Below.refl _ _⟩
    case round =>
      obtain ⟨i, hi, rfl, htk, hB⟩ := hrel
      have HTK := Lib.hid htk
      clear htk
      by_cases hlt : i < xs.length
      · have d1 : decide ((i : Int) < ys.length) = true := decide_eq_true (by omega)
        obtain ⟨ad, rfl, hc1⟩ := (HX.out.below hB).at_ i (by omega) (by omega)
        obtain ⟨bd, rfl, hc2⟩ := (HY.out.below hB).at_ i (by omega) (by omega)
        simp only [Int.toNat_natCast] at hc1 hc2
        obtain ⟨x, hx⟩ : ∃ x, x = rd xs i := ⟨_, rfl⟩
        obtain ⟨y, hy⟩ : ∃ y, y = rd ys i := ⟨_, rfl⟩
        rw [← hx] at hc1
        rw [← hy] at hc2
        have hxs : xs.take (i + 1) = xs.take i ++ [x] := by
          rw [List.take_add_one, List.getElem?_eq_getElem hlt, hx, rd, List.getD_eq_getElem?_getD, Int.toNat_natCast, List.getElem?_eq_getElem hlt]; rfl
        have hys : ys.take (i + 1) = ys.take i ++ [y] := by
          rw [List.take_add_one, List.getElem?_eq_getElem (by omega), hy, rd, List.getD_eq_getElem?_getD, Int.toNat_natCast, List.getElem?_eq_getElem (by omega)]; rfl
        have HXS := Lib.hid hxs
        have HYS := Lib.hid hys
        clear hx hy hxs hys
        have i0 : (0 : Int) ≤ (i : Int) := by omega
        have i1 : (i : Int) < (ys.length : Int) := by omega
        have i2 : (i : Int) < (xs.length : Int) := by omega
        by_cases hxy : x = y
        · have e1 : (x != y) = false := by simp [hxy]
          go_upto_region 6 with fail
          go_quiet (fail)
          go_wp2_with fail
          go_roundw
          case rel => exact ⟨i + 1, by omega, by go_num, by rw [HXS.out, HYS.out, HTK.out, hxy], by (repeat (first | (with_reducible assumption) | (with_reducible exact Below.refl _ _) | (with_reducible refine bl_alloc ?_ _) | (with_reducible refine bl_drew ?_) | (with_reducible refine bl_drewN ?_ _) | (with_reducible refine bl_then (by assumption) ?_)))⟩
          case measure => simp [RowKit.intOf]; omega
        · have e1 : (x != y) = true := by simp [hxy]
          have hne : xs ≠ ys := fun e => by
            have h1 := HXS.out
            rw [e, HYS.out, ← HTK.out] at h1
            exact hxy (by have := List.append_cancel_left h1; simpa using this.symm)
          go_upto_region 6 with fail
          go_quiet (fail)
          go_wp2_with fail
          go_ret
          exact ⟨by rw [decide_eq_false hne]; rfl, by (repeat (first | (with_reducible assumption) | (with_reducible exact Below.refl _ _) | (with_reducible refine bl_alloc ?_ _) | (with_reducible refine bl_drew ?_) | (with_reducible refine bl_drewN ?_ _) | (with_reducible refine bl_then (by assumption) ?_)))⟩
      · have d1 : decide ((i : Int) < ys.length) = false := decide_eq_false (by omega)
        obtain rfl : i = xs.length := by omega
        have heq : xs = ys := by
          have := HTK.out
          rw [List.take_length, hl, List.take_length] at this
          exact this
        go_wp2_with fail
        go_ret
        exact ⟨by rw [decide_eq_true heq]; rfl, hB⟩
  · have hl1 : ((xs.length : Int) != ys.length) = true := by simp; omega
    have hne : xs ≠ ys := fun e => hl (by rw [e])
    go_wp2_with fail
    go_ret
    exact ⟨by rw [decide_eq_false hne]; rfl, Below.refl _ _⟩

theorem add_lit' (a : Addr) (k : Nat) (h : k ≠ 0) : a.add k = ⟨a.block, a.off + k, none⟩ := by unfold Addr.add; rw [if_neg h]
theorem gInt_over (x : UInt8) (r : List UInt8) (j : Nat) (h8 : lenB x ≤ 8) (hl : lenB x ≤ r.length) (hj : j < lenB x) (h : 36028797018963967 < bnum (flipB x) (r.take j)) : gInt (x :: r) = (0, 0, 6) := by
  have h1 := bnum_grow (flipB x) r j (lenB x - j) (by omega)
  rw [show j + (lenB x - j) = lenB x by omega] at h1
  have h2 : 256 ^ 1 ≤ 256 ^ (lenB x - j) := Nat.pow_le_pow_right (by decide) (by omega)
  have h3 : 36028797018963968 * 256 ^ 1 ≤ bnum (flipB x) (r.take j) * 256 ^ (lenB x - j) := Nat.mul_le_mul (by omega) h2
  rw [gInt_cons, if_neg (by omega), if_neg (by omega)]
  split
  · rfl
  · rw [if_pos (by omega)]

set_option maxRecDepth 100000 in
set_option maxHeartbeats 4000000 in
theorem rgetInt_any (A : Option Addr) (c : Nat) (b : List UInt8) (w : World) (hr : ReadsInt w .u8 A b.length (bi b)) (hc : b.length ≤ c) (hl : b.length ≤ 1099511627776) :
    Calls Tryd.prog 50 #[.slice A b.length c] w fun e w' => e = .returned (.tuple #[.int .i64 (gInt b).1, .int .i64 ((gInt b).2.1 : Int), .int .i64 (gInt b).2.2]) ∧ Below w.heap.size w w' := by
  rcases b with _ | ⟨x, r⟩
  · go_enter Tryd.func50, Tryd.ntmps50
    go_wp2_with fail
    go_ret3
    exact ⟨rfl, Below.refl _ _⟩
  · have HR := Lib.hid hr
    obtain ⟨hb1, hb2⟩ := lenB_cases x
    obtain ⟨n, hn⟩ : ∃ n, n = (x :: r).length := ⟨_, rfl⟩
    have hnr : r.length + 1 = n := by rw [hn]; rfl
    rw [← hn] at HR hc hl ⊢
    have e0 : ((n : Int) == 0) = false := by simp; omega
    obtain ⟨ad, rfl, hc0⟩ := HR.out.at_ 0 (by omega) (by omega)
    have hcell : ∀ j, j < r.length → w.cell? ⟨ad.block, ad.off + (j + 1), none⟩ = some (.int .u8 ((r.getD j 0).toNat : Int)) := fun j hj => by
      obtain ⟨ad', e, h⟩ := HR.out.at_ (j + 1 : Nat) (by omega) (by omega)
      injection e with e; subst e
      rw [Int.toNat_natCast, add_lit' _ _ (by omega)] at h
      rw [h]
      simp [rd, bi, List.getD_eq_getElem?_getD, List.getElem?_eq_getElem hj]
    have hx0 : w.cell? ad = some (.int .u8 (x.toNat : Int)) := hc0
    obtain ⟨X, hX⟩ : ∃ X, X = x.toNat := ⟨_, rfl⟩
    have hX2 := x.toNat_lt
    rw [← hX] at hb1 hb2 hx0 hX2
    obtain ⟨k, hk⟩ : ∃ k, k = lenB x := ⟨_, rfl⟩
    rw [← hk] at hb1 hb2
    obtain ⟨f, hf⟩ : ∃ f, f = flipB x := ⟨_, rfl⟩
    rw [← hf] at hb1 hb2
    have HK := Lib.hid hk
    have HF := Lib.hid hf
    have HC := Lib.hid hcell
    obtain ⟨G, hG⟩ : ∃ G, G = gInt (x :: r) := ⟨_, rfl⟩
    rw [← hG]
    have HG := Lib.hid hG
    clear hk hf hcell hc0 hX hn hG
    by_cases h8 : 8 < k
    · have hGe : G = (0, 0, 6) := by rw [HG.out, gInt_cons, if_pos (by rw [← HK.out]; exact h8)]
      have h0 : (X : Int) < 119 ∨ (¬ (X : Int) < 119 ∧ (136 : Int) < X) := by
        rcases Nat.lt_or_ge X 128 with h | h
        · left; have := (hb1 h).2.1.1 h8; omega
        · right; have := (hb2 h).2.1.1 h8; omega
      rw [hGe]
      clear hb1 hb2 hGe
      rcases h0 with h0 | ⟨h0, h1⟩
      · go_enter Tryd.func50, Tryd.ntmps50
        go_wp2_with fail
        go_ret3
        exact ⟨rfl, Below.refl _ _⟩
      · go_enter Tryd.func50, Tryd.ntmps50
        go_wp2_with fail
        go_ret3
        exact ⟨rfl, Below.refl _ _⟩
    · have h0 : ¬ (X : Int) < 119 ∧ ¬ (136 : Int) < X := by
        rcases Nat.lt_or_ge X 128 with h | h
        · have := fun h' => h8 ((hb1 h).2.1.2 h'); omega
        · have := fun h' => h8 ((hb2 h).2.1.2 h'); omega
      obtain ⟨h0, h1⟩ := h0
      have hk8 : k ≤ 8 := by omega
      have hcase : (X < 128 ∧ f = 255 ∧ k + X = 127) ∨ (128 ≤ X ∧ f = 0 ∧ k + 128 = X) := by
        rcases Nat.lt_or_ge X 128 with h | h
        · exact .inl ⟨h, (hb1 h).1, (hb1 h).2.2⟩
        · exact .inr ⟨h, (hb2 h).1, (hb2 h).2.2⟩
      have HCA := Lib.hid hcase
      clear hb1 hb2 hcase
      go_enter Tryd.func50, Tryd.ntmps50
      go_upto_if 27 with fail
      go_cut [6] (fun v6 wx => v6 = .int .i64 (k : Int) ∧ w = wx)
      case first =>
        rcases HCA.out with ⟨h, -, e⟩ | ⟨h, -, e⟩
        · have d0 : decide ((X : Int) < 128) = true := decide_eq_true (by omega)
          go_wp2_with fail
          go_meet
          exact ⟨congrArg (Value.int .i64) (by omega), rfl⟩
        · have d0 : decide ((X : Int) < 128) = false := decide_eq_false (by omega)
          go_wp2_with fail
          go_meet
          exact ⟨congrArg (Value.int .i64) (by omega), rfl⟩
      case rest =>
        obtain ⟨rfl, rfl⟩ := hcut
        by_cases hnk : n < k + 1
        · have hnk2 : (n : Int) < (k : Int) + 1 := by omega
          have hGe : G = (0, 0, 5) := by rw [HG.out, gInt_cons, if_neg (by rw [← HK.out]; omega), if_pos (by rw [← HK.out]; omega)]
          have HGE := Lib.hid hGe
          clear hGe
          go_wp2_with fail
          go_ret3
          exact ⟨by rw [HGE.out]; rfl, Below.refl _ _⟩
        · have hnk2 : ¬ (n : Int) < (k : Int) + 1 := by omega
          have hlr : k ≤ r.length := by omega
          have HOV : Hid (∀ j, j < k → 36028797018963967 < bnum f (r.take j) → G = (0, 0, 6)) := Lib.hid (fun j hj h => by
            rw [HG.out]
            exact gInt_over x r j (by rw [← HK.out]; exact hk8) (by rw [← HK.out]; exact hlr) (by rw [← HK.out]; exact hj) (by rw [← HF.out]; exact h))
          go_wp2_with fail
          go_loopw [7, 8, 9] (fun v7 v8 _ wr => ∃ j : Nat, j ≤ k ∧ v8 = .int .i64 ((j : Int) + 1) ∧ v7 = .int .i64 (bnum f (r.take j) : Int) ∧ bnum f (r.take j) < 9223372036854775808 ∧ w = wr) (fun _ v8 _ _ => k + 1 - (RowKit.intOf v8).toNat)
          case atStart => exact ⟨0, by omega, rfl, rfl, by simp [bnum], rfl⟩
          case round =>
            obtain ⟨j, hj, rfl, rfl, hm, rfl⟩ := hrel
            by_cases hjk : j < k
            · have d1 : decide ((j : Int) + 1 ≤ (k : Int)) = true := decide_eq_true (by omega)
              have hst := bnum_take_succ f r j (by omega)
              have hcj := HC.out j (by omega)
              obtain ⟨y, hy⟩ : ∃ y, y = r.getD j 0 := ⟨_, rfl⟩
              rw [← hy] at hst hcj
              obtain ⟨m, hme⟩ : ∃ m, m = bnum f (r.take j) := ⟨_, rfl⟩
              have hov := HOV.out j hjk
              rw [← hme] at hst hm hov ⊢
              obtain ⟨z, hz⟩ : ∃ z, z = (y ^^^ f).toNat := ⟨_, rfl⟩
              have hz8 : z < 256 := by rw [hz]; exact (y ^^^ f).toNat_lt
              rw [← hz] at hst
              have hy8 := y.toNat_lt
              have hyz : (X < 128 → (255 : Int) - (y.toNat : Int) = (z : Int)) ∧ (128 ≤ X → (y.toNat : Int) = (z : Int)) := by
                rcases HCA.out with ⟨h, e, -⟩ | ⟨h, e, -⟩
                · refine ⟨fun _ => ?_, fun h' => by omega⟩
                  rw [hz, e]
                  have := xor255 y.toNat hy8
                  rw [UInt8.ofNat_toNat] at this; omega
                · refine ⟨fun h' => by omega, fun _ => ?_⟩
                  rw [hz, e, UInt8.xor_zero]
              obtain ⟨Y, hY⟩ : ∃ Y, Y = y.toNat := ⟨_, rfl⟩
              rw [← hY] at hcj hy8 hyz
              have HST := Lib.hid hst
              have HOV2 := Lib.hid hov
              have i0 : (0 : Int) ≤ (j : Int) + 1 := by omega
              have i1 : (j : Int) + 1 < (n : Int) := by omega
              clear hst hy hme hz hY hov
              by_cases hbig : 36028797018963967 < m
              · have hbig2 : (36028797018963967 : Int) < (m : Int) := by omega
                have hGe := HOV2.out hbig
                have HGE := Lib.hid hGe
                clear hGe
                rcases HCA.out with ⟨h, -, -⟩ | ⟨h, -, -⟩
                all_goals
                  first
                    | (have d2 : decide ((X : Int) < 128) = true := decide_eq_true (by omega))
                    | (have d2 : decide ((X : Int) < 128) = false := decide_eq_false (by omega))
                  go_wp2_with fail
                  go_ret3
                  exact ⟨by rw [HGE.out]; rfl, Below.refl _ _⟩
              · have hbig2 : ¬ (36028797018963967 : Int) < (m : Int) := by omega
                have hw1 : IntKind.i64.wrap (256 * (m : Int)) = 256 * (m : Int) := by rw [IntKind.wrap_i64]; omega
                have hw2 : IntKind.i64.wrap (256 * (m : Int) + (z : Int)) = 256 * (m : Int) + (z : Int) := by rw [IntKind.wrap_i64]; omega
                rcases HCA.out with ⟨h, -, -⟩ | ⟨h, -, -⟩
                · have d2 : decide ((X : Int) < 128) = true := decide_eq_true (by omega)
                  have e2 := hyz.1 h
                  go_wp2_with fail
                  go_roundw
                  case rel => exact ⟨j + 1, by omega, by go_num, congrArg (Value.int .i64) (by rw [HST.out]; omega), by rw [HST.out]; omega, trivial⟩
                  case measure => simp [RowKit.intOf]; omega
                · have d2 : decide ((X : Int) < 128) = false := decide_eq_false (by omega)
                  have e2 := hyz.2 h
                  rw [e2] at hcj
                  have hz9 : z < 256 := hz8
                  clear e2 hyz
                  go_wp2_with fail
                  go_roundw
                  case rel => exact ⟨j + 1, by omega, by go_num, congrArg (Value.int .i64) (by rw [HST.out]; omega), by rw [HST.out]; omega, trivial⟩
                  case measure => simp [RowKit.intOf]; omega
            · have d1 : decide ((j : Int) + 1 ≤ (k : Int)) = false := decide_eq_false (by omega)
              obtain rfl : j = k := by omega
              have hsame := rgInt_same x r (by rw [← HK.out]; exact hk8) (by rw [← HK.out]; exact hlr) (by rw [← HK.out, ← HF.out]; exact hm)
              have hnum : numB x r = if f = 0 then (bnum f (r.take j) : Int) else -1 - (bnum f (r.take j) : Int) := by rw [numB, ← HF.out, ← HK.out]
              obtain ⟨m, hme⟩ : ∃ m, m = bnum f (r.take j) := ⟨_, rfl⟩
              rw [← hme] at hnum hm ⊢
              obtain ⟨N, hN⟩ : ∃ N, N = numB x r := ⟨_, rfl⟩
              rw [← hN] at hsame hnum
              have HME := Lib.hid hme
              have HNN := Lib.hid hN
              have HSA := Lib.hid hsame
              have hNr : -9223372036854775808 ≤ N ∧ N < 9223372036854775808 := by rw [hnum]; split <;> omega
              have HNUM := Lib.hid hnum
              clear hme hN hsame hnum HOV
              go_upto_if 57 with fail
              go_cut [10] (fun v10 wx => v10 = .int .i64 N ∧ w = wx)
              case first =>
                rcases HCA.out with ⟨h, e, -⟩ | ⟨h, e, -⟩
                · have d0 : decide ((X : Int) < 128) = true := decide_eq_true (by omega)
                  have hw1 : IntKind.i64.wrap (-1 - (m : Int)) = -1 - (m : Int) := by rw [IntKind.wrap_i64]; omega
                  go_wp2_with fail
                  go_meet
                  refine ⟨congrArg (Value.int .i64) ?_, rfl⟩
                  rw [HNUM.out, if_neg (by rw [e]; decide)]
                · have d0 : decide ((X : Int) < 128) = false := decide_eq_false (by omega)
                  go_wp2_with fail
                  go_meet
                  refine ⟨congrArg (Value.int .i64) ?_, rfl⟩
                  rw [HNUM.out, if_pos e]
              case rest =>
                obtain ⟨rfl, rfl⟩ := hcut
                obtain ⟨ii, hii, hsz⟩ : ∃ ii, Tryd.prog.info? 5 = some ii ∧ ii.size = 1 := by
                  obtain ⟨ii, hii, hz⟩ := Option.map_eq_some_iff.1 infoU8
                  exact ⟨ii, hii, by simp only [Prod.mk.injEq] at hz; exact hz.2.1⟩
                have hsl := fun W => cut_h 56 5 .i64 Tryd.underlying56 hii hsz (some ad) n c (j + 1) (by omega) hc W
                replace hsl : ∀ W, (Instr.slice 56 (.slice (some ad) n c) none (some (.int .i64 ((j : Int) + 1))) none).run Tryd.prog W = .ok (.slice (some ad) (j + 1) c) W := hsl
                have hrd2 : ReadsInt w .u8 (some ad) (j + 1) (bi (x :: r.take j)) := by
                  have h := HR.out.take_ (j + 1) (by omega)
                  have e : (bi (x :: r)).take (j + 1) = bi (x :: r.take j) := by simp [bi, List.map_take]
                  rwa [e] at h
                have hlw := wInt_length_le N
                have hwj : IntKind.i64.wrap ((j : Int) + 1) = (j : Int) + 1 := by rw [IntKind.wrap_i64]; omega
                have HRD2 := Lib.hid hrd2
                clear hii hsz hrd2
                go_upto_region 24 with fail
                refine wp_region_held_drew (S := fun w' => Below w.heap.size w w') (by kernel_rfl) ((Below.refl _ _).drew) (fun hHeld => ?_)
                refine wpAnyH_takeL (i := 0) (v := ?vT387_0) rfl (by kernel_rfl) (by kernel_rfl) (by kernel_rfl) (fun _ _ _ h => h) rfl hHeld ?hyT387_0 ?restT387_0
                case hyT387_0 => (intro wz hz; (try dsimp only at hz); go_simp; (first | done | (with_reducible rfl)))
                (try simp only [Act.put, List.setIfInBounds_toArray, List.set_cons_zero, List.set_cons_succ])
                refine wpAnyH_takeL (i := 2) (v := ?vT387_2) rfl (by kernel_rfl) (by kernel_rfl) (by kernel_rfl) (fun _ _ _ h => h) rfl hHeld ?hyT387_2 ?restT387_2
                case hyT387_2 => (intro wz hz; (try dsimp only at hz); go_simp; (first | done | (with_reducible rfl)))
                (try simp only [Act.put, List.setIfInBounds_toArray, List.set_cons_zero, List.set_cons_succ])
                refine wpAnyH_takeL (i := 3) (v := ?vT387_3) rfl (by kernel_rfl) (by kernel_rfl) (by kernel_rfl) (fun _ _ _ h => h) rfl hHeld ?hyT387_3 ?restT387_3
                case hyT387_3 => (intro wz hz; (try dsimp only at hz); go_simp; (first | done | (with_reducible rfl)))
                (try simp only [Act.put, List.setIfInBounds_toArray, List.set_cons_zero, List.set_cons_succ])
                refine wpAnyH_takeL (i := 4) (v := ?vT387_4) rfl (by kernel_rfl) (by kernel_rfl) (by kernel_rfl) (fun _ _ _ h => h) rfl hHeld ?hyT387_4 ?restT387_4
                case hyT387_4 => (intro wz hz; (try dsimp only at hz); go_simp; (first | done | (with_reducible rfl)))
                (try simp only [Act.put, List.setIfInBounds_toArray, List.set_cons_zero, List.set_cons_succ])
                refine wpAnyH_takeL (i := 5) (v := ?vT387_5) rfl (by kernel_rfl) (by kernel_rfl) (by kernel_rfl) (fun _ _ _ h => h) rfl hHeld ?hyT387_5 ?restT387_5
                case hyT387_5 => (intro wz hz; (try dsimp only at hz); go_simp; (first | done | (with_reducible rfl)))
                (try simp only [Act.put, List.setIfInBounds_toArray, List.set_cons_zero, List.set_cons_succ])
                refine wpAnyH_only (i := 1) rfl (by kernel_rfl) (fun K hK => ?_)
                go_simp
                refine (rint_any N w.drew hNr.1 hNr.2).mono ?_
                rintro e w1 ⟨v1, rfl, hown1, hB1⟩
                obtain ⟨A1, c1, rfl, hr1⟩ := own_reads hown1
                clear hown1
                go_wp2_with fail
                refine hK.out _ _ (hHeld.trans (hB1.mono hHeld.size)) (fun hHeld => ?_)
                clear hK K
                (try simp only [Act.put, List.setIfInBounds_toArray, List.set_cons_zero, List.set_cons_succ])
                refine wpAnyH_only (i := 6) rfl (by kernel_rfl) (fun K hK => ?_)
                go_simp
                have hbl1 : (bi (wInt N)).length = (wInt N).length := bi_length _
                have hbl2 : (bi (x :: r.take j)).length = j + 1 := by rw [bi_length, List.length_cons, List.length_take]; omega
                have hsm := rsame_any A1 (some ad) c1 c (bi (wInt N)) (bi (x :: r.take j)) w1 hr1 (by rw [hbl2]; exact HRD2.out.below hHeld) (by omega) (by omega)
                rw [hbl2] at hsm
                refine hsm.mono ?_
                rintro e w2 ⟨rfl, hB2⟩
                go_wp2_with fail
                refine hK.out _ _ (hHeld.trans (hB2.mono hHeld.size)) (fun hHeld => ?_)
                clear hK K
                (try simp only [Act.put, List.setIfInBounds_toArray, List.set_cons_zero, List.set_cons_succ])
                have hdec : decide (bi (wInt N) = bi (x :: r.take j)) = decide (¬ (0 < j ∧ (r.headD 0 ^^^ f) = 0)) := by
                  have h2 : bi (wInt N) = bi (x :: r.take j) ↔ wInt N = x :: r.take j := ⟨fun h => by
                    have := congrArg (List.map (fun z : Int => UInt8.ofNat z.toNat)) h
                    simp only [bi, List.map_map] at this
                    have hid : ((fun z : Int => UInt8.ofNat z.toNat) ∘ fun (b : UInt8) => (b.toNat : Int)) = id := by funext b; simp
                    rw [hid, List.map_id, List.map_id] at this
                    exact this, fun h => by rw [h]⟩
                  rw [decide_eq_decide, h2, HK.out, HF.out]
                  exact HSA.out
                rw [hdec]
                clear hdec
                by_cases hz : 0 < j ∧ (r.headD 0 ^^^ f) = 0
                · rw [decide_eq_false (by simpa using hz)]
                  have hGe : G = (0, 0, 6) := by
                    rw [HG.out, gInt_cons, if_neg (by rw [← HK.out]; omega), if_neg (by rw [← HK.out]; omega), if_pos (by rw [← HK.out, ← HF.out]; exact hz)]
                  have HGE := Lib.hid hGe
                  clear hGe hz
                  refine wpAnyH_takeL (i := 7) (v := ?vT425_7) rfl (by kernel_rfl) (by kernel_rfl) (by kernel_rfl) (fun _ _ _ h => h) rfl hHeld ?hyT425_7 ?restT425_7
                  case hyT425_7 => (intro wz hz; (try dsimp only at hz); go_simp; (first | done | (with_reducible rfl)))
                  (try simp only [Act.put, List.setIfInBounds_toArray, List.set_cons_zero, List.set_cons_succ])
                  refine wpAnyH_done (by kernel_rfl) ?_ _
                  have HH := Lib.hid hHeld
                  clear hHeld
                  go_wp2_with fail
                  go_ret3
                  exact ⟨by rw [HGE.out]; rfl, HH.out⟩
                · rw [decide_eq_true hz]
                  have hGe : G = (N, j + 1, 0) := by
                    rw [HG.out, gInt_cons, if_neg (by rw [← HK.out]; omega), if_neg (by rw [← HK.out]; omega), if_neg (by rw [← HK.out, ← HF.out]; exact hz), ← HK.out, ← HF.out, ← HME.out, if_neg (by omega), ← HNUM.out]
                  have HGE := Lib.hid hGe
                  clear hGe hz
                  refine wpAnyH_takeL (i := 7) (v := ?vT437_7) rfl (by kernel_rfl) (by kernel_rfl) (by kernel_rfl) (fun _ _ _ h => h) rfl hHeld ?hyT437_7 ?restT437_7
                  case hyT437_7 => (intro wz hz; (try dsimp only at hz); go_simp; (first | done | (with_reducible rfl)))
                  (try simp only [Act.put, List.setIfInBounds_toArray, List.set_cons_zero, List.set_cons_succ])
                  refine wpAnyH_done (by kernel_rfl) ?_ _
                  have HH := Lib.hid hHeld
                  clear hHeld
                  go_wp2_with fail
                  go_ret3
                  exact ⟨by rw [HGE.out]; rfl, HH.out⟩
end Go.Proofs.YtbgijijecipjeaaDoor
namespace Go.Proofs.YtbgijijecipjeaaDoor
open Go.RowKit Go.IntWalk Go.Proofs.YtbgijijecipjeaaDoorW.PrintWords

/-- What the specification's count returns. -/
def rCount (b : List UInt8) (sz : Nat) : Int × Nat × Int := if (gCount b sz).2.2 ≠ 0 then (0, 0, (gCount b sz).2.2) else gCount b sz
theorem rCount_ok (b : List UInt8) (sz : Nat) (hs : 0 < sz) (h : (rCount b sz).2.2 = 0) : rCount b sz = gCount b sz ∧ 0 ≤ (rCount b sz).1 ∧ (rCount b sz).2.1 + sz * (rCount b sz).1.toNat ≤ b.length := by
  unfold rCount at h ⊢
  by_cases h1 : (gCount b sz).2.2 ≠ 0
  · rw [if_pos h1] at h; exact absurd h h1
  · rw [if_neg h1]
    have := gCount_ok b sz hs (by simpa using h1)
    exact ⟨rfl, this.2.2.2.1, this.2.2.2.2⟩
theorem rCount_err (b : List UInt8) (sz : Nat) : (rCount b sz).2.2 = (gCount b sz).2.2 := by unfold rCount; split <;> rfl

set_option maxRecDepth 100000 in
set_option maxHeartbeats 4000000 in
theorem rcount_any (A : Option Addr) (c sz : Nat) (b : List UInt8) (w : World) (hr : ReadsInt w .u8 A b.length (bi b)) (hc : b.length ≤ c) (hl : b.length ≤ 1099511627776) (hs : sz = 1 ∨ sz = 16) :
    Calls Tryd.prog 71 #[.slice A b.length c, .int .i64 (sz : Int)] w fun e w' => e = .returned (.tuple #[.int .i64 (rCount b sz).1, .int .i64 ((rCount b sz).2.1 : Int), .int .i64 (rCount b sz).2.2]) ∧ Below w.heap.size w w' := by
  have hgc : rCount b sz = if (gInt b).2.2 ≠ 0 then (0, 0, (gInt b).2.2) else if (gInt b).1 < 0 then (0, 0, 6) else if (((b.length - (gInt b).2.1) / sz : Nat) : Int) < (gInt b).1 then (0, 0, 5) else ((gInt b).1, (gInt b).2.1, 0) := by
    unfold rCount gCount
    by_cases h1 : (gInt b).2.2 ≠ 0
    · simp [h1]
    · by_cases h2 : (gInt b).1 < 0
      · simp [h1, h2]
      · by_cases h3 : (((b.length - (gInt b).2.1) / sz : Nat) : Int) < (gInt b).1
        · simp only [if_neg h1, if_neg h2, if_pos h3]; simp
        · simp only [if_neg h1, if_neg h2, if_neg h3]; simp
  have hle := gInt_le b
  have hrg := gInt_range b
  have hG := rgetInt_any A c b w hr hc hl
  obtain ⟨⟨x, u, er⟩, hg⟩ : ∃ g, g = gInt b := ⟨_, rfl⟩
  rw [← hg] at hgc hle hrg hG
  simp only [] at hgc hle hrg hG
  obtain ⟨n, hn⟩ : ∃ n, n = b.length := ⟨_, rfl⟩
  obtain ⟨gc, hgc'⟩ : ∃ gc, gc = rCount b sz := ⟨_, rfl⟩
  rw [← hgc'] at hgc ⊢
  rw [← hn] at hgc hle hG hc hl ⊢
  have HGC := Lib.hid hgc
  clear hgc hgc' hg hn hr
  go_enter Tryd.func71, Tryd.ntmps71
  go_wp2_with fail
  refine hG.mono ?_
  rintro e w1 ⟨rfl, hB1⟩
  have HB1 := Lib.hid hB1
  clear hB1
  by_cases c1 : er = 0
  · subst c1
    by_cases c2 : x < 0
    · go_wp2_with fail
      go_ret3
      exact ⟨by rw [HGC.out, if_neg (by simp), if_pos c2]; rfl, HB1.out⟩
    · by_cases c5 : (n : Int) < x
      · have hcc : (((n - u) / sz : Nat) : Int) < x := by
          have : (n - u) / sz ≤ n - u := Nat.div_le_self _ _
          omega
        have C3 := Lib.hid hcc
        clear hcc
        go_wp2_with fail
        go_ret3
        exact ⟨by rw [HGC.out, if_neg (by simp), if_neg (by omega), if_pos C3.out]; rfl, HB1.out⟩
      · obtain ⟨X, rfl⟩ : ∃ X : Nat, x = (X : Int) := ⟨x.toNat, by omega⟩
        have hiff : ((((n - u) / sz : Nat) : Int) < (X : Int)) ↔ ((n : Int) - (u : Int) < (X : Int) * (sz : Int)) := by
          rcases hs with rfl | rfl <;> omega
        have hw1 : IntKind.i64.wrap ((X : Int) * (sz : Int)) = (X : Int) * (sz : Int) := by
          rw [IntKind.wrap_i64]; rcases hs with rfl | rfl <;> omega
        by_cases c3 : (n : Int) - (u : Int) < (X : Int) * (sz : Int)
        · have C3 := Lib.hid (hiff.2 c3)
          clear hiff
          go_wp2_with fail
          go_ret3
          exact ⟨by rw [HGC.out, if_neg (by simp), if_neg (by omega), if_pos C3.out]; rfl, HB1.out⟩
        · have C3 := Lib.hid (fun h => c3 (hiff.1 h))
          clear hiff
          go_wp2_with fail
          go_ret3
          exact ⟨by rw [HGC.out, if_neg (by simp), if_neg (by omega), if_neg C3.out]; rfl, HB1.out⟩
  · have c1' : (er != 0) = true := by simpa using c1
    have C1 := Lib.hid c1
    clear c1
    go_wp2_with fail
    go_ret3
    exact ⟨by rw [HGC.out, if_pos C1.out]; rfl, HB1.out⟩

set_option maxRecDepth 100000 in
set_option maxHeartbeats 4000000 in
theorem rgetBytes_any (A : Option Addr) (c : Nat) (b : List UInt8) (w : World) (hr : ReadsInt w .u8 A b.length (bi b)) (hc : b.length ≤ c) (hl : b.length ≤ 1099511627776) :
    Calls Tryd.prog 49 #[.slice A b.length c] w fun e w' => e = .returned (.tuple #[.string ⟨(gBytes b).1.toArray⟩, .int .i64 ((gBytes b).2.1 : Int), .int .i64 (gBytes b).2.2]) ∧ Below w.heap.size w w' := by
  have hgb : gBytes b = if (rCount b 1).2.2 ≠ 0 then ([], 0, (rCount b 1).2.2) else ((b.drop (rCount b 1).2.1).take (rCount b 1).1.toNat, (rCount b 1).2.1 + (rCount b 1).1.toNat, 0) := by
    rw [rCount_err, gBytes]
    by_cases h : (gCount b 1).2.2 ≠ 0
    · rw [if_pos h, if_pos h]
    · rw [if_neg h, if_neg h, rCount, if_neg h]
  have hok := rCount_ok b 1 (by decide)
  have hG := rcount_any A c 1 b w hr hc hl (.inl rfl)
  obtain ⟨⟨x, u, er⟩, hg⟩ : ∃ g, g = rCount b 1 := ⟨_, rfl⟩
  rw [← hg] at hgb hok hG
  simp only [] at hgb hok hG
  obtain ⟨gb, hgb'⟩ : ∃ gb, gb = gBytes b := ⟨_, rfl⟩
  rw [← hgb'] at hgb ⊢
  have HGB := Lib.hid hgb
  have HR := Lib.hid hr
  clear hgb hgb' hg hr
  obtain ⟨n, hn⟩ : ∃ n, n = b.length := ⟨_, rfl⟩
  rw [← hn] at hok HR hG hc hl ⊢
  clear hn
  go_enter Tryd.func49, Tryd.ntmps49
  go_wp2_with fail
  refine hG.mono ?_
  rintro e w1 ⟨rfl, hB1⟩
  have HB1 := Lib.hid hB1
  by_cases c1 : er = 0
  · subst c1
    obtain ⟨-, h0, h1⟩ := hok rfl
    clear hok
    rw [Nat.one_mul] at h1
    obtain ⟨m, rfl⟩ : ∃ m : Nat, x = (m : Int) := ⟨x.toNat, by omega⟩
    rw [Int.toNat_natCast] at h1
    obtain ⟨ii, hii, hsz⟩ := infoU8'
    obtain ⟨A1, hsl, hA1⟩ := cut_lh 56 5 .i64 .i64 Tryd.underlying56 hii hsz A n c u (u + m) (by omega) (by omega) hc
    have hR1 := hA1 w1 .u8 _ (HR.out.below hB1)
    rw [show u + m - u = m by omega, show ((bi b).drop u).take m = bi ((b.drop u).take m) by simp [bi, List.map_take, List.map_drop]] at hR1
    replace hsl : ∀ W, (Instr.slice 56 (.slice A n c) (some (.int .i64 (u : Int))) (some (.int .i64 ((u : Int) + (m : Int)))) none).run Tryd.prog W = .ok (.slice A1 m (c - u)) W := fun W => by
      have := hsl W
      rw [show u + m - u = m by omega] at this
      simpa using this
    have hcv := conv_read Tryd.prog 56 5 9 Tryd.underlying56 Tryd.underlying5 Tryd.underlying9 A1 m (c - u) _ w1 hR1
    have HCV := Lib.hid hcv
    clear hA1 hR1 hii hsz HR hcv hB1
    have hcv := HCV.out
    go_wp2_with fail
    go_ret3
    exact ⟨by rw [HGB.out, if_neg (by simp), Int.toNat_natCast]; rfl, HB1.out⟩
  · have c1' : (er != 0) = true := by simpa using c1
    have C1 := Lib.hid c1
    clear c1 hok hB1
    go_wp2_with fail
    go_ret3
    exact ⟨by rw [HGB.out, if_pos C1.out]; rfl, HB1.out⟩

set_option maxRecDepth 100000 in
set_option maxHeartbeats 4000000 in
theorem rgetInts_any (A : Option Addr) (c : Nat) (b : List UInt8) (w : World) (hr : ReadsInt w .u8 A b.length (bi b)) (hc : b.length ≤ c) (hl : b.length ≤ 1099511627776) :
    Calls Tryd.prog 48 #[.slice A b.length c] w fun e w' => ∃ v, e = .returned (.tuple #[v, .int .i64 ((gInts b).2.1 : Int), .int .i64 (gInts b).2.2]) ∧ w'.ownsRow w.heap.size 3 1 v (gInts b).1.length (nums .i64 (gInts b).1) ∧ Below w.heap.size w w' := by
  have hgb : gInts b = if (rCount b 1).2.2 ≠ 0 then ([], 0, (rCount b 1).2.2) else gIntsA b (rCount b 1).1.toNat [] (rCount b 1).2.1 := by
    rw [rCount_err, gInts]
    by_cases h : (gCount b 1).2.2 ≠ 0
    · rw [if_pos h, if_pos h]
    · rw [if_neg h, if_neg h, rCount, if_neg h]
  have hok := rCount_ok b 1 (by decide)
  have hG := rcount_any A c 1 b w hr hc hl (.inl rfl)
  obtain ⟨⟨x, u, er⟩, hg⟩ : ∃ g, g = rCount b 1 := ⟨_, rfl⟩
  rw [← hg] at hgb hok hG
  simp only [] at hgb hok hG
  obtain ⟨gb, hgb'⟩ : ∃ gb, gb = gInts b := ⟨_, rfl⟩
  rw [← hgb'] at hgb ⊢
  have HGB := Lib.hid hgb
  have HR := Lib.hid hr
  have HL := Lib.hid hl
  have HC := Lib.hid hc
  clear hgb hgb' hg hr
  obtain ⟨n, hn⟩ : ∃ n, n = b.length := ⟨_, rfl⟩
  rw [← hn] at hok hG hc hl ⊢
  have HN := Lib.hid hn
  clear hn
  go_enter Tryd.func48, Tryd.ntmps48
  go_wp2_with fail
  refine hG.mono ?_
  rintro e w1 ⟨rfl, hB1⟩
  have HB1 := Lib.hid hB1
  by_cases c1 : er = 0
  · subst c1
    obtain ⟨-, h0, h1⟩ := hok rfl
    clear hok
    rw [Nat.one_mul] at h1
    obtain ⟨m, rfl⟩ : ∃ m : Nat, x = (m : Int) := ⟨x.toNat, by omega⟩
    rw [Int.toNat_natCast] at h1
    have HNIL := Lib.hid (own_nil w1 w.heap.size 3 1)
    have HG2 : Hid (gb = gIntsA b m [] u) := Lib.hid (by rw [HGB.out, if_neg (by simp), Int.toNat_natCast])
    clear HGB hB1
    go_wp2_with fail
    go_loopw [6, 8, 9] (fun v6 v8 v9 wr => ∃ (i at_ : Nat) (acc : List Int), i ≤ m ∧ v9 = .int .i64 i ∧ v6 = .int .i64 at_ ∧ at_ ≤ n ∧ acc.length = i ∧ gb = gIntsA b (m - i) acc at_ ∧ Below w.heap.size w wr ∧ wr.ownsRow w.heap.size 3 1 v8 acc.length (nums .i64 acc)) (fun _ _ v9 _ => m - (RowKit.intOf v9).toNat)
    case atStart => exact ⟨0, u, [], by omega, rfl, rfl, by omega, rfl, HG2.out, HB1.out, HNIL.out⟩
    case round =>
      clear HG2 HB1 HNIL
      obtain ⟨i, at_, acc, hi, rfl, rfl, hat, hacc, hgi, hB, hown⟩ := hrel
      obtain ⟨A9, c9, rfl⟩ := own_slice hown
      have hz := hB.size
      have HACC := Lib.hid hacc
      have HGI := Lib.hid hgi
      have HBr := Lib.hid hB
      have HOWN := Lib.hid hown
      clear hacc hgi hB hown
      by_cases hlt : i < m
      · have l1 : decide ((i : Int) < (m : Int)) = true := decide_eq_true (by omega)
        obtain ⟨ii, hii, hsz⟩ := infoU8'
        obtain ⟨A1, hsl, hA1⟩ := print_cut (P := Tryd.prog) 56 5 .i64 Tryd.underlying56 hii hsz A n c at_ hat
        have hR1 := hA1 wr .u8 (bi b) hc (by rw [HN.out]; exact HR.out.below HBr.out)
        rw [bi_drop] at hR1
        have hld : (b.drop at_).length = n - at_ := by rw [List.length_drop, HN.out]
        have hN := rgetInt_any A1 (c - at_) (b.drop at_) wr (by rw [hld]; exact hR1) (by rw [hld]; omega) (by rw [hld]; omega)
        rw [hld] at hN
        have hle := gInt_le (b.drop at_)
        rw [hld] at hle
        have hgi := HGI.out
        rw [show m - i = (m - (i + 1)) + 1 by omega, gIntsA] at hgi
        obtain ⟨⟨x, u1, er⟩, hg⟩ : ∃ g, g = gInt (b.drop at_) := ⟨_, rfl⟩
        rw [← hg] at hN hle hgi
        simp only [] at hN hle hgi
        have HGI2 := Lib.hid hgi
        have HN2 := Lib.hid hN
        clear hg hgi hN hR1 hA1 hii hsz hld
        go_wp2_with fail
        refine HN2.out.mono ?_
        rintro e w2 ⟨rfl, hB2⟩
        have hz2 := hB2.size
        have HO2 := Lib.hid (pw_own_below HOWN.out hB2)
        have HB2 := Lib.hid (HBr.out.trans (hB2.mono hz))
        clear hB2
        by_cases c2 : er = 0
        · subst c2
          have hal : acc.length ≤ 1099511627776 := by have := HACC.out; omega
          go_wp2_with (at_builtin; go_must (refine print_append_num (w0 := w) w.heap.size rfl (.tmp 38) (.tmp 40) 32 3 .i64 8 rfl Tryd.underlying32 infoI64 (by decide) _ acc x rfl rfl HO2.out HB2.out (by omega) (by omega) ?_); intro v4 w4 hown4 hB4 hg4 hat4)
          have hg2 : gb = gIntsA b (m - (i + 1)) (acc ++ [x]) (at_ + u1) := by rw [HGI2.out, if_neg (by simp)]
          have HG4 := Lib.hid hg2
          have HW4 := Lib.hid hB4
          have HO4 := Lib.hid hown4
          clear hg2 hown4 hB4 hg4 hat4
          go_wp2_with fail
          go_roundw
          case rel => exact ⟨i + 1, at_ + u1, acc ++ [x], by omega, by go_num, rfl, by omega, by rw [List.length_append, HACC.out]; rfl, HG4.out, HW4.out, HO4.out⟩
          case measure => simp [RowKit.intOf]; omega
        · have c2' : (er != 0) = true := by simpa using c2
          have C2 := Lib.hid c2
          clear c2
          go_wp2_with fail
          go_ret3
          refine ⟨.slice none 0 0, ?_, ?_, HB2.out⟩
          · rw [HGI2.out, if_pos C2.out]; rfl
          · rw [HGI2.out, if_pos C2.out]; exact own_nil _ _ _ _
      · have l1 : decide ((i : Int) < (m : Int)) = false := decide_eq_false (by omega)
        obtain rfl : i = m := by omega
        go_wp2_with fail
        go_ret3
        have hg : gb = (acc, at_, 0) := by rw [HGI.out, Nat.sub_self]; rfl
        refine ⟨.slice A9 acc.length c9, ?_, ?_, HBr.out⟩
        · rw [hg]; rfl
        · rw [hg]; exact HOWN.out
  · have c1' : (er != 0) = true := by simpa using c1
    have C1 := Lib.hid c1
    clear c1 hok hB1
    go_wp2_with fail
    go_ret3
    refine ⟨.slice none 0 0, ?_, ?_, HB1.out⟩
    · rw [HGB.out, if_pos C1.out]; rfl
    · rw [HGB.out, if_pos C1.out]; exact own_nil _ _ _ _
end Go.Proofs.YtbgijijecipjeaaDoor
namespace Go.Proofs.YtbgijijecipjeaaDoor
open Go.RowKit Go.IntWalk Go.Proofs.YtbgijijecipjeaaDoorW.PrintWords

/-- A member's cells, in the making. -/
def memV (nm : Value) (l : List UInt8) (ht : Value) : Array Value := (nm :: (Lib.byteCells l ++ [ht])).toArray
theorem memV_put (nm : Value) (l : List UInt8) (ht : Value) (k : Nat) (x : UInt8) (y : Int) (hy : y = (x.toNat : Int)) (hk : k < l.length) : (memV nm l ht).setIfInBounds (1 + k) (.int .u8 y) = memV nm (l.set k x) ht := by
  subst hy
  unfold memV
  rw [List.setIfInBounds_toArray, Nat.add_comm 1 k, List.set_cons_succ, List.set_append_left _ _ (by rw [Lib.byteCells_length]; exact hk)]
  simp [Lib.byteCells, List.map_set]
theorem memV_ht (nm : Value) (l : List UInt8) (ht v : Value) (h : l.length = 16) : (memV nm l ht).setIfInBounds 17 v = memV nm l v := by
  unfold memV
  rw [List.setIfInBounds_toArray, List.set_cons_succ, List.set_append_right _ _ (by rw [Lib.byteCells_length]; omega), Lib.byteCells_length, h]; rfl
theorem reads_low {w w' : World} {k : IntKind} {g n base : Nat} {xs : List Int} (h : ReadsInt w k (some ⟨g, 0, none⟩) n xs) (hg : g < base) (hb : Below base w w') : ReadsInt w' k (some ⟨g, 0, none⟩) n xs :=
  ⟨h.1, h.2.1, fun hn => by
    obtain ⟨ad, e, hc⟩ := h.2.2 hn
    injection e with e; subst e
    refine ⟨_, rfl, fun j hj => ?_⟩
    have := hc j hj
    rw [add_plain] at this ⊢
    rw [← this]
    exact hb.cell (p := ⟨g, j, none⟩) hg⟩
theorem gMem_pub (b : List UInt8) (h : (gMem b).2.2 = 0) : (gMem b).1.pub.length = 16 := by
  have hbl := gBytes_le b
  unfold gMem at h ⊢
  by_cases g1 : (gBytes b).2.2 ≠ 0
  · rw [if_pos g1] at h; exact absurd h g1
  · rw [if_neg g1] at h ⊢
    by_cases g2 : b.length - (gBytes b).2.1 < 16
    · rw [if_pos g2] at h; cases h
    · rw [if_neg g2] at h ⊢
      split at h
      · rename_i g3; exact absurd h g3
      · rename_i g3
        rw [if_neg g3]
        show (List.take 16 _).length = 16
        rw [List.length_take, List.length_drop]; omega

theorem infoMem : ∃ z, (Tryd.prog.info? 47).map (fun i => (i.zero, i.size, i.bytes)) = some (some z, 18, 40) ∧ z.cells.size = 18 := by
  refine ⟨.agg #[Value.string { data := #[] }, Value.int IntKind.u8 0, Value.int IntKind.u8 0, Value.int IntKind.u8 0, Value.int IntKind.u8 0, Value.int IntKind.u8 0, Value.int IntKind.u8 0, Value.int IntKind.u8 0, Value.int IntKind.u8 0, Value.int IntKind.u8 0, Value.int IntKind.u8 0, Value.int IntKind.u8 0, Value.int IntKind.u8 0, Value.int IntKind.u8 0, Value.int IntKind.u8 0, Value.int IntKind.u8 0, Value.int IntKind.u8 0, Value.int IntKind.i64 0], by kernel_rfl, by rfl⟩
/-- The state of the loop over the members. -/
structure RDec (wN : World) (p : Nat) (x0 x1 : Int) (acc : List Mem) (wr : World) : Prop where
  low : Below p wN wr
  row : ∃ A c, wr.heap[p]? = some (.cells #[.int .i64 x0, .int .i64 x1, .slice A acc.length c] 24 (0, 0)) ∧ wr.ownsRow (p + 1) 47 18 (.slice A acc.length c) acc.length ((acc.map memRow).flatten)
  pub : ∀ m ∈ acc, m.pub.length = 16
  ok : ∀ m ∈ acc, m.name.size ≤ 1099511627776 ∧ in64 m.ht
  hp : p < wr.heap.size

theorem row_low {w w' : World} {base q : Nat} (hb : Below base w w') (hq : q < base) : row? w' q = row? w q := by unfold row?; rw [hb.block q hq]
theorem RDec.later {wN : World} {p : Nat} {x0 x1 : Int} {acc : List Mem} {wr w1 : World} (h : RDec wN p x0 x1 acc wr) (hb : Below wr.heap.size wr w1) : RDec wN p x0 x1 acc w1 := by
  obtain ⟨A, c, h1, h2⟩ := h.row
  have hp := h.hp
  exact ⟨h.low.trans (hb.mono (by omega)), ⟨A, c, (hb.block p h.hp).trans h1, pw_own_below h2 hb⟩, h.pub, h.ok, Nat.lt_of_lt_of_le h.hp hb.size⟩
/-- A member is in the making at q. -/
structure QDec (wN : World) (p : Nat) (x0 x1 : Int) (acc : List Mem) (q : Nat) (X : Array Value) (wr : World) : Prop where
  base : RDec wN p x0 x1 acc wr
  qb : wr.heap[q]? = some (.cells X 47 (0, 0))
  hq : p < q
  far : ∀ k A c, wr.heap[p]? = some (.cells #[.int .i64 x0, .int .i64 x1, .slice A acc.length c] 24 (0, 0)) → (Value.slice A acc.length c).ownBlock = some k → k ≠ q
theorem QDec.set {wN : World} {p : Nat} {x0 x1 : Int} {acc : List Mem} {q : Nat} {X : Array Value} {wr : World} (h : QDec wN p x0 x1 acc q X wr) (Y : Array Value) : QDec wN p x0 x1 acc q Y (wr.setRow q Y) := by
  obtain ⟨A, c, h1, h2⟩ := h.base.row
  have hq := h.hq
  have hp := h.base.hp
  have hpp : (wr.setRow q Y).heap[p]? = wr.heap[p]? := setRow_other _ _ _ _ (by omega)
  refine ⟨⟨below_setRow h.base.low (by omega) _, ⟨A, c, hpp.trans h1, ?_⟩, h.base.pub, h.base.ok, by simpa using hp⟩, setRow_heap _ _ _ _ _ _ h.qb, h.hq, fun k A c hh hk => h.far k A c (hpp.symm.trans hh) hk⟩
  refine ⟨h2.1, ?_⟩
  rcases h2.2 with h3 | ⟨g, cap, cur, e, hg, hc, r⟩
  · exact .inl h3
  · refine .inr ⟨g, cap, cur, e, hg, ?_, r⟩
    have : g ≠ q := h.far g A c h1 (by rw [e]; rfl)
    rw [setRow_other _ _ _ _ this]; exact hc
theorem QDec.later {wN : World} {p : Nat} {x0 x1 : Int} {acc : List Mem} {q : Nat} {X : Array Value} {wr w1 : World} (h : QDec wN p x0 x1 acc q X wr) (hb : Below wr.heap.size wr w1) : QDec wN p x0 x1 acc q X w1 :=
  ⟨h.base.later hb, (hb.block q (Array.getElem?_eq_some_iff.1 h.qb).1).trans h.qb, h.hq, fun k A c hh hk => h.far k A c ((hb.block p h.base.hp).symm.trans hh) hk⟩
theorem QDec.new {wN : World} {p : Nat} {x0 x1 : Int} {acc : List Mem} {X : Array Value} {wr : World} (h : RDec wN p x0 x1 acc wr) : QDec wN p x0 x1 acc wr.heap.size X (wr.alloc (.cells X 47)) := by
  have hp := h.hp
  refine ⟨h.later ((Below.refl _ _).alloc (Nat.le_refl _) _), heap_alloc_new _ _, hp, fun k A c hh hk => ?_⟩
  obtain ⟨A', c', h1, h2⟩ := h.row
  rw [heap_alloc_old _ _ hp, h1] at hh
  injection hh with hh
  injection hh with hh
  simp only [Array.mk.injEq, List.cons.injEq, Value.slice.injEq, true_and, and_true] at hh
  obtain ⟨rfl, rfl⟩ := hh
  have := own_lt h2 k hk
  omega

set_option maxRecDepth 100000 in
set_option maxHeartbeats 4000000 in
theorem rdecode_any (s : ByteArray) (w : World) (hs : s.size ≤ 1099511627776) :
    Calls Tryd.prog 27 #[.string s] w fun e w' => Below w.heap.size w w' ∧ ∃ A c, e = .returned (.tuple #[cusV (gDec s.data.toList).1 (gDec s.data.toList).2.1 A (gDec s.data.toList).2.2.1.length c, .int .i64 (gDec s.data.toList).2.2.2]) ∧ ReadsMem w' A (gDec s.data.toList).2.2.1.length (gDec s.data.toList).2.2.1 := by
  have kb := fun W => print_bytes (P := Tryd.prog) 9 56 5 Tryd.underlying9 Tryd.underlying56 Tryd.underlying5 s W
  obtain ⟨b, hb⟩ : ∃ b, b = s.data.toList := ⟨_, rfl⟩
  have hbl : b.length = s.size := by rw [hb, data_length]
  rw [← hb]
  have HBS := Lib.hid hb
  obtain ⟨G, hG⟩ : ∃ G, G = gDec b := ⟨_, rfl⟩
  rw [← hG]
  have hgd : G = if (gInts b).2.2 ≠ 0 then (0, 0, [], (gInts b).2.2)
    else if (gInts b).1.length ≠ 3 ∨ (gInts b).1.getD 2 0 < 1 ∨ 16 < (gInts b).1.getD 2 0 then (0, 0, [], 6)
    else if (gMems b ((gInts b).1.getD 2 0).toNat [] (gInts b).2.1).2.2 ≠ 0 then (0, 0, [], (gMems b ((gInts b).1.getD 2 0).toNat [] (gInts b).2.1).2.2)
    else if (gMems b ((gInts b).1.getD 2 0).toNat [] (gInts b).2.1).2.1 < b.length ∨ validB ((gInts b).1.getD 0 0) ((gInts b).1.getD 1 0) (gMems b ((gInts b).1.getD 2 0).toNat [] (gInts b).2.1).1 = false then (0, 0, [], 6)
    else ((gInts b).1.getD 0 0, (gInts b).1.getD 1 0, (gMems b ((gInts b).1.getD 2 0).toNat [] (gInts b).2.1).1, 0) := hG
  have hgil := gInts_le b
  have HGD := Lib.hid hgd
  clear hb hG hgd
  have hzst : ∀ (W : World) (g : Nat), storeRowK Tryd.prog 24 3 g #[Value.int IntKind.i64 0, Value.int IntKind.i64 0, Value.slice none 0 0] W (some #[Value.int IntKind.i64 0, Value.int IntKind.i64 0, Value.slice none 0 0]) = .ok () (W.setRow g #[Value.int IntKind.i64 0, Value.int IntKind.i64 0, Value.slice none 0 0]) := fun W g => storeRowK_some _ _ _ _ _ _ _ rfl rfl (by simp [oneAll, Value.oneCell'])
  obtain ⟨w0, hw0⟩ : ∃ w0, w0 = w.alloc (.cells #[Value.int IntKind.i64 0, Value.int IntKind.i64 0, Value.slice none 0 0] 24) := ⟨_, rfl⟩
  have hB0 : Below w.heap.size w w0 := by rw [hw0]; exact (Below.refl _ _).alloc (Nat.le_refl _) _
  have hz0 : w0.heap.size = w.heap.size + 1 := by rw [hw0, szA]
  have hr0 : row? w0 w.heap.size = some #[Value.int IntKind.i64 0, Value.int IntKind.i64 0, Value.slice none 0 0] := by rw [hw0]; exact row_of (heap_alloc_new _ _)
  obtain ⟨wb, hwb⟩ : ∃ wb, wb = Lib.bytesWorld w0 5 s := ⟨_, rfl⟩
  have hrb : ReadsInt wb .u8 (some ⟨w0.heap.size, 0, none⟩) s.size (bi b) := by
    have := bytes_reads w0 5 s (by omega)
    rw [← hwb, bytesOf_bi, ← HBS.out] at this; exact this
  have hBb : Below w0.heap.size w0 wb := by rw [hwb]; exact bytes_below (Below.refl _ _) (Nat.le_refl _) _ _
  have hzb : wb.heap.size = w0.heap.size + 1 := by rw [hwb]; exact Lib.bytesWorld_size _ _ _
  obtain ⟨cap, hcap⟩ : ∃ cap, cap = grownCap w0 s.size 0 5 := ⟨_, rfl⟩
  have hcap2 : s.size ≤ cap := by rw [hcap]; exact grownCap_ge _ _ _ _
  have hgi := rgetInts_any (some ⟨w0.heap.size, 0, none⟩) cap b wb (by rw [hbl]; exact hrb) (by omega) (by omega)
  obtain ⟨⟨il, io, ie⟩, hil⟩ : ∃ g, g = gInts b := ⟨_, rfl⟩
  rw [← hil] at HGD hgil hgi
  simp only [] at HGD hgil hgi
  rw [hbl, hz0] at hgi
  have HGI := Lib.hid hgi
  rw [hz0] at hrb
  go_enter Tryd.func27, Tryd.ntmps27
  go_wp2_with fail
  rw [← hw0, ← hwb, ← hcap]
  refine HGI.out.mono ?_
  rintro e w1 ⟨v1, rfl, hown1, hB1⟩
  have hBw : Below w.heap.size w wb := hB0.trans (hBb.mono hB0.size)
  have hB1' : Below w.heap.size w w1 := hBw.trans (hB1.mono hBw.size)
  have hz1 := hB1.size
  replace hr0 := rk_b' hB1 (rk_b' hBb hr0)
  have hrb1 := hrb.below hB1
  obtain ⟨A1, c1, rfl, hr1⟩ := own_reads hown1
  have HB1 := Lib.hid hB1'
  have HRB := Lib.hid hrb1
  have HOWN := Lib.hid hown1
  have hl0 := row_lt hr0
  clear kb hwb hw0 hrb hgi hBb hB0 hB1 hB1' hBw hil hrb1 hown1 HGI
  by_cases c1 : ie = 0
  case neg =>
    have c1' : (ie != 0) = true := by simpa using c1
    have hGe : G = (0, 0, [], ie) := by rw [HGD.out, if_pos c1]
    have HGE := Lib.hid hGe
    clear hGe c1
    go_wp2_with fail
    have hrf : row? (w1.setRow w.heap.size #[Value.int IntKind.i64 0, Value.int IntKind.i64 0, Value.slice none 0 0]) w.heap.size = some #[Value.int IntKind.i64 0, Value.int IntKind.i64 0, Value.slice none 0 0] := by rw [row_setRow, if_pos rfl, hr0]; rfl
    obtain ⟨tf, hhf⟩ := row_heap hrf
    refine bodyPost_ret (v := .tuple #[cusV 0 0 none 0 0, .int .i64 ie]) (results_cell_tmp_row rfl _ _ w.heap.size tf _ (0, 0) _ _ rfl rfl hhf Tryd.underlying24 rfl (by kernel_rfl)) rfl ⟨below_setRow HB1.out (Nat.le_refl _) _, none, 0, by rw [HGE.out]; rfl, by rw [HGE.out]; exact ⟨rfl, fun j m hm => by simp at hm⟩⟩
  case pos =>
    subst c1
    by_cases c2 : il.length = 3
    case neg =>
      have c2' : ((il.length : Int) != 3) = true := by simp; omega
      have hGe : G = (0, 0, [], 6) := by rw [HGD.out, if_neg (by simp), if_pos (.inl c2)]
      have HGE := Lib.hid hGe
      clear hGe c2
      go_wp2_with fail
      have hrf : row? (w1.setRow w.heap.size #[Value.int IntKind.i64 0, Value.int IntKind.i64 0, Value.slice none 0 0]) w.heap.size = some #[Value.int IntKind.i64 0, Value.int IntKind.i64 0, Value.slice none 0 0] := by rw [row_setRow, if_pos rfl, hr0]; rfl
      obtain ⟨tf, hhf⟩ := row_heap hrf
      refine bodyPost_ret (v := .tuple #[cusV 0 0 none 0 0, .int .i64 6]) (results_cell_tmp_row rfl _ _ w.heap.size tf _ (0, 0) _ _ rfl rfl hhf Tryd.underlying24 rfl (by kernel_rfl)) rfl ⟨below_setRow HB1.out (Nat.le_refl _) _, none, 0, by rw [HGE.out]; rfl, by rw [HGE.out]; exact ⟨rfl, fun j m hm => by simp at hm⟩⟩
    case pos =>
      obtain ⟨x0, x1, x2, rfl⟩ : ∃ a b c, il = [a, b, c] := by
        rcases il with _ | ⟨a, _ | ⟨b, _ | ⟨c, _ | ⟨d, r⟩⟩⟩⟩ <;> simp at c2
        exact ⟨a, b, c, rfl⟩
      clear c2
      simp only [List.length_cons, List.length_nil] at hr1 HOWN
      obtain ⟨gl, cl, hsv, hgl, hgl2⟩ := HOWN.out.form (by omega)
      injection hsv with h1 h2 h3
      subst h1 h3
      clear h2
      have l0 : w1.cell? ⟨gl, 0, none⟩ = some (.int .i64 x0) := (own_at HOWN.out 0 (by omega) (by omega)).1
      have l1 : w1.cell? ⟨gl, 1, none⟩ = some (.int .i64 x1) := (own_at HOWN.out 1 (by omega) (by omega)).1
      have l2 : w1.cell? ⟨gl, 2, none⟩ = some (.int .i64 x2) := (own_at HOWN.out 2 (by omega) (by omega)).1
      by_cases c3 : x2 < 1 ∨ 16 < x2
      · have hGe : G = (0, 0, [], 6) := by rw [HGD.out, if_neg (by simp), if_pos (.inr c3)]
        have HGE := Lib.hid hGe
        clear hGe
        rcases (show x2 < 1 ∨ (¬ x2 < 1 ∧ 16 < x2) by omega) with c4 | ⟨c4, c5⟩
        all_goals
          clear c3
          go_wp2_with fail
          have hrf : row? (w1.setRow w.heap.size #[Value.int IntKind.i64 0, Value.int IntKind.i64 0, Value.slice none 0 0]) w.heap.size = some #[Value.int IntKind.i64 0, Value.int IntKind.i64 0, Value.slice none 0 0] := by rw [row_setRow, if_pos rfl, hr0]; rfl
          obtain ⟨tf, hhf⟩ := row_heap hrf
          refine bodyPost_ret (v := .tuple #[cusV 0 0 none 0 0, .int .i64 6]) (results_cell_tmp_row rfl _ _ w.heap.size tf _ (0, 0) _ _ rfl rfl hhf Tryd.underlying24 rfl (by kernel_rfl)) rfl ⟨below_setRow HB1.out (Nat.le_refl _) _, none, 0, by rw [HGE.out]; rfl, by rw [HGE.out]; exact ⟨rfl, fun j m hm => by simp at hm⟩⟩
      · obtain ⟨M, rfl⟩ : ∃ M : Nat, x2 = (M : Int) := ⟨x2.toNat, by omega⟩
        have c4 : ¬ (M : Int) < 1 := by omega
        have c5 : ¬ 16 < (M : Int) := by omega
        have hGe : G = if (gMems b M [] io).2.2 ≠ 0 then (0, 0, [], (gMems b M [] io).2.2) else if (gMems b M [] io).2.1 < b.length ∨ validB x0 x1 (gMems b M [] io).1 = false then (0, 0, [], 6) else (x0, x1, (gMems b M [] io).1, 0) := by
          rw [HGD.out, if_neg (by simp), if_neg (by rintro (h | h); exact h rfl; exact c3 h)]
          simp
        have HGE := Lib.hid hGe
        clear hGe c3 HGD
        have hst2 : ∀ (W : World) (g : Nat), storeRowK Tryd.prog 24 3 g #[Value.int IntKind.i64 x0, Value.int IntKind.i64 x1, Value.slice none 0 0] W (some #[Value.int IntKind.i64 0, Value.int IntKind.i64 0, Value.slice none 0 0]) = .ok () (W.setRow g #[Value.int IntKind.i64 x0, Value.int IntKind.i64 x1, Value.slice none 0 0]) := fun W g => storeRowK_some _ _ _ _ _ _ _ rfl rfl (by simp [oneAll, Value.oneCell'])
        have HR0 := Lib.hid hr0
        clear hr0
        go_upto_region 9 with fail
        go_region
        rw [← hcap]
        have hr0 := HR0.out
        obtain ⟨p, hp⟩ : ∃ p, p = w1.heap.size := ⟨_, rfl⟩
        obtain ⟨wN, hwN⟩ : ∃ wN, wN = ((w1.alloc (.cells #[Value.int IntKind.i64 0, Value.int IntKind.i64 0, Value.slice none 0 0] 24)).drew.setRow w1.heap.size #[Value.int IntKind.i64 x0, Value.int IntKind.i64 x1, Value.slice none 0 0]) := ⟨_, rfl⟩
        have hlowN : Below p w1 wN := by rw [hwN, hp]; exact below_setRow (((Below.refl _ _).alloc (Nat.le_refl _) _).drew) (Nat.le_refl _) _
        have hpN : wN.heap[p]? = some (.cells #[Value.int IntKind.i64 x0, Value.int IntKind.i64 x1, Value.slice none 0 0] 24 (0, 0)) := by rw [hwN, hp]; exact setRow_heap _ _ _ _ _ _ (hp_drew (heap_alloc_new _ _))
        have hzN : p < wN.heap.size := (Array.getElem?_eq_some_iff.1 hpN).1
        have hS0 : RDec wN p x0 x1 [] wN := ⟨Below.refl _ _, ⟨none, 0, hpN, own_nil _ _ _ _⟩, fun m hm => by simp at hm, fun m hm => by simp at hm, hzN⟩
        rw [← hwN, ← hp]
        have hr0N : row? wN w.heap.size = some #[Value.int IntKind.i64 0, Value.int IntKind.i64 0, Value.slice none 0 0] := (row_low hlowN (by omega)).trans hr0
        have hrbN : ReadsInt wN .u8 (some ⟨w.heap.size + 1, 0, none⟩) s.size (bi b) := reads_low HRB.out (by omega) hlowN
        have l2N : wN.cell? ⟨gl, 2, none⟩ = some (.int .i64 (M : Int)) := (hlowN.cell (p := ⟨gl, 2, none⟩) (by show gl < p; omega)).trans l2
        have hBN : Below w.heap.size w wN := HB1.out.trans (hlowN.mono (by omega))
        have hgp : gl < p := by omega
        have hwp : w.heap.size + 1 < p := by omega
        have HS0 := Lib.hid hS0
        have HR0N := Lib.hid hr0N
        have HRBN := Lib.hid hrbN
        have HL2N := Lib.hid l2N
        have HBN := Lib.hid hBN
        obtain ⟨n, hn⟩ : ∃ n, n = s.size := ⟨_, rfl⟩
        rw [← hn] at HRBN hcap2 hs hbl ⊢
        have HN := Lib.hid hbl
        obtain ⟨E, hE⟩ : ∃ E, E = gMems b M [] io := ⟨_, rfl⟩
        rw [← hE] at HGE
        have HE := Lib.hid hE
        clear hcap hwN hlowN hpN hS0 hr0N hrbN l2N hBN hst2 hr0 HR0 HRB HB1 HOWN hr1 l0 l1 l2 hn hE hbl hp
        go_wp2_with fail
        go_loopw [6, 9] (fun v6 v9 wr => ∃ (i off : Nat) (acc : List Mem), i ≤ M ∧ v9 = .int .i64 i ∧ v6 = .int .i64 off ∧ off ≤ n ∧ acc.length = i ∧ E = gMems b (M - i) acc off ∧ RDec wN p x0 x1 acc wr) (fun _ v9 _ => M - (RowKit.intOf v9).toNat)
        case atStart => exact ⟨0, io, [], by omega, rfl, rfl, by have := HN.out; omega, rfl, HE.out, HS0.out⟩
        case round =>
          clear HS0 HE
          obtain ⟨i, off, acc, hi, rfl, rfl, hoff, hacc, hEi, hS⟩ := hrel
          have hrr := (row_low hS.low (show w.heap.size < p by omega)).trans HR0N.out
          have hrb := reads_low HRBN.out hwp hS.low
          have l2 : wr.cell? ⟨gl, 2, none⟩ = some (.int .i64 (M : Int)) := (hS.low.cell (p := ⟨gl, 2, none⟩) hgp).trans HL2N.out
          have hBw : Below w.heap.size w wr := HBN.out.trans (hS.low.mono (by omega))
          have HS := Lib.hid hS
          have HEI := Lib.hid hEi
          have HACC := Lib.hid hacc
          have HRR := Lib.hid hrr
          have HRBr := Lib.hid hrb
          have HBw := Lib.hid hBw
          clear hS hEi hacc hrr hrb hBw
          by_cases hlt : i < M
          · have d1 : decide ((i : Int) < (M : Int)) = true := decide_eq_true (by omega)
            obtain ⟨ii, hii, hsz⟩ := infoU8'
            obtain ⟨A2, hsl, hA2⟩ := print_cut (P := Tryd.prog) 56 5 .i64 Tryd.underlying56 hii hsz (some ⟨w.heap.size + 1, 0, none⟩) n cap off hoff
            have hR2 := hA2 wr .u8 (bi b) hcap2 HRBr.out
            rw [bi_drop] at hR2
            have hld : (b.drop off).length = n - off := by rw [List.length_drop, HN.out]
            have hGB := rgetBytes_any A2 (cap - off) (b.drop off) wr (by rw [hld]; exact hR2) (by rw [hld]; omega) (by rw [hld]; omega)
            rw [hld] at hGB
            have hgle := gBytes_le (b.drop off)
            rw [hld] at hgle
            have hgm : gMem (b.drop off) = if (gBytes (b.drop off)).2.2 ≠ 0 then (memZ, 0, (gBytes (b.drop off)).2.2)
                else if (n - off) - (gBytes (b.drop off)).2.1 < 16 then (memZ, 0, 5)
                else if (gInt (b.drop (off + (gBytes (b.drop off)).2.1 + 16))).2.2 ≠ 0 then (memZ, 0, (gInt (b.drop (off + (gBytes (b.drop off)).2.1 + 16))).2.2)
                else (⟨⟨(gBytes (b.drop off)).1.toArray⟩, (b.drop (off + (gBytes (b.drop off)).2.1)).take 16, (gInt (b.drop (off + (gBytes (b.drop off)).2.1 + 16))).1⟩, (gBytes (b.drop off)).2.1 + 16 + (gInt (b.drop (off + (gBytes (b.drop off)).2.1 + 16))).2.1, 0) := by
              rw [gMem, hld, List.drop_drop, List.drop_drop, ← Nat.add_assoc]
            have hEs : E = if (gMem (b.drop off)).2.2 ≠ 0 then ([], 0, (gMem (b.drop off)).2.2) else gMems b (M - (i + 1)) (acc ++ [(gMem (b.drop off)).1]) (off + (gMem (b.drop off)).2.1) := by
              rw [HEI.out, show M - i = (M - (i + 1)) + 1 by omega, gMems]
            have hgok := gMem_ok (b.drop off)
            have hgpub := gMem_pub (b.drop off)
            obtain ⟨gm, hgmd⟩ : ∃ gm, gm = gMem (b.drop off) := ⟨_, rfl⟩
            rw [← hgmd] at hgm hEs hgok hgpub
            rw [hld] at hgok
            obtain ⟨⟨nm, u, er⟩, hgb⟩ : ∃ g, g = gBytes (b.drop off) := ⟨_, rfl⟩
            rw [← hgb] at hGB hgle hgm
            simp only [] at hGB hgle hgm
            have HGM := Lib.hid hgm
            have HES := Lib.hid hEs
            have HGB := Lib.hid hGB
            have HOK := Lib.hid hgok
            have HPUB := Lib.hid hgpub
            clear hgb hgmd hgm hEs hGB hR2 hA2 hii hsz hld HEI hgok hgpub
            go_wp2_with fail
            refine HGB.out.mono ?_
            rintro e w2 ⟨rfl, hB2⟩
            have hrr2 := rk_b' hB2 HRR.out
            have HS2 := Lib.hid (HS.out.later hB2)
            have HRB2 := Lib.hid (HRBr.out.below hB2)
            have HB2 := Lib.hid (HBw.out.trans (hB2.mono HBw.out.size))
            have hl2 := row_lt hrr2
            clear hB2 HS HRR HRBr HBw l2
            by_cases e1 : er = 0
            case neg =>
              have e1' : (er != 0) = true := by simpa using e1
              have hGe : G = (0, 0, [], er) := by
                have h1 : gm.2.2 = er := by rw [HGM.out, if_pos e1]
                have h2 : E = ([], 0, er) := by rw [HES.out, h1, if_pos e1]
                rw [HGE.out, h2, if_pos e1]
              have HGE2 := Lib.hid hGe
              clear hGe e1
              go_wp2_with fail
              have hrf : row? (w2.setRow w.heap.size #[Value.int IntKind.i64 0, Value.int IntKind.i64 0, Value.slice none 0 0]) w.heap.size = some #[Value.int IntKind.i64 0, Value.int IntKind.i64 0, Value.slice none 0 0] := by rw [row_setRow, if_pos rfl, hrr2]; rfl
              obtain ⟨tf, hhf⟩ := row_heap hrf
              refine bodyPost_ret (v := .tuple #[cusV 0 0 none 0 0, .int .i64 er]) (results_cell_tmp_row rfl _ _ w.heap.size tf _ (0, 0) _ _ rfl rfl hhf Tryd.underlying24 rfl (by kernel_rfl)) rfl ⟨below_setRow HB2.out (Nat.le_refl _) _, none, 0, by rw [HGE2.out]; rfl, by rw [HGE2.out]; exact ⟨rfl, fun j m hm => by simp at hm⟩⟩
            case pos =>
              subst e1
              obtain ⟨v, hv⟩ : ∃ v, v = off + u := ⟨_, rfl⟩
              have hvo : (off : Int) + (u : Int) = (v : Int) := by omega
              have hvn : v ≤ n := by omega
              by_cases e2 : n - v < 16
              · have e2' : (n : Int) - (v : Int) < 16 := by omega
                have hGe : G = (0, 0, [], 5) := by
                  have h1 : gm.2.2 = 5 := by rw [HGM.out, if_neg (by simp), if_pos (by omega)]
                  have h2 : E = ([], 0, 5) := by rw [HES.out, h1, if_pos (by decide)]
                  rw [HGE.out, h2, if_pos (by decide)]
                have HGE2 := Lib.hid hGe
                have HV := Lib.hid hv
                clear hGe e2 hv
                go_wp2_with fail
                have hrf : row? (w2.setRow w.heap.size #[Value.int IntKind.i64 0, Value.int IntKind.i64 0, Value.slice none 0 0]) w.heap.size = some #[Value.int IntKind.i64 0, Value.int IntKind.i64 0, Value.slice none 0 0] := by rw [row_setRow, if_pos rfl, hrr2]; rfl
                obtain ⟨tf, hhf⟩ := row_heap hrf
                refine bodyPost_ret (v := .tuple #[cusV 0 0 none 0 0, .int .i64 5]) (results_cell_tmp_row rfl _ _ w.heap.size tf _ (0, 0) _ _ rfl rfl hhf Tryd.underlying24 rfl (by kernel_rfl)) rfl ⟨below_setRow HB2.out (Nat.le_refl _) _, none, 0, by rw [HGE2.out]; rfl, by rw [HGE2.out]; exact ⟨rfl, fun j m hm => by simp at hm⟩⟩
              · have e2' : ¬ (n : Int) - (v : Int) < 16 := by omega
                have hst3 : ∀ (W : World) (g : Nat), storeRowK Tryd.prog 47 18 g #[Value.string ⟨nm.toArray⟩, Value.int IntKind.u8 0, Value.int IntKind.u8 0, Value.int IntKind.u8 0, Value.int IntKind.u8 0, Value.int IntKind.u8 0, Value.int IntKind.u8 0, Value.int IntKind.u8 0, Value.int IntKind.u8 0, Value.int IntKind.u8 0, Value.int IntKind.u8 0, Value.int IntKind.u8 0, Value.int IntKind.u8 0, Value.int IntKind.u8 0, Value.int IntKind.u8 0, Value.int IntKind.u8 0, Value.int IntKind.u8 0, Value.int IntKind.i64 0] W (some #[Value.string { data := #[] }, Value.int IntKind.u8 0, Value.int IntKind.u8 0, Value.int IntKind.u8 0, Value.int IntKind.u8 0, Value.int IntKind.u8 0, Value.int IntKind.u8 0, Value.int IntKind.u8 0, Value.int IntKind.u8 0, Value.int IntKind.u8 0, Value.int IntKind.u8 0, Value.int IntKind.u8 0, Value.int IntKind.u8 0, Value.int IntKind.u8 0, Value.int IntKind.u8 0, Value.int IntKind.u8 0, Value.int IntKind.u8 0, Value.int IntKind.i64 0]) = .ok () (W.setRow g #[Value.string ⟨nm.toArray⟩, Value.int IntKind.u8 0, Value.int IntKind.u8 0, Value.int IntKind.u8 0, Value.int IntKind.u8 0, Value.int IntKind.u8 0, Value.int IntKind.u8 0, Value.int IntKind.u8 0, Value.int IntKind.u8 0, Value.int IntKind.u8 0, Value.int IntKind.u8 0, Value.int IntKind.u8 0, Value.int IntKind.u8 0, Value.int IntKind.u8 0, Value.int IntKind.u8 0, Value.int IntKind.u8 0, Value.int IntKind.u8 0, Value.int IntKind.i64 0]) := fun W g => storeRowK_some _ _ _ _ _ _ _ rfl rfl (by simp [oneAll, Value.oneCell'])
                have HV := Lib.hid hv
                have HRR2 := Lib.hid hrr2
                clear hv hrr2
                go_wp2_with fail
                obtain ⟨q, hq⟩ : ∃ q, q = w2.heap.size := ⟨_, rfl⟩
                obtain ⟨NM, hNM⟩ : ∃ NM, NM = Value.string ⟨nm.toArray⟩ := ⟨_, rfl⟩
                have hQ0 : QDec wN p x0 x1 acc q (memV NM (List.replicate 16 0) (.int .i64 0)) (w2.alloc (.cells #[Value.string ⟨nm.toArray⟩, Value.int IntKind.u8 0, Value.int IntKind.u8 0, Value.int IntKind.u8 0, Value.int IntKind.u8 0, Value.int IntKind.u8 0, Value.int IntKind.u8 0, Value.int IntKind.u8 0, Value.int IntKind.u8 0, Value.int IntKind.u8 0, Value.int IntKind.u8 0, Value.int IntKind.u8 0, Value.int IntKind.u8 0, Value.int IntKind.u8 0, Value.int IntKind.u8 0, Value.int IntKind.u8 0, Value.int IntKind.u8 0, Value.int IntKind.i64 0] 47)) := by
                  have h := QDec.new (X := memV NM (List.replicate 16 0) (.int .i64 0)) HS2.out
                  rw [hq, hNM] at *
                  exact h
                have hB3 : Below w.heap.size w (w2.alloc (.cells #[Value.string ⟨nm.toArray⟩, Value.int IntKind.u8 0, Value.int IntKind.u8 0, Value.int IntKind.u8 0, Value.int IntKind.u8 0, Value.int IntKind.u8 0, Value.int IntKind.u8 0, Value.int IntKind.u8 0, Value.int IntKind.u8 0, Value.int IntKind.u8 0, Value.int IntKind.u8 0, Value.int IntKind.u8 0, Value.int IntKind.u8 0, Value.int IntKind.u8 0, Value.int IntKind.u8 0, Value.int IntKind.u8 0, Value.int IntKind.u8 0, Value.int IntKind.i64 0] 47)) := HB2.out.alloc (by omega) _
                have HQ0 := Lib.hid hQ0
                have HB3 := Lib.hid hB3
                have HNM := Lib.hid hNM
                rw [← hq]
                clear hQ0 hB3 hNM hst3 hsl
                obtain ⟨d, hd⟩ : ∃ d, d = (b.drop v).take 16 := ⟨_, rfl⟩
                have hdl : d.length = 16 := by rw [hd, List.length_take, List.length_drop, HN.out]; omega
                have HD := Lib.hid hd
                clear hd
                go_loopw [14] (fun v14 wr => ∃ k : Nat, k ≤ 16 ∧ v14 = .int .i64 k ∧ QDec wN p x0 x1 acc q (memV NM (d.take k ++ List.replicate (16 - k) 0) (.int .i64 0)) wr ∧ Below w.heap.size w wr) (fun v14 _ => 16 - (RowKit.intOf v14).toNat)
                case atStart => exact ⟨0, by omega, rfl, HQ0.out, HB3.out⟩
                case round =>
                  clear HQ0 HB3
                  obtain ⟨k, hk, rfl, hQ, hBk⟩ := hrel
                  have HQ := Lib.hid hQ
                  have HBk := Lib.hid hBk
                  have hpq := hQ.hq
                  have hrrk := (row_low hQ.base.low (show w.heap.size < p by omega)).trans HR0N.out
                  have hrbk := reads_low HRBN.out hwp hQ.base.low
                  by_cases h16 : k < 16
                  · have d16 : decide ((k : Int) < 16) = true := decide_eq_true (by omega)
                    obtain ⟨ad, hade, hcv⟩ := hrbk.at_ (v + k : Nat) (by omega) (by omega)
                    injection hade with hade; subst hade
                    rw [Int.toNat_natCast, add_plain] at hcv
                    obtain ⟨y, hy⟩ : ∃ y, y = d.getD k 0 := ⟨_, rfl⟩
                    have hyy : rd (bi b) (v + k : Nat) = (y.toNat : Int) := by
                      rw [hy, HD.out, rd, Int.toNat_natCast]
                      simp only [List.getD_eq_getElem?_getD, List.getElem?_take, h16, if_true, List.getElem?_drop, bi, List.getElem?_map]
                      rw [List.getElem?_eq_getElem (show v + k < b.length by rw [HN.out]; omega)]; rfl
                    rw [hyy] at hcv
                    have ck : wr.cell? ⟨q, 1 + k, none⟩ = some (.int .u8 (((d.take k ++ List.replicate (16 - k) 0).getD k 0).toNat : Int)) := by
                      rw [cell_of_row _ _ _ _ _ _ hQ.qb, memV, List.getElem?_toArray, Nat.add_comm 1 k, List.getElem?_cons_succ, List.getElem?_append_left (by rw [Lib.byteCells_length]; simp; omega)]
                      have := byteCells_at (d.take k ++ List.replicate (16 - k) 0) k (by simp; omega)
                      rwa [List.getElem?_toArray] at this
                    have fk : wr.frozen? ⟨q, 1 + k, none⟩ = false := frozen_of_row _ _ _ _ _ hQ.qb
                    have i0 : (0 : Int) ≤ (v : Int) + (k : Int) := by omega
                    have i1 : (v : Int) + (k : Int) < (n : Int) := by omega
                    have HY := Lib.hid hy
                    clear hQ hBk hrrk hrbk hy hyy hq
                    go_wp2_with fail
                    go_roundw
                    case rel => exact ⟨k + 1, by omega, by go_num, by
                      have e : (d.take k ++ List.replicate (16 - k) 0).set k (d.getD k 0) = d.take (k + 1) ++ List.replicate (16 - (k + 1)) 0 := by
                        have ht : (d.take k).length = k := by rw [List.length_take]; omega
                        rw [List.set_append_right _ _ (by omega), ht, Nat.sub_self, show 16 - k = (16 - (k + 1)) + 1 by omega, List.replicate_succ, List.set_cons_zero, List.take_succ_eq_append_getElem (by omega)]
                        have e : d.getD k 0 = d[k] := by simp [List.getD_eq_getElem?_getD, List.getElem?_eq_getElem (show k < d.length by omega)]
                        rw [e, List.append_assoc, List.singleton_append]
                      have h := HQ.out.set ((memV NM (d.take k ++ List.replicate (16 - k) 0) (.int .i64 0)).setIfInBounds (1 + k) (.int .u8 (y.toNat : Int)))
                      rw [memV_put _ _ _ k y _ rfl (by simp; omega), HY.out, e] at h
                      rw [setCell_eq_setRow _ _ _ _ _ _ _ HQ.out.qb, memV_put _ _ _ k y _ rfl (by simp; omega), HY.out, e]
                      exact h, by
                      exact HBk.out.setCell (by show w.heap.size ≤ q; omega) _⟩
                    case measure => simp [RowKit.intOf]; omega
                  · have d16 : decide ((k : Int) < 16) = false := decide_eq_false (by omega)
                    obtain rfl : k = 16 := by omega
                    rw [Nat.sub_self, List.replicate_zero, List.append_nil, List.take_of_length_le (by omega)] at HQ
                    clear hQ hBk
                    obtain ⟨v2, hv2⟩ : ∃ v2, v2 = v + 16 := ⟨_, rfl⟩
                    have hv2i : (v : Int) + 16 = (v2 : Int) := by omega
                    have hv2n : v2 ≤ n := by omega
                    obtain ⟨ii, hii, hsz⟩ := infoU8'
                    obtain ⟨A3, hsl, hA3⟩ := print_cut (P := Tryd.prog) 56 5 .i64 Tryd.underlying56 hii hsz (some ⟨w.heap.size + 1, 0, none⟩) n cap v2 hv2n
                    have hR3 := hA3 wr .u8 (bi b) hcap2 hrbk
                    rw [bi_drop] at hR3
                    have hld : (b.drop v2).length = n - v2 := by rw [List.length_drop, HN.out]
                    have hGI := rgetInt_any A3 (cap - v2) (b.drop v2) wr (by rw [hld]; exact hR3) (by rw [hld]; omega) (by rw [hld]; omega)
                    rw [hld] at hGI
                    have hile := gInt_le (b.drop v2)
                    rw [hld] at hile
                    have hgm := HGM.out
                    rw [show off + u + 16 = v2 by rw [hv2, ← HV.out], show off + u = v from HV.out.symm, ← HD.out] at hgm
                    obtain ⟨⟨hh, o, er⟩, hgi⟩ : ∃ g, g = gInt (b.drop v2) := ⟨_, rfl⟩
                    rw [← hgi] at hGI hile hgm
                    simp only [] at hGI hile hgm
                    have HGM2 := Lib.hid hgm
                    have HGI := Lib.hid hGI
                    have HV2 := Lib.hid hv2
                    have HRBK := Lib.hid hrbk
                    have hqw : w.heap.size ≤ q := by omega
                    clear hgi hgm hGI hR3 hA3 hii hsz hld hv2 HGM hrbk hq
                    go_wp2_with fail
                    refine HGI.out.mono ?_
                    rintro e w4 ⟨rfl, hB4⟩
                    have hrr4 := rk_b' hB4 hrrk
                    have HQ4 := Lib.hid (HQ.out.later hB4)
                    have HB4 := Lib.hid (HBk.out.trans (hB4.mono HBk.out.size))
                    clear hB4 HQ hrrk HBk HRBK
                    by_cases e3 : er = 0
                    case neg =>
                      have e3' : (er != 0) = true := by simpa using e3
                      have hGe : G = (0, 0, [], er) := by
                        have h1 : gm.2.2 = er := by rw [HGM2.out, if_neg (by simp), if_neg (by have := HV.out; omega), if_pos e3]
                        have h2 : E = ([], 0, er) := by rw [HES.out, h1, if_pos e3]
                        rw [HGE.out, h2, if_pos e3]
                      have HGE2 := Lib.hid hGe
                      clear hGe e3
                      go_wp2_with fail
                      have hrf : row? (w4.setRow w.heap.size #[Value.int IntKind.i64 0, Value.int IntKind.i64 0, Value.slice none 0 0]) w.heap.size = some #[Value.int IntKind.i64 0, Value.int IntKind.i64 0, Value.slice none 0 0] := by rw [row_setRow, if_pos rfl, hrr4]; rfl
                      obtain ⟨tf, hhf⟩ := row_heap hrf
                      refine bodyPost_ret (v := .tuple #[cusV 0 0 none 0 0, .int .i64 er]) (results_cell_tmp_row rfl _ _ w.heap.size tf _ (0, 0) _ _ rfl rfl hhf Tryd.underlying24 rfl (by kernel_rfl)) rfl ⟨below_setRow HB4.out (Nat.le_refl _) _, none, 0, by rw [HGE2.out]; rfl, by rw [HGE2.out]; exact ⟨rfl, fun j m hm => by simp at hm⟩⟩
                    case pos =>
                      subst e3
                      have hgm : gm = (⟨⟨nm.toArray⟩, d, hh⟩, u + 16 + o, 0) := by rw [HGM2.out, if_neg (by simp), if_neg (by have := HV.out; omega), if_neg (by simp)]
                      have hE2 : E = gMems b (M - (i + 1)) (acc ++ [⟨⟨nm.toArray⟩, d, hh⟩]) (off + (u + 16 + o)) := by rw [HES.out, hgm]; simp
                      have hok := HOK.out
                      rw [hgm] at hok
                      simp only [] at hok
                      obtain ⟨mm, hmm⟩ : ∃ mm : Mem, mm = ⟨⟨nm.toArray⟩, d, hh⟩ := ⟨_, rfl⟩
                      rw [← hmm] at hE2
                      have hmr : memV NM d (.int .i64 hh) = (memRow mm).toArray := by rw [hmm, memV, memRow, HNM.out]
                      have hmok : mm.name.size ≤ 1099511627776 ∧ in64 mm.ht := by rw [hmm]; exact ⟨Nat.le_trans hok.1 (by omega), hok.2⟩
                      have hmp : mm.pub.length = 16 := by rw [hmm]; exact hdl
                      have HE2 := Lib.hid hE2
                      have HMR := Lib.hid hmr
                      have HMOK := Lib.hid hmok
                      have cq : w4.cell? ⟨q, 17, none⟩ = some (.int .i64 0) := by
                        rw [cell_of_row _ _ _ _ _ _ HQ4.out.qb, memV, List.getElem?_toArray, List.getElem?_cons_succ, List.getElem?_append_right (by rw [Lib.byteCells_length]; omega), Lib.byteCells_length, hdl]; rfl
                      have fq : w4.frozen? ⟨q, 17, none⟩ = false := frozen_of_row _ _ _ _ _ HQ4.out.qb
                      clear hgm hE2 hok hmr hmok hmm
                      go_upto_region 30 with fail
                      obtain ⟨w5, hw5⟩ : ∃ w5, w5 = w4.setCell ⟨q, 17, none⟩ (.int .i64 hh) := ⟨_, rfl⟩
                      have hQ5 : QDec wN p x0 x1 acc q (memRow mm).toArray w5 := by
                        have h := HQ4.out.set ((memV NM d (.int .i64 0)).setIfInBounds 17 (.int .i64 hh))
                        rw [memV_ht _ _ _ _ hdl, HMR.out] at h
                        rw [hw5, setCell_eq_setRow _ _ _ _ _ _ _ HQ4.out.qb, memV_ht _ _ _ _ hdl, HMR.out]
                        exact h
                      have hB5 : Below w.heap.size w w5 := by rw [hw5]; exact HB4.out.setCell (by show w.heap.size ≤ q; omega) _
                      rw [← hw5]
                      clear hw5 cq fq
                      obtain ⟨Am, cm, hpr, hown⟩ := hQ5.base.row
                      have cp : w5.cell? ⟨p, 2, none⟩ = some (.slice Am acc.length cm) := by rw [cell_of_row _ _ _ _ _ _ hpr]; rfl
                      have hqb := hQ5.qb
                      have h47 : (Tryd.prog.info? 47).map (·.size) = some (memRow mm).toArray.size := by rw [List.size_toArray, memRow_length mm hmp]; kernel_rfl
                      have HQ5 := Lib.hid hQ5
                      have HB5 := Lib.hid hB5
                      have HPR := Lib.hid hpr
                      have HOWN := Lib.hid hown
                      have hpl := HQ5.out.base.hp
                      have hfold : List.foldl (fun (cs : Array Value) (x : Value × Nat) => cs.setIfInBounds x.2 x.1) #[Value.string { data := #[] }, Value.int IntKind.u8 0, Value.int IntKind.u8 0, Value.int IntKind.u8 0, Value.int IntKind.u8 0, Value.int IntKind.u8 0, Value.int IntKind.u8 0, Value.int IntKind.u8 0, Value.int IntKind.u8 0, Value.int IntKind.u8 0, Value.int IntKind.u8 0, Value.int IntKind.u8 0, Value.int IntKind.u8 0, Value.int IntKind.u8 0, Value.int IntKind.u8 0, Value.int IntKind.u8 0, Value.int IntKind.u8 0, Value.int IntKind.i64 0] (memRow mm).zipIdx = (memRow mm).toArray :=
                        fold_cells (memRow mm) [] (Value.string ⟨#[]⟩ :: (List.replicate 16 (Value.int IntKind.u8 0) ++ [Value.int IntKind.i64 0])) (by rw [memRow_length mm hmp]; rfl)
                      obtain ⟨z, hzi, hzs⟩ := infoMem
                      have hml := memRow_length mm hmp
                      have hone : ∀ u ∈ memRow mm, u.oneCell' = true := fun u hu => (Array.all_eq_true_iff_forall_mem.1 (memRow_one mm)) u (by simpa using hu)
                      have HZI := Lib.hid hzi
                      have HML := Lib.hid hml
                      have HONE := Lib.hid hone
                      clear hQ5 hB5 hpr hown hzi hone
                      go_wp2_with (first
                        | ((with_reducible show wpList _ _ _ (⟨some 117, _, _, _, _, _⟩ :: _) _ _); go_must (refine wpList_load_row rfl 47 (.tmp 13) rfl q rfl 47 _ (0, 0) _ hqb Tryd.underlying47 rfl h47 ?_))
                        | (at_builtin; go_must (refine print_append_cells (w0 := w5) (p + 1) rfl (.tmp 116) (.tmp 118) 22 47 z 18 40 rfl Tryd.underlying22 HZI.out hzs (by decide) (by decide) _ acc.length ((acc.map memRow).flatten) (memRow mm) rfl rfl HML.out HONE.out HOWN.out (Below.refl _ _) (by omega) (by have := HACC.out; omega) ?_); intro v6 w6 hown6 hB6 hg6 hat6; clear hg6 hat6; obtain ⟨A6, c6, rfl⟩ := own_slice hown6; have hp6 := (hB6.block p (by omega)).trans HPR.out; have cp6 : w6.cell? ⟨p, 2, none⟩ = some (.slice Am acc.length cm) := (by rw [cell_of_row _ _ _ _ _ _ hp6]; rfl); have fp6 : w6.frozen? ⟨p, 2, none⟩ = false := frozen_of_row _ _ _ _ _ hp6))
                      have hz6 := hB6.size
                      have hlow6 : Below p wN w6 := HQ5.out.base.low.trans (hB6.mono (by omega))
                      have hS6 : RDec wN p x0 x1 (acc ++ [mm]) (w6.setCell ⟨p, 2, none⟩ (.slice A6 (acc.length + 1) c6)) := by
                        refine ⟨hlow6.setCell (Nat.le_refl _) _, ⟨A6, c6, ?_, ?_⟩, ?_, ?_, by simpa [World.setCell] using (by omega : p < w6.heap.size)⟩
                        · rw [setCell_eq_setRow _ _ _ _ _ _ _ hp6, setRow_heap _ _ _ _ _ _ hp6]; simp
                        · rw [show (acc ++ [mm]).length = acc.length + 1 by simp, show ((acc ++ [mm]).map memRow).flatten = (acc.map memRow).flatten ++ memRow mm by simp]
                          refine ⟨hown6.1, ?_⟩
                          rcases hown6.2 with h3 | ⟨g, cap', cur, e, hg, hc, r⟩
                          · exact .inl h3
                          · refine .inr ⟨g, cap', cur, e, hg, ?_, r⟩
                            rw [heap_setCell_other _ _ _ _ (by show g ≠ p; omega)]; exact hc
                        · intro m hm
                          rcases List.mem_append.1 hm with hm | hm
                          · exact HQ5.out.base.pub m hm
                          · rw [List.mem_singleton.1 hm]; exact hmp
                        · intro m hm
                          rcases List.mem_append.1 hm with hm | hm
                          · exact HQ5.out.base.ok m hm
                          · rw [List.mem_singleton.1 hm]; exact HMOK.out
                      have HS6 := Lib.hid hS6
                      clear hS6 hlow6 hown6 hB6 hp6 cp6 fp6 hfold
                      go_roundw
                      case rel => exact ⟨i + 1, v2 + o, acc ++ [mm], by omega, by go_num, by go_num, by omega, by rw [List.length_append, HACC.out]; rfl, by rw [HE2.out]; congr 1; have := HV.out; have := HV2.out; omega, HS6.out⟩
                      case measure => simp [RowKit.intOf]; omega
          · have d1 : decide ((i : Int) < (M : Int)) = false := decide_eq_false (by omega)
            obtain rfl : i = M := by omega
            obtain ⟨Am, cm, hpr, hown⟩ := HS.out.row
            have hrp : row? wr p = some #[Value.int IntKind.i64 x0, Value.int IntKind.i64 x1, Value.slice Am acc.length cm] := row_of hpr
            have hE2 : E = (acc, off, 0) := by rw [HEI.out, Nat.sub_self]; rfl
            rw [hE2] at HGE
            simp only [] at HGE
            obtain ⟨vb, hvb⟩ : ∃ vb, vb = validB x0 x1 acc := ⟨_, rfl⟩
            have hrm : ReadsMem wr Am acc.length acc := by
              refine ⟨rfl, fun j m hm => ⟨HS.out.pub m (List.mem_of_getElem? hm), ?_⟩⟩
              have hja := (List.getElem?_eq_some_iff.1 hm).1
              obtain ⟨g, cap', e, -, -⟩ := hown.form (by omega)
              injection e with e1 e2 e3
              subst e1
              refine ⟨_, rfl, fun k u hu => ?_⟩
              have := hown.cells (g := g) rfl (j * 18 + k) u (flat_get acc HS.out.pub j m k u hm hu)
              exact this
            have hacl : acc.length ≤ 1099511627776 := by have := HACC.out; omega
            have hok : ∀ x ∈ acc, x.name.size ≤ maxLen ∧ in64 x.ht := fun x hx => ⟨Nat.le_trans (HS.out.ok x hx).1 (by decide), (HS.out.ok x hx).2⟩
            have hfar : acc = [] ∨ ∃ ad, Am = some ad ∧ ad.block ≠ w.heap.size := by
              rcases Nat.eq_zero_or_pos acc.length with h0 | h0
              · exact .inl (List.eq_nil_of_length_eq_zero h0)
              · obtain ⟨g, cap', e, hg, -⟩ := hown.form h0
                injection e with e1 e2 e3
                exact .inr ⟨_, e1, by show g ≠ _; omega⟩
            have HFAR := Lib.hid hfar
            have HRM := Lib.hid hrm
            have HOK := Lib.hid hok
            have HRP := Lib.hid hrp
            have HVB := Lib.hid hvb
            rw [← hvb] at HGE
            clear hpr hown hE2 hvb hrm hok HEI HS hfar
            go_wp2_with fail
            refine (rvalid_any x0 x1 Am cm acc wr HRM.out HOK.out hacl).mono ?_
            rintro e w5 ⟨rfl, hB5⟩
            rw [← HVB.out]
            have hrr := rk_b' hB5 HRR.out
            have hrp5 := rk_b' hB5 HRP.out
            have HRM5 := Lib.hid (HRM.out.below hB5)
            have HB5 := Lib.hid (HBw.out.trans (hB5.mono HBw.out.size))
            clear hB5 hrp HRR HBw HRM HRBr l2
            by_cases e4 : off < n ∨ vb = false
            · have hGe : G = (0, 0, [], 6) := by rw [HGE.out, if_neg (by simp), HN.out, if_pos e4]
              have HGE2 := Lib.hid hGe
              clear hGe
              rcases (show ((off : Int) != (n : Int)) = true ∨ (((off : Int) != (n : Int)) = false ∧ vb = false) by
                rcases Nat.lt_or_ge off n with h | h
                · left; rw [bne_iff_ne]; omega
                · right
                  refine ⟨by rw [bne_eq_false_iff_eq]; omega, ?_⟩
                  rcases e4 with h4 | h4
                  · omega
                  · exact h4) with e5 | ⟨e5, rfl⟩
              all_goals
                clear e4
                go_wp2_with fail
                have hrf : row? (w5.setRow w.heap.size #[Value.int IntKind.i64 0, Value.int IntKind.i64 0, Value.slice none 0 0]) w.heap.size = some #[Value.int IntKind.i64 0, Value.int IntKind.i64 0, Value.slice none 0 0] := by rw [row_setRow, if_pos rfl, hrr]; rfl
                obtain ⟨tf, hhf⟩ := row_heap hrf
                refine bodyPost_ret (v := .tuple #[cusV 0 0 none 0 0, .int .i64 6]) (results_cell_tmp_row rfl _ _ w.heap.size tf _ (0, 0) _ _ rfl rfl hhf Tryd.underlying24 rfl (by kernel_rfl)) rfl ⟨below_setRow HB5.out (Nat.le_refl _) _, none, 0, by rw [HGE2.out]; rfl, by rw [HGE2.out]; exact ⟨rfl, fun j m hm => by simp at hm⟩⟩
            · have hGe : G = (x0, x1, acc, 0) := by rw [HGE.out, if_neg (by simp), HN.out, if_neg e4]
              have e5 : ((off : Int) != (n : Int)) = false := by rw [bne_eq_false_iff_eq]; have := fun h => e4 (.inl h); omega
              have e6 : vb = true := by
                cases vb with
                | true => rfl
                | false => exact absurd (.inr rfl) e4
              subst e6
              have HGE2 := Lib.hid hGe
              have hst4 : ∀ (W : World) (g : Nat), storeRowK Tryd.prog 24 3 g #[Value.int IntKind.i64 x0, Value.int IntKind.i64 x1, Value.slice Am acc.length cm] W (some #[Value.int IntKind.i64 0, Value.int IntKind.i64 0, Value.slice none 0 0]) = .ok () (W.setRow g #[Value.int IntKind.i64 x0, Value.int IntKind.i64 x1, Value.slice Am acc.length cm]) := fun W g => storeRowK_some _ _ _ _ _ _ _ rfl rfl (by simp [oneAll, Value.oneCell'])
              clear hGe e4
              go_wp2_with fail
              have hrf : row? (w5.setRow w.heap.size #[Value.int IntKind.i64 x0, Value.int IntKind.i64 x1, Value.slice Am acc.length cm]) w.heap.size = some #[Value.int IntKind.i64 x0, Value.int IntKind.i64 x1, Value.slice Am acc.length cm] := by rw [row_setRow, if_pos rfl, hrr]; rfl
              obtain ⟨tf, hhf⟩ := row_heap hrf
              refine bodyPost_ret (v := .tuple #[cusV x0 x1 Am acc.length cm, .int .i64 0]) (results_cell_tmp_row rfl _ _ w.heap.size tf _ (0, 0) _ _ rfl rfl hhf Tryd.underlying24 rfl (by kernel_rfl)) rfl ⟨below_setRow HB5.out (Nat.le_refl _) _, Am, cm, by rw [HGE2.out], ?_⟩
              rw [HGE2.out]
              exact HRM5.out.setRow _ _ HFAR.out
end Go.Proofs.YtbgijijecipjeaaDoor
namespace Go.Proofs.YtbgijijecipjeaaDoor
open Go.RowKit Go.Proofs.YtbgijijecipjeaaDoorW.PrintWords

theorem three_of : ∀ {l : List Int}, l.length = 3 → ∃ a b c, l = [a, b, c]
  | [a, b, c], _ => ⟨a, b, c, rfl⟩
theorem gInt_inv (b : List UInt8) (h : (gInt b).2.2 = 0) : wInt (gInt b).1 = b.take (gInt b).2.1 := by
  cases b with
  | nil => cases h
  | cons x r =>
    rcases gInt_cases x r with e | e | ⟨h1, h2, h3, h4, e⟩
    · rw [e] at h; cases h
    · rw [e] at h; cases h
    · rw [e]
      have := (rgInt_same x r h1 h2 h4).2 (fun hz => h3 hz.1 hz.2)
      rw [numB] at this
      exact this
theorem gBytes_inv (b : List UInt8) (h : (gBytes b).2.2 = 0) : wBytes (gBytes b).1 = b.take (gBytes b).2.1 := by
  unfold gBytes at h ⊢
  by_cases c : (gCount b 1).2.2 ≠ 0
  · rw [if_pos c] at h; exact absurd h c
  · rw [if_neg c]
    obtain ⟨h1, h2, h3, h4, h5⟩ := gCount_ok b 1 (by decide) (by simpa using c)
    have hi := gInt_inv b h1
    rw [h2] at h4 h5 ⊢
    rw [h3] at h5 ⊢
    have hl : ((b.drop (gInt b).2.1).take (gInt b).1.toNat).length = (gInt b).1.toNat := by rw [List.length_take, List.length_drop]; omega
    show wBytes ((b.drop (gInt b).2.1).take (gInt b).1.toNat) = b.take ((gInt b).2.1 + (gInt b).1.toNat)
    rw [wBytes, hl, show (((gInt b).1.toNat : Nat) : Int) = (gInt b).1 by omega, hi, List.take_add]
theorem gIntsA_inv (b : List UInt8) (n : Nat) : ∀ acc at_, at_ ≤ b.length → (gIntsA b n acc at_).2.2 = 0 → ∃ new, (gIntsA b n acc at_).1 = acc ++ new ∧ new.length = n ∧ at_ ≤ (gIntsA b n acc at_).2.1 ∧ wMany new = (b.drop at_).take ((gIntsA b n acc at_).2.1 - at_) := by
  induction n with
  | zero => intro acc at_ _ _; exact ⟨[], by simp [gIntsA], rfl, Nat.le_refl _, by simp [gIntsA, wMany]⟩
  | succ n ih =>
    intro acc at_ ha h
    unfold gIntsA at h ⊢
    by_cases c : (gInt (b.drop at_)).2.2 ≠ 0
    · rw [if_pos c] at h; exact absurd h c
    · rw [if_neg c] at h ⊢
      have hle := gInt_le (b.drop at_)
      rw [List.length_drop] at hle
      obtain ⟨new, e1, e2, e3, e4⟩ := ih _ _ (by omega) h
      have hi := gInt_inv (b.drop at_) (by simpa using c)
      refine ⟨(gInt (b.drop at_)).1 :: new, by rw [e1]; simp, by simp [e2], by omega, ?_⟩
      rw [show wMany ((gInt (b.drop at_)).1 :: new) = wInt (gInt (b.drop at_)).1 ++ wMany new by simp [wMany], hi, e4]
      obtain ⟨z, hz⟩ : ∃ z, (gIntsA b n (acc ++ [(gInt (b.drop at_)).1]) (at_ + (gInt (b.drop at_)).2.1)).2.1 = at_ + (gInt (b.drop at_)).2.1 + z := ⟨_, (Nat.add_sub_cancel' e3).symm⟩
      rw [hz, show at_ + (gInt (b.drop at_)).2.1 + z - (at_ + (gInt (b.drop at_)).2.1) = z by omega, show at_ + (gInt (b.drop at_)).2.1 + z - at_ = (gInt (b.drop at_)).2.1 + z by omega, ← List.drop_drop, ← List.take_add]
theorem gInts_inv (b : List UInt8) (h : (gInts b).2.2 = 0) : wInts (gInts b).1 = b.take (gInts b).2.1 := by
  unfold gInts at h ⊢
  by_cases c : (gCount b 1).2.2 ≠ 0
  · rw [if_pos c] at h; exact absurd h c
  · rw [if_neg c] at h ⊢
    obtain ⟨h1, h2, h3, h4, h5⟩ := gCount_ok b 1 (by decide) (by simpa using c)
    have hi := gInt_inv b h1
    rw [h2] at h4 h5 h ⊢
    rw [h3] at h5 h ⊢
    obtain ⟨new, e1, e2, e3, e4⟩ := gIntsA_inv b (gInt b).1.toNat [] (gInt b).2.1 (by omega) h
    rw [e1, List.nil_append, wInts, e2, show (((gInt b).1.toNat : Nat) : Int) = (gInt b).1 by omega, hi, e4, ← List.take_add]
    congr 1; omega
theorem gMem_inv (b : List UInt8) (h : (gMem b).2.2 = 0) : memW (gMem b).1 = b.take (gMem b).2.1 ∧ (gMem b).2.1 ≤ b.length := by
  have hbl := gBytes_le b
  unfold gMem at h ⊢
  by_cases g1 : (gBytes b).2.2 ≠ 0
  · rw [if_pos g1] at h; exact absurd h g1
  · rw [if_neg g1] at h ⊢
    by_cases g2 : b.length - (gBytes b).2.1 < 16
    · rw [if_pos g2] at h; cases h
    · rw [if_neg g2] at h ⊢
      by_cases g3 : (gInt (b.drop ((gBytes b).2.1 + 16))).2.2 ≠ 0
      · rw [if_pos g3] at h; exact absurd h g3
      · rw [if_neg g3]
        have i1 := gBytes_inv b (by simpa using g1)
        have i2 := gInt_inv (b.drop ((gBytes b).2.1 + 16)) (by simpa using g3)
        have hle := gInt_le (b.drop ((gBytes b).2.1 + 16))
        rw [List.length_drop] at hle
        refine ⟨?_, by show _ ≤ b.length; dsimp only; omega⟩
        show wBytes (gBytes b).1.toArray.toList ++ (b.drop (gBytes b).2.1).take 16 ++ wInt (gInt (b.drop ((gBytes b).2.1 + 16))).1 = b.take ((gBytes b).2.1 + 16 + (gInt (b.drop ((gBytes b).2.1 + 16))).2.1)
        rw [List.toList_toArray, i1, i2, ← List.take_add, ← List.take_add]
theorem gMems_inv (b : List UInt8) (n : Nat) : ∀ acc off, off ≤ b.length → (gMems b n acc off).2.2 = 0 → ∃ new, (gMems b n acc off).1 = acc ++ new ∧ new.length = n ∧ off ≤ (gMems b n acc off).2.1 ∧ (gMems b n acc off).2.1 ≤ b.length ∧ memsW new = (b.drop off).take ((gMems b n acc off).2.1 - off) := by
  induction n with
  | zero => intro acc off ho _; exact ⟨[], by simp [gMems], rfl, Nat.le_refl _, ho, by simp [gMems, memsW]⟩
  | succ n ih =>
    intro acc off ha h
    unfold gMems at h ⊢
    by_cases c : (gMem (b.drop off)).2.2 ≠ 0
    · rw [if_pos c] at h; exact absurd h c
    · rw [if_neg c] at h ⊢
      obtain ⟨hi, hle⟩ := gMem_inv (b.drop off) (by simpa using c)
      rw [List.length_drop] at hle
      obtain ⟨new, e1, e2, e3, e5, e4⟩ := ih _ _ (by omega) h
      refine ⟨(gMem (b.drop off)).1 :: new, by rw [e1]; simp, by simp [e2], by omega, e5, ?_⟩
      rw [show memsW ((gMem (b.drop off)).1 :: new) = memW (gMem (b.drop off)).1 ++ memsW new by simp [memsW], hi, e4]
      obtain ⟨z, hz⟩ : ∃ z, (gMems b n (acc ++ [(gMem (b.drop off)).1]) (off + (gMem (b.drop off)).2.1)).2.1 = off + (gMem (b.drop off)).2.1 + z := ⟨_, (Nat.add_sub_cancel' e3).symm⟩
      rw [hz, show off + (gMem (b.drop off)).2.1 + z - (off + (gMem (b.drop off)).2.1) = z by omega, show off + (gMem (b.drop off)).2.1 + z - off = (gMem (b.drop off)).2.1 + z by omega, ← List.drop_drop, ← List.take_add]
/-- What is decoded is the encoding of what comes out. -/
theorem gDec_inv (b : List UInt8) (h : (gDec b).2.2.2 = 0) : cusW (gDec b).1 (gDec b).2.1 (gDec b).2.2.1 = b := by
  have hil := gInts_le b
  unfold gDec at h ⊢
  by_cases c1 : (gInts b).2.2 ≠ 0
  · rw [if_pos c1] at h; exact absurd h c1
  · rw [if_neg c1] at h ⊢
    by_cases c2 : (gInts b).1.length ≠ 3 ∨ (gInts b).1.getD 2 0 < 1 ∨ 16 < (gInts b).1.getD 2 0
    · rw [if_pos c2] at h; cases h
    · rw [if_neg c2] at h ⊢
      by_cases c3 : (gMems b ((gInts b).1.getD 2 0).toNat [] (gInts b).2.1).2.2 ≠ 0
      · rw [if_pos c3] at h; exact absurd h c3
      · rw [if_neg c3] at h ⊢
        by_cases c4 : (gMems b ((gInts b).1.getD 2 0).toNat [] (gInts b).2.1).2.1 < b.length ∨ validB ((gInts b).1.getD 0 0) ((gInts b).1.getD 1 0) (gMems b ((gInts b).1.getD 2 0).toNat [] (gInts b).2.1).1 = false
        · rw [if_pos c4] at h; cases h
        · rw [if_neg c4]
          have i1 := gInts_inv b (by simpa using c1)
          obtain ⟨new, e1, e2, e3, e5, e4⟩ := gMems_inv b ((gInts b).1.getD 2 0).toNat [] (gInts b).2.1 hil (by simpa using c3)
          have hl3 : (gInts b).1.length = 3 := by
            rcases Nat.lt_or_ge (gInts b).1.length 3 with h | h
            · exact absurd (Or.inl (by omega)) c2
            · rcases Nat.lt_or_ge 3 (gInts b).1.length with h' | h'
              · exact absurd (Or.inl (by omega)) c2
              · omega
          have hge : ¬ (gMems b ((gInts b).1.getD 2 0).toNat [] (gInts b).2.1).2.1 < b.length := fun h => c4 (.inl h)
          obtain ⟨x0, x1, x2, hx⟩ := three_of hl3
          have hx2 : ¬ x2 < 1 := fun hh => c2 (.inr (.inl (by rw [hx]; exact hh)))
          have g0 : (gInts b).1.getD 0 0 = x0 := by rw [hx]; rfl
          have g1 : (gInts b).1.getD 1 0 = x1 := by rw [hx]; rfl
          have g2 : (gInts b).1.getD 2 0 = x2 := by rw [hx]; rfl
          rw [hx] at i1
          rw [g2] at e1 e2 e3 e4 e5 hge
          rw [g0, g1, g2]
          show cusW x0 x1 (gMems b x2.toNat [] (gInts b).2.1).1 = b
          rw [e1, List.nil_append, cusW, e2, show ((x2.toNat : Nat) : Int) = x2 by omega, i1, e4, ← List.take_add]
          exact List.take_of_length_le (by omega)
/-! Forward. -/
theorem gCount_wInt (n : Nat) (sz : Nat) (rest : List UInt8) (hn : n < 9223372036854775808) (h : n * sz ≤ rest.length) (hs : 0 < sz) : gCount (wInt (n : Int) ++ rest) sz = ((n : Int), (wInt (n : Int)).length, 0) := by
  have hg := gInt_wInt (n : Int) (by omega) (by omega) rest
  unfold gCount
  rw [hg, if_neg (by simp), if_neg (by dsimp only; omega), if_neg]
  dsimp only
  rw [List.length_append, Nat.add_sub_cancel_left]
  have := (Nat.le_div_iff_mul_le hs).2 h
  omega
theorem gBytes_wBytes (l rest : List UInt8) (hl : l.length < 9223372036854775808) : gBytes (wBytes l ++ rest) = (l, (wBytes l).length, 0) := by
  have hc := gCount_wInt l.length 1 (l ++ rest) hl (by simp) (by decide)
  rw [← List.append_assoc] at hc
  unfold gBytes
  rw [show wBytes l = wInt (l.length : Int) ++ l from rfl, hc, if_neg (by simp)]
  simp
theorem gIntsA_wMany (l : List Int) : ∀ (pre rest : List UInt8) (acc : List Int), (∀ x ∈ l, in64 x) → gIntsA (pre ++ (wMany l ++ rest)) l.length acc pre.length = (acc ++ l, pre.length + (wMany l).length, 0) := by
  induction l with
  | nil => intro pre rest acc _; simp [gIntsA, wMany]
  | cons x l ih =>
    intro pre rest acc h
    have hx := h x (List.mem_cons_self ..)
    have e : wMany (x :: l) = wInt x ++ wMany l := by simp [wMany]
    have hg := gInt_wInt x hx.1 hx.2 (wMany l ++ rest)
    rw [e, List.length_cons, gIntsA, List.drop_left, List.append_assoc, hg, if_neg (by simp)]
    have := ih (pre ++ wInt x) rest (acc ++ [x]) (fun y hy => h y (List.mem_cons_of_mem _ hy))
    rw [List.append_assoc, List.length_append] at this
    rw [this]
    simp [Nat.add_assoc]
theorem gInts_wInts (l : List Int) (rest : List UInt8) (h : ∀ x ∈ l, in64 x) (hl : l.length < 9223372036854775808) : gInts (wInts l ++ rest) = (l, (wInts l).length, 0) := by
  have hlen : l.length ≤ (wMany l).length := by
    clear h hl
    induction l with
    | nil => simp
    | cons x l ih =>
      have : 1 ≤ (wInt x).length := by rw [wInt_length]; omega
      rw [show wMany (x :: l) = wInt x ++ wMany l by simp [wMany], List.length_append, List.length_cons]; omega
  have hc := gCount_wInt l.length 1 (wMany l ++ rest) hl (by rw [List.length_append]; omega) (by decide)
  unfold gInts
  rw [show wInts l ++ rest = wInt (l.length : Int) ++ (wMany l ++ rest) by rw [wInts, List.append_assoc], hc, if_neg (by simp)]
  have := gIntsA_wMany l (wInt (l.length : Int)) rest [] h
  simp only [Int.toNat_natCast]
  rw [this, List.nil_append, wInts, List.length_append]
theorem gMem_memW (m : Mem) (rest : List UInt8) (hp : m.pub.length = 16) (hn : m.name.size < 9223372036854775808) (hh : in64 m.ht) : gMem (memW m ++ rest) = (m, (memW m).length, 0) := by
  have hb := gBytes_wBytes m.name.data.toList (m.pub ++ (wInt m.ht ++ rest)) (by rw [data_length]; exact hn)
  have hg := gInt_wInt m.ht hh.1 hh.2 rest
  have e : memW m ++ rest = wBytes m.name.data.toList ++ (m.pub ++ (wInt m.ht ++ rest)) := by simp [memW]
  have d1 : (wBytes m.name.data.toList ++ (m.pub ++ (wInt m.ht ++ rest))).drop (wBytes m.name.data.toList).length = m.pub ++ (wInt m.ht ++ rest) := List.drop_left
  have d2 : (wBytes m.name.data.toList ++ (m.pub ++ (wInt m.ht ++ rest))).drop ((wBytes m.name.data.toList).length + 16) = wInt m.ht ++ rest := by
    rw [← List.drop_drop, d1, ← hp, List.drop_left]
  unfold gMem
  rw [e, hb, if_neg (by simp), if_neg (by rw [List.length_append, List.length_append]; dsimp only; omega), d2, hg, if_neg (by simp), d1]
  dsimp only
  rw [show (m.pub ++ (wInt m.ht ++ rest)).take 16 = m.pub by rw [← hp, List.take_left]]
  rw [show (wBytes m.name.data.toList).length + 16 + (wInt m.ht).length = (memW m).length by rw [memW, List.length_append, List.length_append, hp]]
theorem gMems_memsW (ms : List Mem) : ∀ (pre rest : List UInt8) (acc : List Mem), (∀ m ∈ ms, m.pub.length = 16 ∧ m.name.size < 9223372036854775808 ∧ in64 m.ht) → gMems (pre ++ (memsW ms ++ rest)) ms.length acc pre.length = (acc ++ ms, pre.length + (memsW ms).length, 0) := by
  induction ms with
  | nil => intro pre rest acc _; simp [gMems, memsW]
  | cons x ms ih =>
    intro pre rest acc h
    have hx := h x (List.mem_cons_self ..)
    have e : memsW (x :: ms) = memW x ++ memsW ms := by simp [memsW]
    have hg := gMem_memW x (memsW ms ++ rest) hx.1 hx.2.1 hx.2.2
    rw [e, List.length_cons, gMems, List.drop_left, List.append_assoc, hg, if_neg (by simp)]
    have := ih (pre ++ memW x) rest (acc ++ [x]) (fun y hy => h y (List.mem_cons_of_mem _ hy))
    rw [List.append_assoc, List.length_append] at this
    rw [this]
    simp [Nat.add_assoc]
set_option maxRecDepth 100000 in
theorem gDec_cusW (ep nd : Int) (ms : List Mem) (h1 : in64 ep) (h2 : in64 nd) (h : ∀ m ∈ ms, m.pub.length = 16 ∧ m.name.size < 9223372036854775808 ∧ in64 m.ht) (hn : ms.length ≤ 1099511627776) :
    gDec (cusW ep nd ms) = if validB ep nd ms = true then (ep, nd, ms, 0) else (0, 0, [], 6) := by
  have hi := gInts_wInts [ep, nd, (ms.length : Int)] (memsW ms) (by intro x hx; simp at hx; rcases hx with rfl | rfl | rfl; exact h1; exact h2; exact ⟨by omega, by omega⟩) (by simp)
  have hm := gMems_memsW ms (wInts [ep, nd, (ms.length : Int)]) [] [] h
  rw [List.append_nil] at hm
  have hc : cusW ep nd ms = wInts [ep, nd, (ms.length : Int)] ++ memsW ms := rfl
  rw [← hc] at hi hm
  have hl : (cusW ep nd ms).length = (wInts [ep, nd, (ms.length : Int)]).length + (memsW ms).length := by rw [hc, List.length_append]
  unfold gDec
  rw [hi]
  simp only [List.getD_cons_zero, List.getD_cons_succ, List.length_cons, List.length_nil, Int.toNat_natCast]
  rw [hm, if_neg (by simp)]
  by_cases hv : validB ep nd ms = true
  · have hv2 := validP_of hv
    have hml : 1 ≤ ms.length ∧ ms.length ≤ 16 := by
      have := hv2.2.2.2.1; have := hv2.2.2.2.2.1; have := hv2.2.2.2.2.2.1
      omega
    rw [if_pos hv, if_neg (by rintro (h | h | h); exact h rfl; omega; omega), if_neg (by simp), if_neg (by rintro (h | h); dsimp only at h; omega; simp [hv] at h)]
    simp
  · rw [if_neg hv]
    have hv' : validB ep nd ms = false := by simpa using hv
    split
    · rfl
    · rw [if_neg (by simp), if_pos (.inr (by simpa using hv'))]
end Go.Proofs.YtbgijijecipjeaaDoor
