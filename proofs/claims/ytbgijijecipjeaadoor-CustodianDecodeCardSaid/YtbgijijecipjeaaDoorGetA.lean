/- Contract of wire.GetInt. Contracts of wire.count, wire.GetBytes. -/
import Derived.Test.YtbgijijecipjeaaDoorWireA
import Derived.Test.YtbgijijecipjeaaDoorPureA
import Derived.Test.YtbgijijecipjeaaDoorRow
import Derived.Test.YtbgijijecipjeaaDoorCat
namespace Go.Proofs.YtbgijijecipjeaaDoor
open Go.RowKit Go.IntWalk Go.Proofs.YtbgijijecipjeaaDoorW.PrintWords

/-- 'xs[l:h]' of a slice that is read. -/
theorem cut_lh {P : Program} (t e : TypeId) (kl kh : IntKind) {i : TypeInfo} (ht : P.underlying t = some (.slice e)) (hi : P.info? e = some i) (hsz : i.size = 1) (A : Option Addr) (n c l h : Nat) (hl : l ≤ h) (hh : h ≤ n) (hc : n ≤ c) :
    ∃ A' : Option Addr, (∀ W : World, (Instr.slice t (.slice A n c) (some (.int kl (l : Int))) (some (.int kh (h : Int))) none).run P W = .ok (.slice A' (h - l) (c - l)) W) ∧
      ∀ (w : World) (k : IntKind) (xs : List Int), ReadsInt w k A n xs → ReadsInt w k A' (h - l) ((xs.drop l).take (h - l)) := by
  refine ⟨if c = l then A else A.map (·.add l), fun W => ?_, fun w k xs hr => (hr.drop_ l (by omega) hc).take_ (h - l) (by omega)⟩
  have hel : P.elem t = e := by simp [Program.elem, ht]
  have hu : P.underlying t = some (.slice (P.elem t)) := by rw [hel]; exact ht
  rw [run_slice_lh (w := W) t A n c hu kl kh (l : Int) (h : Int) (by omega) (by omega) (by omega), hel]
  simp [sizeOf, typeInfo, hi, hsz, sliced, Result.andThen]
theorem cut_h {P : Program} (t e : TypeId) (kh : IntKind) {i : TypeInfo} (ht : P.underlying t = some (.slice e)) (hi : P.info? e = some i) (hsz : i.size = 1) (A : Option Addr) (n c h : Nat) (hh : h ≤ n) (hc : n ≤ c) (W : World) :
    (Instr.slice t (.slice A n c) none (some (.int kh (h : Int))) none).run P W = .ok (.slice A h c) W := by
  have hel : P.elem t = e := by simp [Program.elem, ht]
  have hu : P.underlying t = some (.slice (P.elem t)) := by rw [hel]; exact ht
  rw [run_slice_h (w := W) t A n c hu kh (h : Int) (by omega) (by omega), hel]
  simp [sizeOf, typeInfo, hi, hsz, sliced, Result.andThen]
  intro _
  cases A <;> simp [Addr.add]
theorem wrap_pos (m : Nat) (h : m < 9223372036854775808) : wrap64 (m : Int) = m := by unfold wrap64; omega
theorem wrap_not (m : Nat) (h : m < 9223372036854775808) : wrap64 (bits BinOp.xor IntKind.u64 IntKind.u64.max (m : Int)) = -1 - (m : Int) := by
  rw [not64 m (by omega)]; unfold wrap64; omega

set_option maxRecDepth 100000 in
set_option maxHeartbeats 4000000 in
theorem getInt_any (A : Option Addr) (c : Nat) (b : List UInt8) (w : World) (hr : ReadsInt w .u8 A b.length (bi b)) (hc : b.length ≤ c) (hl : b.length ≤ 1099511627776) :
    Calls Tryd.prog 59 #[.slice A b.length c] w fun e w' => e = .returned (.tuple #[.int .i64 (gInt b).1, .int .i64 ((gInt b).2.1 : Int), .int .i64 (gInt b).2.2]) ∧ w = w' := by
  have HR := Lib.hid hr
  clear hr
  rcases b with _ | ⟨x, r⟩
  · go_enter Tryd.func59, Tryd.ntmps59
    go_wp2_with fail
    go_ret3
    exact ⟨rfl, rfl⟩
  · obtain ⟨ad, rfl, hcell⟩ := HR.out.2.2 (by simp)
    have h0 := hcell 0 (by simp)
    rw [show (bi (x :: r)).getD 0 0 = (x.toNat : Int) from rfl] at h0
    clear hcell
    obtain ⟨n, hn⟩ : ∃ n, n = (x :: r).length := ⟨_, rfl⟩
    rw [← hn] at HR hc hl ⊢
    have hn0 : ((n : Int) == 0) = false := by rw [hn]; simp; omega
    have hnp : 0 < n := by rw [hn]; simp
    have hx := x.toNat_lt
    have HN := Lib.hid hn
    clear hn
    obtain ⟨f, hf⟩ : ∃ f, f = flipB x := ⟨_, rfl⟩
    go_enter Tryd.func59, Tryd.ntmps59
    have h0' : w.cell? ad = some (.int .u8 (x.toNat : Int)) := by rw [← h0]; rfl
    go_upto_if 16 with fail
    go_cut [5] (fun v5 wx => v5 = .int .u8 (f.toNat : Int) ∧ w = wx)
    case first =>
      by_cases hx2 : x < 128
      · have d0 : (x.toNat : Int) < 128 := by have := UInt8.lt_iff_toNat_lt.1 hx2; simp at this; omega
        go_wp2_with fail
        go_meet
        exact ⟨by rw [hf, flipB, if_pos hx2]; rfl, rfl⟩
      · have d0 : (128 : Int) ≤ (x.toNat : Int) := by have := fun h => hx2 (UInt8.lt_iff_toNat_lt.2 h); simp at this; omega
        go_wp2_with fail
        go_meet
        exact ⟨by rw [hf, flipB, if_neg hx2]; rfl, rfl⟩
    case rest =>
      obtain ⟨rfl, rfl⟩ := hcut
      have hxo : bits BinOp.xor IntKind.u8 (x.toNat : Int) (f.toNat : Int) = 128 + (lenB x : Int) := by
        rw [xor8 _ _ hx f.toNat_lt, ← UInt8.toNat_xor, hf, lenB_eq]; simp
      obtain ⟨k, hk⟩ : ∃ k, k = lenB x := ⟨_, rfl⟩
      have hkl : k < 128 := by have := lenB_eq x; have := (x ^^^ flipB x).toNat_lt; omega
      rw [← hk] at hxo
      have HK := Lib.hid hk
      have HF := Lib.hid hf
      clear hk hf
      have hk128 : (128 : Int) + (k : Int) - 128 = (k : Int) := by omega
      by_cases c1 : 8 < k
      · have hg : gInt (x :: r) = (0, 0, 6) := by rw [gInt_cons, ← HK.out, if_pos c1]
        have HG := Lib.hid hg
        clear hg
        have d1 : (8 : Int) < (k : Int) := by omega
        go_wp2_with fail
        go_ret3
        exact ⟨by rw [HG.out]; rfl, rfl⟩
      by_cases c2 : n ≤ k
      · have hg : gInt (x :: r) = (0, 0, 5) := by rw [gInt_cons, ← HK.out, if_neg c1, if_pos (by have := HN.out; simp at this; omega)]
        have HG := Lib.hid hg
        clear hg
        have d1 : ¬ (8 : Int) < (k : Int) := by omega
        have d2 : (n : Int) ≤ (k : Int) := by omega
        go_wp2_with fail
        go_ret3
        exact ⟨by rw [HG.out]; rfl, rfl⟩
      have hrl : k ≤ r.length := by have := HN.out; simp at this; omega
      have d1 : ¬ (8 : Int) < (k : Int) := by omega
      have d2 : ¬ (n : Int) ≤ (k : Int) := by omega
      have hx1 : 0 < k → w.cell? ⟨ad.block, ad.off + 1, none⟩ = some (.int .u8 ((r.headD 0).toNat : Int)) := fun h => by
        show w.cell? (ad.add 1) = _
        obtain ⟨ad', e, hc'⟩ := HR.out.2.2 hnp
        injection e with e; subst e
        rw [hc' 1 (by omega)]
        rcases r with _ | ⟨y, r⟩
        · simp at hrl; omega
        · rfl
      obtain ⟨y, hy⟩ : ∃ y, y = r.headD 0 := ⟨_, rfl⟩
      rw [← hy] at hx1
      obtain ⟨z, hz⟩ : ∃ z : Nat, z = (y ^^^ f).toNat := ⟨_, rfl⟩
      have hyo : bits BinOp.xor IntKind.u8 (y.toNat : Int) (f.toNat : Int) = (z : Int) := by
        rw [xor8 _ _ y.toNat_lt f.toNat_lt, ← UInt8.toNat_xor, hz]
      have HZ := Lib.hid hz
      clear hz
      have HY := Lib.hid hy
      clear hy
      by_cases c3 : 0 < k ∧ y ^^^ f = 0
      · have hg : gInt (x :: r) = (0, 0, 6) := by rw [gInt_cons, ← HK.out, if_neg c1, if_neg (by omega), if_pos (by rw [← HY.out, ← HF.out]; exact c3)]
        have HG := Lib.hid hg
        clear hg
        have d3 : (0 : Int) < (k : Int) := by omega
        replace hx1 := hx1 c3.1
        have d4 : ((z : Int) == 0) = true := by rw [HZ.out, c3.2]; rfl
        have i1 : (1 : Int) < (n : Int) := by omega
        go_wp2_with fail
        go_ret3
        exact ⟨by rw [HG.out]; rfl, rfl⟩
      obtain ⟨ii, hii, hsz⟩ : ∃ ii, Tryd.prog.info? 5 = some ii ∧ ii.size = 1 := by
        obtain ⟨ii, hii, hz⟩ := Option.map_eq_some_iff.1 infoU8
        exact ⟨ii, hii, by simp only [Prod.mk.injEq] at hz; exact hz.2.1⟩
      obtain ⟨A1, hsl, hA1⟩ := cut_lh 56 5 .i64 .i64 Tryd.underlying56 hii hsz (some ad) n c 1 (k + 1) (by omega) (by omega) hc
      have hR1 : ReadsInt w .u8 A1 k (bi (r.take k)) := by
        have := hA1 w .u8 _ HR.out
        rw [show k + 1 - 1 = k by omega] at this
        rw [show bi (r.take k) = ((bi (x :: r)).drop 1).take k by simp [bi, List.map_take]]
        exact this
      replace hsl : ∀ W, (Instr.slice 56 (.slice (some ad) n c) (some (.int .i64 1)) (some (.int .i64 ((k : Int) + 1))) none).run Tryd.prog W = .ok (.slice A1 k (c - 1)) W := fun W => by
        have := hsl W
        rw [show k + 1 - 1 = k by omega] at this
        simpa using this
      have HR1 := Lib.hid hR1
      clear hA1 hR1 hii hsz HR
      have d5 : ((0 < k ∧ ((z : Int) == 0) = false) ∨ ¬ 0 < k) := by
        rcases Nat.eq_zero_or_pos k with h | h
        · exact .inr (by omega)
        · refine .inl ⟨h, ?_⟩
          have : z ≠ 0 := fun e => c3 ⟨h, UInt8.toNat_inj.1 (by rw [← HZ.out, e]; rfl)⟩
          simpa using this
      have C1 := Lib.hid c1
      have C3 := Lib.hid c3
      clear c1 c3
      rcases d5 with ⟨d3, d4⟩ | d3
      case' inl =>
        replace hx1 := hx1 d3
        have d3' : (0 : Int) < (k : Int) := by omega
        have i1 : (1 : Int) < (n : Int) := by omega
        go_upto_region 13 with fail
      case' inr =>
        clear hx1
        have d3' : ¬ (0 : Int) < (k : Int) := by omega
        go_upto_region 13 with fail
      all_goals
        go_wp2_with fail
        go_loop [7, 48] (fun v7 v48 => ∃ i : Nat, i ≤ k ∧ v48 = .int .i64 i ∧ v7 = .int .u64 (bnum f ((r.take k).take i) : Nat)) (fun _ v48 => k - (RowKit.intOf v48).toNat)
        case atStart => exact ⟨0, by omega, rfl, rfl⟩
        case round =>
          obtain ⟨i, hi, rfl, rfl⟩ := hrel
          have hll : (r.take k).length = k := by rw [List.length_take]; omega
          by_cases hlt : i < k
          · have l1 : decide ((i : Int) < (k : Int)) = true := decide_eq_true (by omega)
            obtain ⟨ad1, rfl, hcl⟩ := HR1.out.at_ (i : Int) (by omega) (by omega)
            simp only [Int.toNat_natCast] at hcl
            obtain ⟨v, hv⟩ : ∃ v, (r.take k)[i]? = some v := ⟨_, List.getElem?_eq_getElem (by rw [hll]; exact hlt)⟩
            have hrd : rd (bi (r.take k)) (i : Int) = (v.toNat : Int) := by
              rw [rd, Int.toNat_natCast, List.getD_eq_getElem?_getD, bi, List.getElem?_map, hv]; rfl
            rw [hrd] at hcl
            have htk : (r.take k).take (i + 1) = (r.take k).take i ++ [v] := by rw [List.take_add_one, hv]; rfl
            have hml := bnum_lt f ((r.take k).take i)
            have hbs := bnum_snoc f ((r.take k).take i) v
            rw [List.length_take, hll, Nat.min_eq_left (by omega)] at hml
            rw [← htk] at hbs
            obtain ⟨m, hm⟩ : ∃ m, m = bnum f ((r.take k).take i) := ⟨_, rfl⟩
            rw [← hm] at hml hbs ⊢
            obtain ⟨u, hu⟩ : ∃ u : Nat, u = (v ^^^ f).toNat := ⟨_, rfl⟩
            have hul : u < 256 := by rw [hu]; exact (v ^^^ f).toNat_lt
            have hvo : bits BinOp.xor IntKind.u8 (v.toNat : Int) (f.toNat : Int) = (u : Int) := by
              rw [xor8 _ _ v.toNat_lt f.toNat_lt, ← UInt8.toNat_xor, hu]
            rw [← hu] at hbs
            have hm56 : m < 72057594037927936 := by
              have hk8 : k ≤ 8 := by have := C1.out; omega
              have : (256 : Nat) ^ i ≤ 256 ^ 7 := Nat.pow_le_pow_right (by decide) (by omega)
              omega
            have hor : bits BinOp.or IntKind.u64 ((m : Int) * 256) (u : Int) = ((m * 256 + u : Nat) : Int) := by
              have := or64 (m * 256) u (by omega) (by omega)
              rw [show ((m * 256 : Nat) : Int) = (m : Int) * 256 by simp] at this
              rw [this]
              have e := Nat.two_pow_add_eq_or_of_lt (i := 8) (b := u) hul m
              rw [show (2 : Nat) ^ 8 = 256 from rfl, Nat.mul_comm 256 m] at e
              rw [e]
            have HBS := Lib.hid hbs
            clear hm hml hbs htk hrd hv hu
            go_wp2_with fail
            go_round
            case rel => exact ⟨i + 1, by omega, by go_num, by rw [HBS.out, Int.natCast_add, Int.natCast_mul]; rfl⟩
            case measure => simp [RowKit.intOf]; omega
          · have l1 : decide ((i : Int) < (k : Int)) = false := decide_eq_false (by omega)
            obtain rfl : i = k := by omega
            rw [List.take_take, Nat.min_self]
            obtain ⟨m, hm⟩ : ∃ m, m = bnum f (r.take i) := ⟨_, rfl⟩
            rw [← hm]
            have HM := Lib.hid hm
            clear hm
            go_upto_if 62 with fail
            by_cases c4 : 9223372036854775808 ≤ m
            · have hg : gInt (x :: r) = (0, 0, 6) := by
                have := C1.out
                rw [gInt_cons, ← HK.out, if_neg this, if_neg (by omega), if_neg (by rw [← HY.out, ← HF.out]; exact C3.out), if_pos (by rw [← HF.out, ← HM.out]; exact c4)]
              rw [decide_eq_true (show (0 : Int) < (m : Int) / 9223372036854775808 by omega)]
              have HG := Lib.hid hg
              clear hg c4
              go_wp2_with fail
              go_ret3
              exact ⟨by rw [HG.out]; rfl, rfl⟩
            · have hg : gInt (x :: r) = (if f = 0 then (m : Int) else -1 - (m : Int), i + 1, 0) := by
                have := C1.out
                rw [gInt_cons, ← HK.out, if_neg this, if_neg (by omega), if_neg (by rw [← HY.out, ← HF.out]; exact C3.out), if_neg (by rw [← HF.out, ← HM.out]; exact c4), ← HF.out, ← HM.out]
              rw [decide_eq_false (show ¬ (0 : Int) < (m : Int) / 9223372036854775808 by omega)]
              have HG := Lib.hid hg
              have C4 := Lib.hid c4
              have hff : f = 0 ∨ f = 255 := by rw [HF.out, flipB]; split <;> simp
              clear hg c4
              rcases hff with hff | hff
              · rw [hff] at HG
                rw [hff]
                go_wp2_with fail
                go_ret3
                refine ⟨?_, rfl⟩
                have e := wrap_pos m (by have := C4.out; omega)
                refine Eq.trans (show _ = Ending.returned (Value.tuple #[Value.int IntKind.i64 (wrap64 (m : Int)), Value.int .i64 ((i : Int) + 1), Value.int .i64 0]) from rfl) ?_
                rw [HG.out, e]; rfl
              · rw [hff] at HG
                rw [hff]
                go_wp2_with fail
                go_ret3
                refine ⟨?_, rfl⟩
                have e := wrap_not m (by have := C4.out; omega)
                refine Eq.trans (show _ = Ending.returned (Value.tuple #[Value.int IntKind.i64 (wrap64 (bits BinOp.xor IntKind.u64 IntKind.u64.max (m : Int))), Value.int .i64 ((i : Int) + 1), Value.int .i64 0]) from rfl) ?_
                rw [HG.out, e]; rfl
end Go.Proofs.YtbgijijecipjeaaDoor
namespace Go.Proofs.YtbgijijecipjeaaDoor
open Go.RowKit Go.IntWalk Go.Proofs.YtbgijijecipjeaaDoorW.PrintWords

/-- 'string(b)' of a slice of bytes that is read. -/
theorem conv_read (P : Program) (t e st : TypeId) (ht : P.underlying t = some (.slice e)) (he : P.underlying e = some (.int .u8)) (hs : P.underlying st = some .string) (A : Option Addr) (n c : Nat) (l : List UInt8) (W : World) (hr : ReadsInt W .u8 A n (bi l)) :
    (convert t st (.slice A n c)).run P W = .ok (.string ⟨l.toArray⟩) W := by
  rcases A with _ | ad
  · have hn : n = 0 := by
      rcases Nat.eq_zero_or_pos n with h | h
      · exact h
      · obtain ⟨ad, e, -⟩ := hr.2.2 h; cases e
    subst hn
    have hl : l = [] := by
      have := hr.1; rw [bi_length] at this; exact List.eq_nil_of_length_eq_zero this
    subst hl
    exact run_convert_bytes_nil W t e ht he 0 c st hs
  · have hlen : (bi l).length = n := hr.1
    have hl : (loadCells ad n).run P W = .ok (nums .u8 (bi l)).toArray W := by
      have := run_loadCells_list (P := P) W ad (nums .u8 (bi l)) (reads_cells hr)
      rwa [nums_length, hlen] at this
    have h2 : (nums .u8 (bi l)).toArray = ((bi l).map (Value.int .u8)).toArray := rfl
    rw [h2] at hl
    rw [run_convert_bytes_string W t st e _ n c ht he hs, run_bytesToString W _ n c (bi l) hl, foldl_push_bytes]
    have h3 : strOfNums (bi l) = ⟨l.toArray⟩ := strOfNums_bi l
    rw [← h3]
    simp [strOfNums, ByteArray.empty, ByteArray.emptyWithCapacity]
    rfl

set_option maxRecDepth 100000 in
set_option maxHeartbeats 4000000 in
theorem count_any (A : Option Addr) (c sz : Nat) (b : List UInt8) (w : World) (hr : ReadsInt w .u8 A b.length (bi b)) (hc : b.length ≤ c) (hl : b.length ≤ 1099511627776) (hs : 0 < sz) :
    Calls Tryd.prog 69 #[.slice A b.length c, .int .i64 (sz : Int)] w fun e w' => e = .returned (.tuple #[.int .i64 (gCount b sz).1, .int .i64 ((gCount b sz).2.1 : Int), .int .i64 (gCount b sz).2.2]) ∧ w = w' := by
  have hgc : gCount b sz = if (gInt b).2.2 ≠ 0 then gInt b else if (gInt b).1 < 0 then ((gInt b).1, (gInt b).2.1, 6) else if (((b.length - (gInt b).2.1) / sz : Nat) : Int) < (gInt b).1 then ((gInt b).1, (gInt b).2.1, 5) else ((gInt b).1, (gInt b).2.1, 0) := rfl
  have hle := gInt_le b
  have hrg := gInt_range b
  have hG := getInt_any A c b w hr hc hl
  obtain ⟨⟨x, u, er⟩, hg⟩ : ∃ g, g = gInt b := ⟨_, rfl⟩
  rw [← hg] at hgc hle hrg hG
  simp only [] at hgc hle hrg hG
  obtain ⟨n, hn⟩ : ∃ n, n = b.length := ⟨_, rfl⟩
  obtain ⟨gc, hgc'⟩ : ∃ gc, gc = gCount b sz := ⟨_, rfl⟩
  rw [← hgc'] at hgc ⊢
  rw [← hn] at hgc hle hG hc hl ⊢
  have HGC := Lib.hid hgc
  clear hgc hgc' hg hn hr
  go_enter Tryd.func69, Tryd.ntmps69
  go_wp2_with fail
  refine hG.mono ?_
  rintro e w1 ⟨rfl, rfl⟩
  by_cases c1 : er = 0
  · subst c1
    by_cases c2 : x < 0
    · go_wp2_with fail
      go_ret3
      exact ⟨by rw [HGC.out, if_neg (by simp), if_pos c2]; rfl, rfl⟩
    · have hd : ((n : Int) - (u : Int)) / (sz : Int) = (((n - u) / sz : Nat) : Int) := by rw [Int.natCast_ediv, Int.natCast_sub hle]
      by_cases c3 : (((n - u) / sz : Nat) : Int) < x
      · have c4 : ((n : Int) - (u : Int)) / (sz : Int) < x := by rw [hd]; exact c3
        have C3 := Lib.hid c3
        clear hd c3
        go_wp2_with fail
        go_ret3
        exact ⟨by rw [HGC.out, if_neg (by simp), if_neg (by omega), if_pos C3.out]; rfl, rfl⟩
      · have c4 : ¬ ((n : Int) - (u : Int)) / (sz : Int) < x := by rw [hd]; exact c3
        have C3 := Lib.hid c3
        clear hd c3
        go_wp2_with fail
        go_ret3
        exact ⟨by rw [HGC.out, if_neg (by simp), if_neg (by omega), if_neg (by have := C3.out; omega)]; rfl, rfl⟩
  · have c1' : (er != 0) = true := by simpa using c1
    have C1 := Lib.hid c1
    clear c1
    go_wp2_with fail
    go_ret3
    exact ⟨by rw [HGC.out, if_pos C1.out]; rfl, rfl⟩

set_option maxRecDepth 100000 in
set_option maxHeartbeats 4000000 in
theorem getBytes_any (A : Option Addr) (c : Nat) (b : List UInt8) (w : World) (hr : ReadsInt w .u8 A b.length (bi b)) (hc : b.length ≤ c) (hl : b.length ≤ 1099511627776) :
    Calls Tryd.prog 60 #[.slice A b.length c] w fun e w' => e = .returned (.tuple #[.string ⟨(gBytes b).1.toArray⟩, .int .i64 ((gBytes b).2.1 : Int), .int .i64 (gBytes b).2.2]) ∧ w = w' := by
  have hgb : gBytes b = if (gCount b 1).2.2 ≠ 0 then ([], 0, (gCount b 1).2.2) else ((b.drop (gCount b 1).2.1).take (gCount b 1).1.toNat, (gCount b 1).2.1 + (gCount b 1).1.toNat, 0) := rfl
  have hok := gCount_ok b 1 (by decide)
  have hG := count_any A c 1 b w hr hc hl (by decide)
  obtain ⟨⟨x, u, er⟩, hg⟩ : ∃ g, g = gCount b 1 := ⟨_, rfl⟩
  rw [← hg] at hgb hok hG
  simp only [] at hgb hok hG
  obtain ⟨gb, hgb'⟩ : ∃ gb, gb = gBytes b := ⟨_, rfl⟩
  rw [← hgb'] at hgb ⊢
  have HGB := Lib.hid hgb
  have HR := Lib.hid hr
  clear hgb hgb' hg hr
  obtain ⟨n, hn⟩ : ∃ n, n = b.length := ⟨_, rfl⟩
  rw [← hn] at hok HR hG hc hl ⊢
  clear hn
  go_enter Tryd.func60, Tryd.ntmps60
  go_wp2_with fail
  refine hG.mono ?_
  rintro e w1 ⟨rfl, rfl⟩
  by_cases c1 : er = 0
  · subst c1
    obtain ⟨-, -, -, h0, h1⟩ := hok rfl
    clear hok
    rw [Nat.one_mul] at h1
    obtain ⟨m, rfl⟩ : ∃ m : Nat, x = (m : Int) := ⟨x.toNat, by omega⟩
    rw [Int.toNat_natCast] at h1
    obtain ⟨ii, hii, hsz⟩ : ∃ ii, Tryd.prog.info? 5 = some ii ∧ ii.size = 1 := by
      obtain ⟨ii, hii, hz⟩ := Option.map_eq_some_iff.1 infoU8
      exact ⟨ii, hii, by simp only [Prod.mk.injEq] at hz; exact hz.2.1⟩
    obtain ⟨A1, hsl, hA1⟩ := cut_lh 56 5 .i64 .i64 Tryd.underlying56 hii hsz A n c u (u + m) (by omega) (by omega) hc
    have hR1 := hA1 w .u8 _ HR.out
    rw [show u + m - u = m by omega, show ((bi b).drop u).take m = bi ((b.drop u).take m) by simp [bi, List.map_take, List.map_drop]] at hR1
    replace hsl : ∀ W, (Instr.slice 56 (.slice A n c) (some (.int .i64 (u : Int))) (some (.int .i64 ((u : Int) + (m : Int)))) none).run Tryd.prog W = .ok (.slice A1 m (c - u)) W := fun W => by
      have := hsl W
      rw [show u + m - u = m by omega] at this
      simpa using this
    have hcv := conv_read Tryd.prog 56 5 9 Tryd.underlying56 Tryd.underlying5 Tryd.underlying9 A1 m (c - u) _ w hR1
    have HCV := Lib.hid hcv
    clear hA1 hR1 hii hsz HR hcv
    have hcv := HCV.out
    go_wp2_with fail
    go_ret3
    exact ⟨by rw [HGB.out, if_neg (by simp), Int.toNat_natCast]; rfl, rfl⟩
  · have c1' : (er != 0) = true := by simpa using c1
    have C1 := Lib.hid c1
    clear c1 hok
    go_wp2_with fail
    go_ret3
    exact ⟨by rw [HGB.out, if_pos C1.out]; rfl, rfl⟩
end Go.Proofs.YtbgijijecipjeaaDoor
