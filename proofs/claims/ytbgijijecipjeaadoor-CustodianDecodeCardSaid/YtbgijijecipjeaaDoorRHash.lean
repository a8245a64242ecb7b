/- Contracts of custodyref02.rotr, padded, words. Contract of custodyref02.Sum. Contracts of custodyref01.Bytes and custodyref02.Short, Input, Of. -/
import Derived.Test.YtbgijijecipjeaaDoorHashA
import Derived.Test.YtbgijijecipjeaaDoorRefA
import Derived.BigRegion
import Derived.Test.YtbgijijecipjeaaDoorHash6
namespace Go.Proofs.YtbgijijecipjeaaDoor
open Go.RowKit Go.IntWalk Go.Proofs.YtbgijijecipjeaaDoorW.PrintWords

theorem rotr_int (x n : Nat) (hx : x < 4294967296) (hn : n ≤ 32) : bits BinOp.or IntKind.u32 ((x : Int) / 2 ^ n) ((x : Int) * 2 ^ (32 - n) % 4294967296) = (rotlN x (32 - n) : Int) := by
  have h1 : ((x : Int) * 2 ^ (32 - n) % 4294967296) = ((x * 2 ^ (32 - n) % 4294967296 : Nat) : Int) := by simp
  have h2 : ((x : Int) / 2 ^ n) = ((x / 2 ^ n : Nat) : Int) := by simp
  rw [h1, h2, or32 _ _ (Nat.lt_of_le_of_lt (Nat.div_le_self _ _) hx) (Nat.mod_lt _ (by decide)), rotlN, show 32 - (32 - n) = n by omega, Nat.or_comm]
set_option maxHeartbeats 400000 in
theorem rotr_any (x n : Nat) (w : World) (hx : x < 4294967296) (hn : n ≤ 32) :
    Calls Tryd.prog 90 #[.int .u32 x, .int .i64 n] w fun e w' => e = .returned (.int .u32 (rotlN x (32 - n))) ∧ ∃ k, w' = w.drewN k := by
  have H := Lib.hid (rotr_int x n hx hn)
  go_enter Tryd.func90, Tryd.ntmps90
  go_wp2_with fail
  go_quiet (fail)
  rw [H.out]
  go_wp2_with fail
  go_ret
  exact ⟨rfl, _, rfl⟩

theorem pad_step (b : List UInt8) (j n k : Nat) (h8 : k < 8) : bi (b ++ 128 :: (List.replicate j 0 ++ (be64 (8 * n)).take k)) ++ [8 * (n : Int) / 2 ^ (56 - 8 * k) % 256] = bi (b ++ 128 :: (List.replicate j 0 ++ (be64 (8 * n)).take (k + 1))) := by
  have h9 : k < (be64 (8 * n)).length := h8
  have h := be64_at (8 * n) k h8
  rw [List.getD_eq_getElem?_getD, List.getElem?_eq_getElem h9, Option.getD_some] at h
  have e : b ++ 128 :: (List.replicate j 0 ++ (be64 (8 * n)).take (k + 1)) = (b ++ 128 :: (List.replicate j 0 ++ (be64 (8 * n)).take k)) ++ [UInt8.ofNat (8 * n / 2 ^ (56 - 8 * k))] := by
    rw [List.take_succ_eq_append_getElem h9, h]; simp
  rw [e, bi_append]
  simp [bi]

set_option maxRecDepth 100000 in
set_option maxHeartbeats 800000 in
theorem padded_any (A : Option Addr) (c : Nat) (b : List UInt8) (w : World) (hr : ReadsInt w .u8 A b.length (bi b)) (hl : b.length ≤ 35184372088832) :
    Calls Tryd.prog 88 #[.slice A b.length c] w (RetB (b ++ padN b.length) w) := by
  have HR := Lib.hid (hr.allocS (.cells (nums IntKind.u8 []).toArray 5))
  clear hr
  have hbl0 := bi_length b
  have HBL := Lib.hid hbl0
  obtain ⟨n, hn⟩ : ∃ n, n = b.length := ⟨_, rfl⟩
  rw [← hn] at HR hl hbl0 ⊢
  have HN := Lib.hid hn
  clear hn
  have HN0 := Lib.hid (own_lit (base := w.heap.size) w 5 .u8 [] (Nat.le_refl _) (by decide))
  have HB0 : Hid (Below w.heap.size w (w.alloc (.cells (nums IntKind.u8 []).toArray 5))) := Lib.hid ((Below.refl _ _).alloc (Nat.le_refl _) _)
  have hs0 : w.heap.size ≤ (w.alloc (.cells (nums IntKind.u8 []).toArray 5)).heap.size := by simp
  have HS0 := Lib.hid hs0
  clear hs0
  go_enter Tryd.func88, Tryd.ntmps88
  go_wp2_with (first
    | ((with_reducible show wpList _ _ _ (⟨some 8, _, _, _, _, _⟩ :: _) _ _); at_builtin; go_must (refine print_append_row (w0 := w) w.heap.size rfl (.tmp 6) (.tmp 7) 56 5 .u8 1 rfl Tryd.underlying56 infoU8 (by decide) _ [] (bi b) A n c rfl rfl HN0.out HR.out HB0.out HS0.out (by simp; omega) ?_); intro v1 w1 hown1 hB1 hg1 hat1; rw [List.nil_append] at hown1; have hz1 := hB1.size)
    | ((with_reducible show wpList _ _ _ (⟨some 11, _, _, _, _, _⟩ :: _) _ _); at_builtin; go_must (refine print_append_num (w0 := w) w.heap.size rfl (.tmp 9) (.tmp 10) 56 5 .u8 1 rfl Tryd.underlying56 infoU8 (by decide) _ (bi b) 128 rfl rfl hown1 hB1 hz1 (by have := HN.out; rw [HBL.out]; omega) ?_); intro v2 w2 hown2 hB2 hg2 hat2))
  have h0 : bi b ++ [128] = bi (b ++ 128 :: List.replicate 0 0) := by rw [bi_append]; rfl
  rw [h0] at hown2
  have HO2 := Lib.hid hown2
  have HB2 := Lib.hid hB2
  clear hown1 hown2 hB1 hB2 hg1 hg2 hat1 hat2 HN0 HB0 HS0 HR hz1 h0
  have hbb : ∀ j, (bi (b ++ 128 :: List.replicate j 0)).length = n + 1 + j := fun j => by rw [bi_length, HN.out]; simp; omega
  have HBB := Lib.hid hbb
  clear hbb
  go_loopw [3] (fun v3 wr => ∃ j : Nat, j ≤ (119 - n % 64) % 64 ∧ sliceLen v3 = n + 1 + j ∧ Below w.heap.size w wr ∧ wr.ownsRow w.heap.size 5 1 v3 (bi (b ++ 128 :: List.replicate j 0)).length (nums .u8 (bi (b ++ 128 :: List.replicate j 0)))) (fun v3 _ => n + 65 - sliceLen v3)
  case atStart =>
    refine ⟨0, Nat.zero_le _, ?_, HB2.out, HO2.out⟩
    obtain ⟨A2, c2, rfl⟩ := own_slice HO2.out
    exact HBB.out 0
  case round =>
    obtain ⟨j, hj, hsl, hB, hown⟩ := hrel
    obtain ⟨A2, c2, rfl⟩ := own_slice hown
    have hbl := HBB.out j
    obtain ⟨L, hL⟩ : ∃ L, L = (bi (b ++ 128 :: List.replicate j 0)).length := ⟨_, rfl⟩
    rw [← hL] at hown hbl ⊢
    have hz := hB.size
    have HOWN := Lib.hid hown
    have HB := Lib.hid hB
    have HL := Lib.hid hL
    clear hown hB HO2 HB2 hL hsl
    by_cases hjz : j = (119 - n % 64) % 64
    · have hb : ((L : Int) % 64 != 56) = false := by rw [bne_eq_false_iff_eq]; omega
      have HJ := Lib.hid hjz
      have HBL2 := Lib.hid hbl
      clear hjz hbl
      go_wp2_with fail
      go_loopw [3, 5] (fun v3 v5 wx => ∃ k : Nat, k ≤ 8 ∧ v5 = .int .i64 k ∧ Below w.heap.size w wx ∧ wx.ownsRow w.heap.size 5 1 v3 (bi (b ++ 128 :: (List.replicate j 0 ++ (be64 (8 * n)).take k))).length (nums .u8 (bi (b ++ 128 :: (List.replicate j 0 ++ (be64 (8 * n)).take k))))) (fun _ v5 _ => 8 - (intOf v5).toNat)
      case atStart => exact ⟨0, by omega, rfl, HB.out, by rw [List.take_zero, List.append_nil, ← HL.out]; exact HOWN.out⟩
      case round =>
        clear HOWN HB HL
        obtain ⟨k, hk, rfl, hB, hown⟩ := hrel
        obtain ⟨A3, c3, rfl⟩ := own_slice hown
        have hbl2 : (bi (b ++ 128 :: (List.replicate j 0 ++ (be64 (8 * n)).take k))).length = n + 1 + j + k := by rw [bi_length, HN.out]; simp [be64]; omega
        obtain ⟨L2, hL2⟩ : ∃ L, L = (bi (b ++ 128 :: (List.replicate j 0 ++ (be64 (8 * n)).take k))).length := ⟨_, rfl⟩
        rw [← hL2] at hown hbl2 ⊢
        have hz := hB.size
        have HOWN := Lib.hid hown
        have HB := Lib.hid hB
        have HL := Lib.hid hL2
        clear hown hB hL2
        by_cases h8 : k < 8
        · have d8 : decide ((k : Int) < 8) = true := decide_eq_true (by omega)
          have hby := pad_step b j n k h8
          have HBY := Lib.hid hby
          have HBL3 := Lib.hid hbl2
          clear hby hbl2
          go_wp2_with (at_builtin; go_must (refine print_append_num (w0 := wr) (w.heap.size) rfl (.tmp 27) (.tmp 34) 56 5 .u8 1 rfl Tryd.underlying56 infoU8 (by decide) (.slice A3 L2 c3) (bi (b ++ 128 :: (List.replicate j 0 ++ (be64 (8 * n)).take k))) _ rfl rfl (by rw [← HL.out]; exact HOWN.out) ((Below.refl _ _).mono hz) hz (by rw [← HL.out, HBL3.out]; omega) ?_); intro v1 w1 hown1 hB1 hg1 hat1)
          have hB3 := HB.out.trans hB1
          rw [HBY.out] at hown1
          have HO1 := Lib.hid hown1
          have HB3 := Lib.hid hB3
          clear hown1 hg1 hat1 hB1 hB3
          go_roundw
          case rel => exact ⟨k + 1, by omega, by go_num, HB3.out, HO1.out⟩
          case measure => simp [intOf]; omega
        · have d8 : decide ((k : Int) < 8) = false := decide_eq_false (by omega)
          obtain rfl : k = 8 := by omega
          go_wp2_with fail
          go_ret
          refine ⟨_, rfl, ?_, HB.out⟩
          have e : b ++ padN n = b ++ 128 :: (List.replicate j 0 ++ (be64 (8 * n)).take 8) := by rw [padN, ← HJ.out]; rfl
          rw [e, ← HL.out]
          exact HOWN.out
    · have hb : ((L : Int) % 64 != 56) = true := by rw [bne_iff_ne]; omega
      go_wp2_with (at_builtin; go_must (refine print_append_num (w0 := wr) (w.heap.size) rfl (.tmp 16) (.tmp 17) 56 5 .u8 1 rfl Tryd.underlying56 infoU8 (by decide) (.slice A2 L c2) (bi (b ++ 128 :: List.replicate j 0)) 0 rfl rfl (by rw [← HL.out]; exact HOWN.out) ((Below.refl _ _).mono hz) hz (by rw [← HL.out]; omega) ?_); intro v1 w1 hown1 hB1 hg1 hat1)
      have hB3 := HB.out.trans hB1
      rw [show bi (b ++ 128 :: List.replicate j 0) ++ [0] = bi (b ++ 128 :: List.replicate (j + 1) 0) by rw [List.replicate_succ', ← List.cons_append, ← List.append_assoc, bi_append (b ++ 128 :: List.replicate j 0)]; rfl] at hown1
      obtain ⟨A3, c3, rfl⟩ := own_slice hown1
      have HO1 := Lib.hid hown1
      have HB3 := Lib.hid hB3
      clear hown1 hg1 hat1 hB1 hB3
      have hb3 := HBB.out (j + 1)
      go_roundw
      case rel => exact ⟨j + 1, by omega, hb3, HB3.out, HO1.out⟩
      case measure => simp only [sliceLen, hb3]; omega
theorem or_add (x y i : Nat) (h : y < 2 ^ i) : x * 2 ^ i ||| y = x * 2 ^ i + y := by
  have := Nat.shiftLeft_add_eq_or_of_lt (i := i) (b := y) h x
  rw [Nat.shiftLeft_eq] at this
  exact this.symm
theorem or4 (a b c d : Nat) (ha : a < 256) (hb : b < 256) (hc : c < 256) (hd : d < 256) :
    bits BinOp.or IntKind.u32 (bits BinOp.or IntKind.u32 (bits BinOp.or IntKind.u32 ((a : Int) % 4294967296 * 16777216 % 4294967296) ((b : Int) % 4294967296 * 65536 % 4294967296)) ((c : Int) % 4294967296 * 256 % 4294967296)) ((d : Int) % 4294967296) = ((((a * 256 + b) * 256 + c) * 256 + d : Nat) : Int) := by
  have e1 : ((a : Int) % 4294967296 * 16777216 % 4294967296) = ((a * 2 ^ 24 : Nat) : Int) := by omega
  have e2 : ((b : Int) % 4294967296 * 65536 % 4294967296) = ((b * 65536 : Nat) : Int) := by omega
  have e3 : ((c : Int) % 4294967296 * 256 % 4294967296) = ((c * 256 : Nat) : Int) := by omega
  have e4 : ((d : Int) % 4294967296) = (d : Int) := by omega
  rw [e1, e2, e3, e4, or32 _ _ (by omega) (by omega), or_add _ _ _ (by omega), show a * 2 ^ 24 + b * 65536 = (a * 256 + b) * 2 ^ 16 by omega, or32 _ _ (by omega) (by omega), or_add _ _ _ (by omega),
    show (a * 256 + b) * 2 ^ 16 + c * 256 = ((a * 256 + b) * 256 + c) * 2 ^ 8 by omega, or32 _ _ (by omega) (by omega), or_add _ _ _ (by omega)]
theorem be4 (l : List UInt8) (h : 4 ≤ l.length) : be (l.take 4) = (((l.getD 0 0).toNat * 256 + (l.getD 1 0).toNat) * 256 + (l.getD 2 0).toNat) * 256 + (l.getD 3 0).toNat := by
  rw [be_take l 3 (by omega), be_take l 2 (by omega), be_take l 1 (by omega), be_take l 0 (by omega), List.take_zero, show be [] = 0 from rfl, Nat.zero_mul, Nat.zero_add]
theorem quietd {P : Program} {f : FuncId} {args : Array Value} {w : World} {n : Nat} {v : Value}
    (h : Calls P f args (w.drewN n) fun e w' => e = .returned v ∧ ∃ k, w' = (w.drewN n).drewN k) : Calls P f args (w.drewN n) fun e w'' => e = .returned v ∧ ∃ m, w'' = w.drewN m :=
  h.mono fun _ _ ⟨he, k, hk⟩ => ⟨he, n + k, by rw [hk]; simp⟩

theorem rotr_7 (x : Nat) (w : World) (n : Nat) (hx : x < 4294967296) : Calls Tryd.prog 90 #[.int .u32 x, .int .i64 7] (w.drewN n) fun e w' => e = .returned (.int .u32 (rotlN x 25)) ∧ ∃ m, w' = w.drewN m := quietd (rotr_any x 7 _ hx (by decide))
theorem rotr_18 (x : Nat) (w : World) (n : Nat) (hx : x < 4294967296) : Calls Tryd.prog 90 #[.int .u32 x, .int .i64 18] (w.drewN n) fun e w' => e = .returned (.int .u32 (rotlN x 14)) ∧ ∃ m, w' = w.drewN m := quietd (rotr_any x 18 _ hx (by decide))
theorem rotr_17 (x : Nat) (w : World) (n : Nat) (hx : x < 4294967296) : Calls Tryd.prog 90 #[.int .u32 x, .int .i64 17] (w.drewN n) fun e w' => e = .returned (.int .u32 (rotlN x 15)) ∧ ∃ m, w' = w.drewN m := quietd (rotr_any x 17 _ hx (by decide))
theorem rotr_19 (x : Nat) (w : World) (n : Nat) (hx : x < 4294967296) : Calls Tryd.prog 90 #[.int .u32 x, .int .i64 19] (w.drewN n) fun e w' => e = .returned (.int .u32 (rotlN x 13)) ∧ ∃ m, w' = w.drewN m := quietd (rotr_any x 19 _ hx (by decide))
theorem rotr_6 (x : Nat) (w : World) (n : Nat) (hx : x < 4294967296) : Calls Tryd.prog 90 #[.int .u32 x, .int .i64 6] (w.drewN n) fun e w' => e = .returned (.int .u32 (rotlN x 26)) ∧ ∃ m, w' = w.drewN m := quietd (rotr_any x 6 _ hx (by decide))
theorem rotr_11 (x : Nat) (w : World) (n : Nat) (hx : x < 4294967296) : Calls Tryd.prog 90 #[.int .u32 x, .int .i64 11] (w.drewN n) fun e w' => e = .returned (.int .u32 (rotlN x 21)) ∧ ∃ m, w' = w.drewN m := quietd (rotr_any x 11 _ hx (by decide))
theorem rotr_25 (x : Nat) (w : World) (n : Nat) (hx : x < 4294967296) : Calls Tryd.prog 90 #[.int .u32 x, .int .i64 25] (w.drewN n) fun e w' => e = .returned (.int .u32 (rotlN x 7)) ∧ ∃ m, w' = w.drewN m := quietd (rotr_any x 25 _ hx (by decide))
theorem rotr_2 (x : Nat) (w : World) (n : Nat) (hx : x < 4294967296) : Calls Tryd.prog 90 #[.int .u32 x, .int .i64 2] (w.drewN n) fun e w' => e = .returned (.int .u32 (rotlN x 30)) ∧ ∃ m, w' = w.drewN m := quietd (rotr_any x 2 _ hx (by decide))
theorem rotr_13 (x : Nat) (w : World) (n : Nat) (hx : x < 4294967296) : Calls Tryd.prog 90 #[.int .u32 x, .int .i64 13] (w.drewN n) fun e w' => e = .returned (.int .u32 (rotlN x 19)) ∧ ∃ m, w' = w.drewN m := quietd (rotr_any x 13 _ hx (by decide))
theorem rotr_22 (x : Nat) (w : World) (n : Nat) (hx : x < 4294967296) : Calls Tryd.prog 90 #[.int .u32 x, .int .i64 22] (w.drewN n) fun e w' => e = .returned (.int .u32 (rotlN x 10)) ∧ ∃ m, w' = w.drewN m := quietd (rotr_any x 22 _ hx (by decide))

set_option maxRecDepth 100000 in
set_option maxHeartbeats 400000 in
theorem words_any (b : List UInt8) (g o cap : Nat) (w : World) (hb : b.length = 64) (_hcap : 64 ≤ cap) (hc : ∀ j, j < 64 → w.cell? ⟨g, o + j, none⟩ = some (.int .u8 ((b.getD j 0).toNat : Int))) :
    Calls Tryd.prog 89 #[.slice (some ⟨g, o, none⟩) 64 cap] w fun e w' => e = .returned (.agg (w32 (sched b 64))) ∧ Below w.heap.size w w' := by
  have HC := Lib.hid hc
  clear hc
  go_enter Tryd.func89, Tryd.ntmps89
  go_wp2_with fail
  go_loopw [4] (fun i wr => ∃ t : Nat, t ≤ 16 ∧ i = .int .i64 t ∧ SchedW w b t (sched b t ++ List.replicate (64 - t) 0) wr) (fun i _ => 16 - (intOf i).toNat)
  case atStart =>
    refine ⟨0, by omega, rfl, ⟨?_, ?_, ?_⟩⟩
    · exact (((Below.refl _ _).alloc (Nat.le_refl _) _).alloc (by simp) _)
    · rw [heap_alloc2_old]; rfl
    · rw [heap_alloc2_new]; rfl
  case round =>
    obtain ⟨t, ht, rfl, hS⟩ := hrel
    have hlen : (sched b t ++ List.replicate (64 - t) 0).length = 64 := by rw [List.length_append, sched_length, List.length_replicate]; omega
    have HL := Lib.hid hlen
    clear hlen
    by_cases h16 : t < 16
    · have d16 : decide ((t : Int) < 16) = true := decide_eq_true (by omega)
      have hcw : ∀ j, j < 64 → wr.cell? ⟨g, o + j, none⟩ = some (.int .u8 ((b.getD j 0).toNat : Int)) := fun j hj => pw_cell hS.low (HC.out j hj)
      have b0 := hcw (4 * t) (by omega)
      have b1 := hcw (4 * t + 1) (by omega)
      have b2 := hcw (4 * t + 2) (by omega)
      have b3 := hcw (4 * t + 3) (by omega)
      obtain ⟨ct, cf⟩ := hS.cell t (by rw [HL.out]; omega)
      obtain ⟨y0, hy0⟩ : ∃ y, y = b.getD (4 * t) 0 := ⟨_, rfl⟩
      obtain ⟨y1, hy1⟩ : ∃ y, y = b.getD (4 * t + 1) 0 := ⟨_, rfl⟩
      obtain ⟨y2, hy2⟩ : ∃ y, y = b.getD (4 * t + 2) 0 := ⟨_, rfl⟩
      obtain ⟨y3, hy3⟩ : ∃ y, y = b.getD (4 * t + 3) 0 := ⟨_, rfl⟩
      rw [← hy0] at b0
      rw [← hy1] at b1
      rw [← hy2] at b2
      rw [← hy3] at b3
      have HY := Lib.hid (And.intro hy0 (And.intro hy1 (And.intro hy2 hy3)))
      have HS := Lib.hid hS
      clear hy0 hy1 hy2 hy3 hcw hS
      go_wp2_with fail
      go_region
      go_wp2_with fail
      go_roundw
      case rel => exact ⟨t + 1, by omega, by go_num, by
        rw [or4 y0.toNat y1.toNat y2.toNat y3.toNat y0.toNat_lt y1.toNat_lt y2.toNat_lt y3.toNat_lt]
        have hp := HS.out.put t (nextN b (sched b t) t) ((((y0.toNat * 256 + y1.toNat) * 256 + y2.toNat) * 256 + y3.toNat : Nat) : Int) (by
          unfold nextN
          rw [if_pos h16, be4 (b.drop (4 * t)) (by rw [List.length_drop]; omega)]
          obtain ⟨e0, e1, e2, e3⟩ := HY.out
          simp only [List.getD_eq_getElem?_getD, List.getElem?_drop, Nat.add_zero] at e0 e1 e2 e3 ⊢
          rw [e0, e1, e2, e3])
        rw [sched_next b t _ (by omega) rfl] at hp
        exact ⟨hp.low.drew, hp.res, hp.var⟩⟩
      case measure => simp [intOf]; omega
    · have d16 : decide ((t : Int) < 16) = false := decide_eq_false (by omega)
      obtain rfl : t = 16 := by omega
      go_wp2_with fail
      go_loopw [5] (fun i wr => ∃ t : Nat, 16 ≤ t ∧ t ≤ 64 ∧ i = .int .i64 t ∧ SchedW w b t (sched b t ++ List.replicate (64 - t) 0) wr) (fun i _ => 64 - (intOf i).toNat)
      case atStart => exact ⟨16, by omega, by omega, rfl, hS⟩
      case round =>
        clear hS HL
        obtain ⟨t, h16, ht, rfl, hS⟩ := hrel
        have hlen : (sched b t ++ List.replicate (64 - t) 0).length = 64 := by rw [List.length_append, sched_length, List.length_replicate]; omega
        have HL := Lib.hid hlen
        clear hlen
        by_cases h64 : t < 64
        · have d64 : decide ((t : Int) < 64) = true := decide_eq_true (by omega)
          obtain ⟨c15, -⟩ := hS.cell (t - 15) (by rw [HL.out]; omega)
          obtain ⟨c2, -⟩ := hS.cell (t - 2) (by rw [HL.out]; omega)
          obtain ⟨c16, -⟩ := hS.cell (t - 16) (by rw [HL.out]; omega)
          obtain ⟨c7, -⟩ := hS.cell (t - 7) (by rw [HL.out]; omega)
          obtain ⟨ct, cf⟩ := hS.cell t (by rw [HL.out]; omega)
          rw [sched_old b t _ (by omega)] at c15 c2 c16 c7
          have hlt := sched_lt b t
          obtain ⟨x15, h15⟩ : ∃ x, x = (sched b t).getD (t - 15) 0 := ⟨_, rfl⟩
          obtain ⟨x2, h2⟩ : ∃ x, x = (sched b t).getD (t - 2) 0 := ⟨_, rfl⟩
          obtain ⟨x16, h16'⟩ : ∃ x, x = (sched b t).getD (t - 16) 0 := ⟨_, rfl⟩
          obtain ⟨x7, h7⟩ : ∃ x, x = (sched b t).getD (t - 7) 0 := ⟨_, rfl⟩
          have l15 : x15 < 4294967296 := h15 ▸ getD_lt hlt _
          have l2 : x2 < 4294967296 := h2 ▸ getD_lt hlt _
          have l16 : x16 < 4294967296 := h16' ▸ getD_lt hlt _
          have l7 : x7 < 4294967296 := h7 ▸ getD_lt hlt _
          rw [← h15] at c15
          rw [← h2] at c2
          rw [← h16'] at c16
          rw [← h7] at c7
          have H15 := Lib.hid h15
          have H2 := Lib.hid h2
          have H16 := Lib.hid h16'
          have H7 := Lib.hid h7
          clear h15 h2 h16' h7 hlt
          go_upto_region 9 with fail
          go_cut [6] (fun v6 wx => v6 = .int .u32 (((rotlN x15 25 ^^^ rotlN x15 14) ^^^ x15 / 8 : Nat) : Int) ∧ ∃ m, wx = wr.drewN m)
          case first =>
            go_quiet ((go_at_call 90; (first | ((with_reducible show Calls _ _ #[_, Value.int _ 7] _ _); exact rotr_7 x15 _ _ l15) | exact rotr_18 x15 _ _ l15)))
            go_wp2_with fail
            go_meet
            exact ⟨congrArg (Value.int .u32) (sig0_int x15 l15), _, rfl⟩
          case rest =>
            obtain ⟨rfl, m1, rfl⟩ := hcut
            go_upto_region 10 with fail
            go_cut [7] (fun v7 wx => v7 = .int .u32 (((rotlN x2 15 ^^^ rotlN x2 13) ^^^ x2 / 1024 : Nat) : Int) ∧ ∃ m, wx = wr.drewN m)
            case first =>
              obtain ⟨w3, hw3⟩ : ∃ w3 : World, w3 = wr.drewN m1 := ⟨_, rfl⟩
              rw [← hw3]
              have c2' : w3.cell? ⟨w.heap.size + 1, t - 2, none⟩ = some (.int .u32 x2) := by rw [hw3]; exact c2
              have HW3 := Lib.hid hw3
              clear hw3 c2
              go_quiet ((go_at_call 90; (first | ((with_reducible show Calls _ _ #[_, Value.int _ 17] _ _); exact rotr_17 x2 _ _ l2) | exact rotr_19 x2 _ _ l2)))
              go_wp2_with fail
              go_meet
              exact ⟨congrArg (Value.int .u32) (sig1_int x2 l2), m1 + nq, by rw [HW3.out]; simp⟩
            case rest =>
              obtain ⟨rfl, m2, rfl⟩ := hcut
              obtain ⟨s0, hs0⟩ : ∃ s, s = ((rotlN x15 25 ^^^ rotlN x15 14) ^^^ x15 / 8) := ⟨_, rfl⟩
              obtain ⟨s1, hs1⟩ : ∃ s, s = ((rotlN x2 15 ^^^ rotlN x2 13) ^^^ x2 / 1024) := ⟨_, rfl⟩
              rw [← hs0, ← hs1]
              have HS0 := Lib.hid hs0
              have HS1 := Lib.hid hs1
              clear hs0 hs1
              obtain ⟨w3, hw3⟩ : ∃ w3 : World, w3 = wr.drewN m2 := ⟨_, rfl⟩
              rw [← hw3]
              have c16' : w3.cell? ⟨w.heap.size + 1, t - 16, none⟩ = some (.int .u32 x16) := by rw [hw3]; exact c16
              have c7' : w3.cell? ⟨w.heap.size + 1, t - 7, none⟩ = some (.int .u32 x7) := by rw [hw3]; exact c7
              have ct' : w3.cell? ⟨w.heap.size + 1, t, none⟩ = some (.int .u32 ((sched b t ++ List.replicate (64 - t) 0).getD t 0 : Nat)) := by rw [hw3]; exact ct
              have cf' : w3.frozen? ⟨w.heap.size + 1, t, none⟩ = false := by rw [hw3]; exact cf
              have hS3 : SchedW w b t (sched b t ++ List.replicate (64 - t) 0) w3 := by rw [hw3]; exact ⟨below_drewN hS.low _, hS.res, hS.var⟩
              have HS3 := Lib.hid hS3
              clear hw3 c15 c2 c16 c7 ct cf hS hS3
              go_wp2_with fail
              go_region
              all_goals
                go_wp2_with fail
                go_roundw
                case rel => exact ⟨t + 1, by omega, by omega, by go_num, by
                  have hp := HS3.out.put t (nextN b (sched b t) t) (((x16 : Int) + s0 + x7 + s1) % 4294967296) (by
                    unfold nextN
                    rw [if_neg (by omega), ← H16.out, ← H15.out, ← H7.out, ← H2.out, ← HS0.out, ← HS1.out]
                    omega)
                  rw [sched_next b t _ h64 rfl] at hp
                  exact ⟨hp.low.drew, hp.res, hp.var⟩⟩
                case measure => simp [intOf]; omega
        · have d64 : decide ((t : Int) < 64) = false := decide_eq_false (by omega)
          obtain rfl : t = 64 := by omega
          have hvar := hS.var
          have hres := hS.res
          have hlow := hS.low
          simp only [Nat.sub_self, List.replicate_zero, List.append_nil] at hvar
          have HS := Lib.hid hS
          clear hS
          go_wp2_with (first
            | ((with_reducible show wpList _ _ _ (⟨some 100, _, _, _, _, _⟩ :: _) _ _); refine wpList_load_row rfl 121 (.tmp 3) rfl (w.heap.size + 1) rfl 121 _ (0, 0) _ hvar Tryd.underlying121 rfl (by rw [w32_size, sched_length]; kernel_rfl) ?_)
            | ((with_reducible show wpList _ _ _ (⟨none, .store 121 _ _, _, _, _, _⟩ :: _) _ _); refine wpList_store_row rfl 121 (.tmp 2) (.tmp 100) rfl w.heap.size _ rfl rfl 121 _ hres (by rw [w32_size, sched_length]; kernel_rfl) (by rw [w32_size, w32_size, sched_length]; rfl) (w32_one _) ?_))
          refine bodyPost_ret (v := .agg (w32 (sched b 64))) (results_cell_row rfl _ _ w.heap.size 121 _ (0, 0) _ rfl (setRow_heap _ _ _ _ _ _ hres) Tryd.underlying121 rfl (by rw [w32_size, sched_length]; kernel_rfl)) rfl ⟨rfl, ?_⟩
          exact below_setRow hlow (Nat.le_refl _) _
end Go.Proofs.YtbgijijecipjeaaDoor
namespace Go.Proofs.YtbgijijecipjeaaDoor
open Go.RowKit Go.IntWalk Go.Proofs.YtbgijijecipjeaaDoorW.PrintWords

/-- The specification's table of the round constants lies where its variable lies. -/
def TabR (w : World) : Prop := w.rangeAt 1 0 (w32 shaK).toList
theorem TabR.lt {w : World} (h : TabR w) : 1 < w.heap.size := World.block_lt_of_cell? w _ (h 0 (.int .u32 1116352408) (by rfl))
theorem TabR.below {w w' : World} (h : TabR w) (hb : Below w.heap.size w w') : TabR w' := fun j v hv => pw_cell hb (h j v hv)
theorem TabR.setRow {wr : World} (h : TabR wr) (q : Nat) (hq : 1 < q) (cs : Array Value) : TabR (wr.setRow q cs) := fun j v hv => by
  rw [cell_setRow_other _ _ _ _ (by simp; omega)]; exact h j v hv
theorem TabR.at_ {w : World} (h : TabR w) (t : Nat) (ht : t < 64) : w.cell? ⟨1, t, none⟩ = some (.int .u32 (shaK.getD t 0 : Nat)) := by
  have h1 := h t (.int .u32 (shaK.getD t 0 : Nat)) (by rw [Array.getElem?_toList]; exact w32_at shaK t (by rw [shaK_length]; exact ht))
  rwa [Nat.zero_add] at h1

/-- 'xs[l:h]' of a row from its start. -/
theorem cut_blk {P : Program} (t e : TypeId) (kl kh : IntKind) {i : TypeInfo} (ht : P.underlying t = some (.slice e)) (hi : P.info? e = some i) (hsz : i.size = 1) (g n c l h : Nat) (hl : l < h) (hh : h ≤ n) (hc : n ≤ c) (W : World) :
    (Instr.slice t (.slice (some ⟨g, 0, none⟩) n c) (some (.int kl (l : Int))) (some (.int kh (h : Int))) none).run P W = .ok (.slice (some ⟨g, l, none⟩) (h - l) (c - l)) W := by
  have hel : P.elem t = e := by simp [Program.elem, ht]
  have hu : P.underlying t = some (.slice (P.elem t)) := by rw [hel]; exact ht
  rw [run_slice_lh (w := W) t (some ⟨g, 0, none⟩) n c hu kl kh (l : Int) (h : Int) (by omega) (by omega) (by omega), hel]
  have e1 : ¬ c = l := by omega
  simp [sizeOf, typeInfo, hi, hsz, sliced, Result.andThen, e1]
  unfold Addr.add
  split <;> simp_all

/-- The words s of which the first i have been raised by v. -/
def addS8 (s v : St) (i : Nat) : List Nat := [
  if 0 < i then (s.a + v.a) % 4294967296 else s.a, if 1 < i then (s.b + v.b) % 4294967296 else s.b, if 2 < i then (s.c + v.c) % 4294967296 else s.c, if 3 < i then (s.d + v.d) % 4294967296 else s.d,
  if 4 < i then (s.e + v.e) % 4294967296 else s.e, if 5 < i then (s.f + v.f) % 4294967296 else s.f, if 6 < i then (s.g + v.g) % 4294967296 else s.g, if 7 < i then (s.h + v.h) % 4294967296 else s.h]
theorem addS8_step (s v : St) (i : Nat) (hi : i < 8) : (addS8 s v i).set i (((addS8 s v i).getD i 0 + v.list.getD i 0) % 4294967296) = addS8 s v (i + 1) := by
  rcases (show i = 0 ∨ i = 1 ∨ i = 2 ∨ i = 3 ∨ i = 4 ∨ i = 5 ∨ i = 6 ∨ i = 7 by omega) with rfl | rfl | rfl | rfl | rfl | rfl | rfl | rfl <;> rfl
theorem addS8_zero (s v : St) : addS8 s v 0 = s.list := rfl
theorem addS8_eight (s v : St) : addS8 s v 8 = (addN s v).list := rfl
theorem addS8_length (s v : St) (i : Nat) : (addS8 s v i).length = 8 := rfl

/-- The state of the specification's sum: the result's row, the words, the padded message. -/
structure SumR (w : World) (sl : List Nat) (msg : List UInt8) (g : Nat) (wr : World) : Prop where
  low : Below w.heap.size w wr
  tab : TabR wr
  rb : wr.heap[w.heap.size]? = some (.cells (Lib.byteCells (List.replicate 32 0)).toArray 89 (0, 0))
  sb : wr.heap[w.heap.size + 1]? = some (.cells (w32 sl) 83 (0, 0))
  mb : ∀ j, j < msg.length → wr.cell? ⟨g, j, none⟩ = some (.int .u8 ((msg.getD j 0).toNat : Int))
  hg : w.heap.size + 2 ≤ g
  h0 : 1 < w.heap.size
theorem SumR.later {w : World} {sl : List Nat} {msg : List UInt8} {g : Nat} {wr w1 : World} (h : SumR w sl msg g wr) (hb : Below wr.heap.size wr w1) : SumR w sl msg g w1 :=
  ⟨h.low.trans (hb.mono h.low.size), h.tab.below hb, (hb.block _ (Array.getElem?_eq_some_iff.1 h.rb).1).trans h.rb, (hb.block _ (Array.getElem?_eq_some_iff.1 h.sb).1).trans h.sb, fun j hj => pw_cell hb (h.mb j hj), h.hg, h.h0⟩
theorem SumR.setQ {w : World} {sl : List Nat} {msg : List UInt8} {g : Nat} {wr : World} (h : SumR w sl msg g wr) (q : Nat) (h1 : w.heap.size + 2 ≤ q) (h2 : q ≠ g) (cs : Array Value) : SumR w sl msg g (wr.setRow q cs) := by
  have h0 := h.h0
  refine ⟨below_setRow h.low (by omega) _, h.tab.setRow q (by omega) _, (setRow_other _ _ _ _ (by omega)).trans h.rb, (setRow_other _ _ _ _ (by omega)).trans h.sb, fun j hj => ?_, h.hg, h0⟩
  rw [cell_setRow_other _ _ _ _ (by simp; omega)]
  exact h.mb j hj
theorem SumR.setS {w : World} {sl : List Nat} {msg : List UInt8} {g : Nat} {wr : World} (h : SumR w sl msg g wr) (sl2 : List Nat) : SumR w sl2 msg g (wr.setRow (w.heap.size + 1) (w32 sl2)) := by
  have h0 := h.h0
  have hg := h.hg
  refine ⟨below_setRow h.low (by omega) _, h.tab.setRow _ (by omega) _, (setRow_other _ _ _ _ (by omega)).trans h.rb, setRow_heap _ _ _ _ _ _ h.sb, fun j hj => ?_, h.hg, h0⟩
  rw [cell_setRow_other _ _ _ _ (by simp; omega)]
  exact h.mb j hj
/-- The state of the rounds of a block. -/
structure RoundR (w : World) (sl : List Nat) (msg : List UInt8) (g : Nat) (v : St) (ws : List Nat) (p q : Nat) (wr : World) : Prop where
  base : SumR w sl msg g wr
  wb : wr.heap[p]? = some (.cells (w32 ws) 121 (0, 0))
  vb : wr.heap[q]? = some (.cells (w32 v.list) 83 (0, 0))
  hp : w.heap.size + 2 ≤ p
  hq : w.heap.size + 2 ≤ q
  pq : p ≠ q
  qg : q ≠ g
theorem RoundR.drewN {w : World} {sl : List Nat} {msg : List UInt8} {g : Nat} {v : St} {ws : List Nat} {p q : Nat} {wr : World} (h : RoundR w sl msg g v ws p q wr) (n : Nat) : RoundR w sl msg g v ws p q (wr.drewN n) :=
  ⟨⟨below_drewN h.base.low n, h.base.tab, h.base.rb, h.base.sb, h.base.mb, h.base.hg, h.base.h0⟩, h.wb, h.vb, h.hp, h.hq, h.pq, h.qg⟩
theorem RoundR.setV {w : World} {sl : List Nat} {msg : List UInt8} {g : Nat} {v : St} {ws : List Nat} {p q : Nat} {wr : World} (h : RoundR w sl msg g v ws p q wr) (v2 : St) : RoundR w sl msg g v2 ws p q (wr.setRow q (w32 v2.list)) :=
  ⟨h.base.setQ q h.hq h.qg _, (setRow_other _ _ _ _ h.pq).trans h.wb, setRow_heap _ _ _ _ _ _ h.vb, h.hp, h.hq, h.pq, h.qg⟩
theorem RoundR.putS {w : World} {sl : List Nat} {msg : List UInt8} {g : Nat} {v : St} {ws : List Nat} {p q : Nat} {wr : World} (h : RoundR w sl msg g v ws p q wr) (i x : Nat) (y : Int) (hy : y = (x : Int)) :
    RoundR w (sl.set i x) msg g v ws p q (wr.setCell ⟨w.heap.size + 1, i, none⟩ (.int .u32 y)).drew := by
  subst hy
  have h1 := h.hp; have h2 := h.hq
  rw [setCell_eq_setRow _ _ _ _ _ _ _ h.base.sb, w32_set]
  have hS := h.base.setS (sl.set i x)
  exact ⟨⟨hS.low.drew, hS.tab, hS.rb, hS.sb, hS.mb, hS.hg, hS.h0⟩, (setRow_other _ _ _ _ (by omega)).trans h.wb, (setRow_other _ _ _ _ (by omega)).trans h.vb, h1, h2, h.pq, h.qg⟩
/-- The state while the result is written. -/
structure OutR (w : World) (sl : List Nat) (msg : List UInt8) (g q : Nat) (l : List UInt8) (wr : World) : Prop where
  base : SumR w sl msg g wr
  ob : wr.heap[q]? = some (.cells (Lib.byteCells l).toArray 89 (0, 0))
  hq : w.heap.size + 2 ≤ q
  qg : q ≠ g
theorem OutR.put {w : World} {sl : List Nat} {msg : List UInt8} {g q : Nat} {l : List UInt8} {wr : World} (h : OutR w sl msg g q l wr) (i : Nat) (x : UInt8) (y : Int) (hy : y = (x.toNat : Int)) :
    OutR w sl msg g q (l.set i x) (wr.setCell ⟨q, i, none⟩ (.int .u8 y)) := by
  rw [setCell_eq_setRow _ _ _ _ _ _ _ h.ob, bytes_set _ _ _ _ hy]
  exact ⟨h.base.setQ q h.hq h.qg _, setRow_heap _ _ _ _ _ _ h.ob, h.hq, h.qg⟩
structure CellsV (v : St) (q : Nat) (wr : World) : Prop where
  c0 : wr.cell? ⟨q, 0, none⟩ = some (.int .u32 v.a)
  c1 : wr.cell? ⟨q, 1, none⟩ = some (.int .u32 v.b)
  c2 : wr.cell? ⟨q, 2, none⟩ = some (.int .u32 v.c)
  c3 : wr.cell? ⟨q, 3, none⟩ = some (.int .u32 v.d)
  c4 : wr.cell? ⟨q, 4, none⟩ = some (.int .u32 v.e)
  c5 : wr.cell? ⟨q, 5, none⟩ = some (.int .u32 v.f)
  c6 : wr.cell? ⟨q, 6, none⟩ = some (.int .u32 v.g)
  c7 : wr.cell? ⟨q, 7, none⟩ = some (.int .u32 v.h)
theorem RoundR.cells {w : World} {sl : List Nat} {msg : List UInt8} {g : Nat} {v : St} {ws : List Nat} {p q : Nat} {wr : World} (h : RoundR w sl msg g v ws p q wr) : CellsV v q wr := by
  constructor <;> (rw [cell_of_row _ _ _ _ _ _ h.vb]; rfl)
theorem ch_intR (v : St) (h : v.Ok) : bits BinOp.xor IntKind.u32 (bits BinOp.and IntKind.u32 (v.e : Int) (v.f : Int)) (bits BinOp.and IntKind.u32 (bits BinOp.xor IntKind.u32 (v.e : Int) 4294967295) (v.g : Int)) = (((v.e &&& v.f) ^^^ ((4294967295 - v.e) &&& v.g) : Nat) : Int) := by
  have e1 : bits BinOp.xor IntKind.u32 (v.e : Int) 4294967295 = ((4294967295 - v.e : Nat) : Int) := by
    rw [← not32 _ h.e, show IntKind.u32.max = ((4294967295 : Nat) : Int) by decide +kernel, xor32 _ _ (by decide) h.e]
    have := xor32 v.e 4294967295 h.e (by decide)
    rw [Nat.xor_comm, ← this]; rfl
  rw [e1, and32 _ _ (by have := h.e; omega) h.g, and32 _ _ h.e h.f, xor32 _ _ (Nat.and_lt_two_pow (n := 32) _ h.f) (Nat.and_lt_two_pow (n := 32) _ h.g)]
theorem mixE (x : Nat) (h : x < 4294967296) : bits BinOp.xor IntKind.u32 (bits BinOp.xor IntKind.u32 (rotlN x 26) (rotlN x 21)) (rotlN x 7) = (mixN x 6 11 25 : Int) := mixN_int x 6 11 25 h
theorem mixA (x : Nat) (h : x < 4294967296) : bits BinOp.xor IntKind.u32 (bits BinOp.xor IntKind.u32 (rotlN x 30) (rotlN x 19)) (rotlN x 10) = (mixN x 2 13 22 : Int) := mixN_int x 2 13 22 h

set_option maxRecDepth 100000 in
set_option maxHeartbeats 800000 in
theorem rsum_any (A : Option Addr) (c : Nat) (b : List UInt8) (w : World) (hT : TabR w) (hr : ReadsInt w .u8 A b.length (bi b)) (hl : b.length ≤ 35184372088832) :
    Calls Tryd.prog 74 #[.slice A b.length c] w fun e w' => e = .returned (.agg (Lib.byteCells (sha b)).toArray) ∧ Below w.heap.size w w' := by
  have HR := Lib.hid hr
  clear hr
  obtain ⟨msg, hmsg⟩ : ∃ m, m = b ++ padN b.length := ⟨_, rfl⟩
  obtain ⟨K, hK⟩ : ∃ K, msg.length = 64 * K ∧ 0 < K := ⟨msg.length / 64, by rw [hmsg, List.length_append, padN_length]; omega⟩
  obtain ⟨hK, hK0⟩ := hK
  have hK2 : 64 * K ≤ 35184372088832 + 128 := by rw [← hK, hmsg, List.length_append, padN_length]; omega
  have hsha : sha b = (blocksN msg K).bytes := by rw [sha, ← hmsg, hK, Nat.mul_div_cancel_left _ (by decide)]
  obtain ⟨N, hN⟩ : ∃ N, N = 64 * K := ⟨_, rfl⟩
  have hN1 : N ≤ 64 * K := by omega
  have hN2 : 64 * K ≤ N := by omega
  rw [← hN] at hK
  have HSHA := Lib.hid hsha
  have HMSG := Lib.hid hmsg
  have HK := Lib.hid hK
  clear hsha hmsg hK hN
  go_enter Tryd.func74, Tryd.ntmps74
  go_wp2_with fail
  obtain ⟨w0, hw0⟩ : ∃ w0, w0 = (w.alloc (.cells (Lib.byteCells (List.replicate 32 0)).toArray 89)).alloc (.cells (w32 shaInit.list) 83) := ⟨_, rfl⟩
  have hB0 : Below w.heap.size w w0 := by rw [hw0]; exact ((Below.refl _ _).alloc (Nat.le_refl _) _).alloc (by simp) _
  have hz0 : w0.heap.size = w.heap.size + 2 := by rw [hw0]; simp
  have hr0 : w0.heap[w.heap.size]? = some (.cells (Lib.byteCells (List.replicate 32 0)).toArray 89 (0, 0)) := by rw [hw0]; exact heap_alloc2_old _ _ _
  have hs0 : w0.heap[w.heap.size + 1]? = some (.cells (w32 shaInit.list) 83 (0, 0)) := by rw [hw0]; exact heap_alloc2_new _ _ _
  have hpd := padded_any A c b w0 (HR.out.below hB0) hl
  rw [← HMSG.out, hw0] at hpd
  refine hpd.mono ?_
  rw [← hw0]
  clear hpd
  rintro e w1 ⟨m, rfl, hown, hB1⟩
  rw [bi_length, HK.out] at hown
  obtain ⟨g, cap, rfl, hgb, hgl⟩ := hown.form (by omega)
  have hcap := own_cap hown
  have hmb : ∀ j, j < msg.length → w1.cell? ⟨g, j, none⟩ = some (.int .u8 ((msg.getD j 0).toNat : Int)) := fun j hj => by
    obtain ⟨hc1, -⟩ := own_at hown j (by omega) (by have := HK.out; omega)
    rw [Int.toNat_natCast] at hc1
    rw [hc1]
    simp [rd, bi, List.getD_eq_getElem?_getD, List.getElem?_eq_getElem hj]
  have hS0 : SumR w shaInit.list msg g w1 :=
    ⟨hB0.trans (hB1.mono (by omega)), (hT.below hB0).below hB1, (hB1.block _ (by omega)).trans hr0, (hB1.block _ (by omega)).trans hs0, hmb, by omega, hT.lt⟩
  have HS0 := Lib.hid hS0
  obtain ⟨ii, hii, hsz⟩ : ∃ ii, Tryd.prog.info? 5 = some ii ∧ ii.size = 1 := by
    obtain ⟨ii, hii, hz⟩ := Option.map_eq_some_iff.1 infoU8
    exact ⟨ii, hii, by simp only [Prod.mk.injEq] at hz; exact hz.2.1⟩
  have HCUT := Lib.hid (fun l h (h1 : l < h) (h2 : h ≤ N) W => cut_blk 56 5 .i64 .i64 Tryd.underlying56 hii hsz g N cap l h h1 h2 hcap W)
  have hT3 := hT.lt
  clear hw0 hB0 hz0 hr0 hs0 hB1 hown hmb hS0 hii hsz hgl hgb HR
  go_wp2_with fail
  go_loopw [5] (fun v5 wr => ∃ k : Nat, k ≤ K ∧ v5 = .int .i64 ((64 * k : Nat) : Int) ∧ SumR w (blocksN msg k).list msg g wr) (fun v5 _ => N - (intOf v5).toNat)
  case atStart => exact ⟨0, by omega, rfl, HS0.out⟩
  case round =>
    clear HS0
    obtain ⟨k, hk, rfl, hS⟩ := hrel
    have hso := blocksN_ok msg k
    obtain ⟨s, hs⟩ : ∃ s, s = blocksN msg k := ⟨_, rfl⟩
    rw [← hs] at hS hso
    have HSS := Lib.hid hs
    clear hs
    obtain ⟨a, ha⟩ : ∃ a, a = 64 * k := ⟨_, rfl⟩
    rw [← ha]
    by_cases hlt : k < K
    · have d1 : decide ((a : Int) < (N : Int)) = true := decide_eq_true (by omega)
      have d2 : a < N := by omega
      have hsl : ∀ W : World, (Instr.slice 56 (.slice (some ⟨g, 0, none⟩) N cap) (some (.int .i64 (a : Int))) (some (.int .i64 ((a : Int) + 64))) none).run Tryd.prog W = .ok (.slice (some ⟨g, a, none⟩) 64 (cap - a)) W := fun W => by
        have h := HCUT.out a (a + 64) (by omega) (by omega) W
        rw [show a + 64 - a = 64 by omega] at h
        exact h
      obtain ⟨blk, hblk⟩ : ∃ blk, blk = (msg.drop (64 * k)).take 64 := ⟨_, rfl⟩
      have hbl : blk.length = 64 := by rw [hblk, List.length_take, List.length_drop, HK.out]; omega
      have hbc : ∀ j, j < 64 → wr.cell? ⟨g, a + j, none⟩ = some (.int .u8 ((blk.getD j 0).toNat : Int)) := fun j hj => by
        rw [hS.mb (a + j) (by rw [HK.out]; omega), hblk]
        simp [List.getD_eq_getElem?_getD, hj, ha]
      have hwd := words_any blk g a (cap - a) wr hbl (by omega) hbc
      have HBLK := Lib.hid hblk
      have HS := Lib.hid hS
      have HWD := Lib.hid hwd
      have HA := Lib.hid ha
      clear hblk hbc hS hwd ha
      go_wp2_with fail
      refine HWD.out.mono ?_
      rintro e w2 ⟨rfl, hB2⟩
      have hS2 := HS.out.later hB2
      have hsb2 := hS2.sb
      have hz2 := hS2.low.size
      have hr2 := (Array.getElem?_eq_some_iff.1 hsb2).1
      have hl64 : (w32 (sched blk 64)).size = 64 := by rw [w32_size, sched_length]
      have hsb3 : (w2.alloc (.cells (w32 (sched blk 64)) 121)).heap[w.heap.size + 1]? = some (.cells (w32 s.list) 83 (0, 0)) := (heap_alloc_old _ _ hr2).trans hsb2
      have HL64 := Lib.hid hl64
      have HSB3 := Lib.hid hsb3
      have HS2 := Lib.hid hS2
      clear hS2 hsb2 hl64 hsb3
      go_wp2_with (first
        | ((with_reducible show wpList _ _ _ (⟨none, .store 121 _ _, _, _, _, _⟩ :: _) _ _); go_must (refine wpList_store_row rfl 121 (.tmp 6) (.tmp 28) rfl w2.heap.size _ rfl rfl 121 _ (heap_alloc_new _ _) (by rw [HL64.out]; kernel_rfl) (by rw [HL64.out]; rfl) (w32_one _) ?_); rw [World.setRow_alloc_new]; simp only [Act.put])
        | ((with_reducible show wpList _ _ _ (⟨some 29, _, _, _, _, _⟩ :: _) _ _); go_must (refine wpList_load_row rfl 83 (.tmp 3) rfl (w.heap.size + 1) rfl 83 _ (0, 0) _ HSB3.out Tryd.underlying83 rfl (by kernel_rfl) ?_))
        | ((with_reducible show wpList _ _ _ (⟨none, .store 83 _ _, _, _, _, _⟩ :: _) _ _); go_must (refine wpList_store_row rfl 83 (.tmp 7) (.tmp 29) rfl (w2.heap.size + 1) _ rfl rfl 83 _ (heap_alloc2_new _ _ _) (by kernel_rfl) rfl (w32_one _) ?_); simp only [Act.put]))
      obtain ⟨p, hp⟩ : ∃ p, p = w2.heap.size := ⟨_, rfl⟩
      obtain ⟨q, hq⟩ : ∃ q, q = w2.heap.size + 1 := ⟨_, rfl⟩
      obtain ⟨w3, hw3⟩ : ∃ w3, w3 = ((w2.alloc (.cells (w32 (sched blk 64)) 121)).alloc (.cells (w32 (List.replicate 8 0)) 83)).setRow (w2.heap.size + 1) (w32 s.list) := ⟨_, rfl⟩
      have hR0 : RoundR w s.list msg g s (sched blk 64) p q w3 := by
        have h1 := (HS2.out.later ((Below.refl _ _).alloc (Nat.le_refl _) (.cells (w32 (sched blk 64)) 121))).later ((Below.refl _ _).alloc (Nat.le_refl _) (.cells (w32 (List.replicate 8 0)) 83))
        have hgm : g < w2.heap.size := World.block_lt_of_cell? w2 _ (HS2.out.mb 0 (by rw [HK.out]; omega))
        rw [hw3, hp, hq]
        exact ⟨h1.setQ _ (by omega) (by omega) _, (setRow_other _ _ _ _ (by omega)).trans (heap_alloc2_old _ _ _), setRow_heap _ _ _ _ _ _ (heap_alloc2_new _ _ _), by omega, by omega, by omega, by omega⟩
      have HR0 := Lib.hid hR0
      have hw3' : ((w2.alloc (.cells (w32 (sched blk 64)) 121)).alloc (.cells #[Value.int .u32 0, Value.int .u32 0, Value.int .u32 0, Value.int .u32 0, Value.int .u32 0, Value.int .u32 0, Value.int .u32 0, Value.int .u32 0] 83)).setRow (w2.heap.size + 1) (w32 s.list) = w3 := hw3.symm
      rw [← hq, ← hp]
      rw [← hq] at hw3'
      rw [hw3']
      clear hp hq hw3 hR0 hw3' HSB3 HS2 hB2 hz2 hr2 HS HWD hsl hbl
      go_loopw [8, 9, 10] (fun v8 _ _ wr => ∃ t : Nat, t ≤ 64 ∧ v8 = .int .i64 t ∧ RoundR w s.list msg g (rndsN s (sched blk 64) t) (sched blk 64) p q wr) (fun v8 _ _ _ => 64 - (intOf v8).toNat)
      case atStart => exact ⟨0, by omega, rfl, HR0.out⟩
      case round =>
        clear HR0
        obtain ⟨t, ht, rfl, hR⟩ := hrel
        by_cases h64 : t < 64
        · have d64 : decide ((t : Int) < 64) = true := decide_eq_true (by omega)
          have hv := rndsN_ok hso (sched blk 64) t
          obtain ⟨v, hvd⟩ : ∃ v, v = rndsN s (sched blk 64) t := ⟨_, rfl⟩
          rw [← hvd] at hR hv
          obtain ⟨kt, hkt⟩ : ∃ k, k = shaK.getD t 0 := ⟨_, rfl⟩
          obtain ⟨wt, hwt⟩ : ∃ k, k = (sched blk 64).getD t 0 := ⟨_, rfl⟩
          have ck := hR.base.tab.at_ t h64
          have cw : wr.cell? ⟨p, t, none⟩ = some (.int .u32 ((sched blk 64).getD t 0 : Nat)) := by rw [cell_of_row _ _ _ _ _ _ hR.wb]; exact w32_at _ _ (by rw [sched_length]; exact h64)
          rw [← hkt] at ck
          rw [← hwt] at cw
          obtain ⟨c0, c1, c2, c3, c4, c5, c6, c7⟩ := hR.cells
          have hvb := hR.vb
          have HVD := Lib.hid hvd
          have HKT := Lib.hid hkt
          have HWT := Lib.hid hwt
          have HV := Lib.hid hv
          have HRR := Lib.hid hR
          clear hvd hkt hwt hv hR
          go_upto_region 11 with fail
          go_cut [9] (fun v9 wx => v9 = .int .u32 (t1N v kt wt : Int) ∧ RoundR w s.list msg g v (sched blk 64) p q wx)
          case first =>
            go_quiet ((go_at_call 90; (first | ((with_reducible show Calls _ _ #[_, Value.int _ 6] _ _); exact rotr_6 v.e _ _ HV.out.e) | ((with_reducible show Calls _ _ #[_, Value.int _ 11] _ _); exact rotr_11 v.e _ _ HV.out.e) | exact rotr_25 v.e _ _ HV.out.e)))
            go_wp2_with fail
            go_meet
            refine ⟨congrArg (Value.int .u32) ?_, HRR.out.drewN _⟩
            rw [ch_intR v HV.out, mixE v.e HV.out.e]
            unfold t1N
            omega
          case rest =>
            obtain ⟨rfl, hR5⟩ := hcut
            have hx1 := t1N_lt v kt wt
            obtain ⟨x1, hx1e⟩ : ∃ x, x = t1N v kt wt := ⟨_, rfl⟩
            rw [← hx1e] at hx1 ⊢
            have HX1 := Lib.hid hx1e
            have HR5 := Lib.hid hR5
            clear hx1e ck cw c0 c1 c2 c3 c4 c5 c6 c7 hvb HRR
            obtain ⟨c0, c1, c2, c3, c4, c5, c6, c7⟩ := hR5.cells
            clear hR5
            go_upto_region 12 with fail
            go_cut [10] (fun v10 wx => v10 = .int .u32 (t2N v : Int) ∧ RoundR w s.list msg g v (sched blk 64) p q wx)
            case first =>
              go_quiet ((go_at_call 90; (first | ((with_reducible show Calls _ _ #[_, Value.int _ 2] _ _); exact rotr_2 v.a _ _ HV.out.a) | ((with_reducible show Calls _ _ #[_, Value.int _ 13] _ _); exact rotr_13 v.a _ _ HV.out.a) | exact rotr_22 v.a _ _ HV.out.a)))
              go_wp2_with fail
              go_meet
              refine ⟨congrArg (Value.int .u32) ?_, HR5.out.drewN _⟩
              rw [maj_int v HV.out, mixA v.a HV.out.a]
              unfold t2N
              omega
            case rest =>
              obtain ⟨rfl, hR6⟩ := hcut
              have hx2 := t2N_lt v
              obtain ⟨x2, hx2e⟩ : ∃ x, x = t2N v := ⟨_, rfl⟩
              rw [← hx2e] at hx2 ⊢
              have HX2 := Lib.hid hx2e
              have hvb := hR6.vb
              have HR6 := Lib.hid hR6
              clear hx2e c0 c1 c2 c3 c4 c5 c6 c7 HR5
              obtain ⟨c0, c1, c2, c3, c4, c5, c6, c7⟩ := hR6.cells
              clear hR6
              have hrow : (#[Value.int .u32 (((x1 : Int) + x2) % 4294967296), Value.int .u32 (v.a : Int), Value.int .u32 (v.b : Int), Value.int .u32 (v.c : Int), Value.int .u32 (((v.d : Int) + x1) % 4294967296), Value.int .u32 (v.e : Int), Value.int .u32 (v.f : Int), Value.int .u32 (v.g : Int)] : Array Value) = w32 (rndN v kt wt).list := by
                rw [rndN, ← HX1.out, ← HX2.out]
                simp [w32, St.list]
              have HROW := Lib.hid hrow
              clear hrow
              go_wp2_with ((with_reducible show wpList _ _ _ (⟨none, .store 83 _ _, _, _, _, _⟩ :: _) _ _); go_must (refine wpList_store_row rfl 83 (.tmp 7) (.tmp 117) rfl q _ rfl rfl 83 _ hvb (by kernel_rfl) rfl (by simp [Value.oneCell']) ?_); simp only [Act.put])
              rw [HROW.out]
              go_roundw
              case rel => exact ⟨t + 1, by omega, by go_num, by
                rw [rndsN, ← HVD.out, ← HKT.out, ← HWT.out]
                exact HR6.out.setV _⟩
              case measure => simp [intOf]; omega
        · have d64 : decide ((t : Int) < 64) = false := decide_eq_false (by omega)
          obtain rfl : t = 64 := by omega
          obtain ⟨v, hvd⟩ : ∃ v, v = rndsN s (sched blk 64) 64 := ⟨_, rfl⟩
          rw [← hvd] at hR
          have HVD := Lib.hid hvd
          have HRR := Lib.hid hR
          clear hvd hR
          go_wp2_with fail
          obtain ⟨wo, rfl⟩ : ∃ wo : World, wo = wr := ⟨_, rfl⟩
          go_loopw [11] (fun v11 wr => ∃ i : Nat, i ≤ 8 ∧ v11 = .int .i64 i ∧ RoundR w (addS8 s v i) msg g v (sched blk 64) p q wr) (fun v11 _ => 8 - (intOf v11).toNat)
          case atStart => exact ⟨0, by omega, rfl, by rw [addS8_zero]; exact HRR.out⟩
          case round =>
            clear HRR
            obtain ⟨i, hi, rfl, hA⟩ := hrel
            by_cases h8 : i < 8
            · have d8 : decide ((i : Int) < 8) = true := decide_eq_true (by omega)
              have hq1 := hA.hq
              have nqB : q ≠ w.heap.size + 1 := by omega
              have nqB' : w.heap.size + 1 ≠ q := by omega
              have s0 : wr.cell? ⟨w.heap.size + 1, i, none⟩ = some (.int .u32 ((addS8 s v i).getD i 0 : Nat)) := by rw [cell_of_row _ _ _ _ _ _ hA.base.sb]; exact w32_at _ _ (by rw [addS8_length]; omega)
              have vk : wr.cell? ⟨q, i, none⟩ = some (.int .u32 (v.list.getD i 0 : Nat)) := by rw [cell_of_row _ _ _ _ _ _ hA.vb]; exact w32_at _ _ (by simp [St.list]; omega)
              have f0 : wr.frozen? ⟨w.heap.size + 1, i, none⟩ = false := frozen_of_row _ _ _ _ _ hA.base.sb
              obtain ⟨y0, hy0⟩ : ∃ y, y = (addS8 s v i).getD i 0 := ⟨_, rfl⟩
              obtain ⟨z0, hz0⟩ : ∃ y, y = v.list.getD i 0 := ⟨_, rfl⟩
              rw [← hy0] at s0
              rw [← hz0] at vk
              have HY0 := Lib.hid hy0
              have HZ0 := Lib.hid hz0
              have HAA := Lib.hid hA
              clear hy0 hz0 hA
              go_wp2_with fail
              go_region
              go_wp2_with fail
              go_roundw
              case rel => exact ⟨i + 1, by omega, by go_num, by
                have h1 := HAA.out.putS i ((y0 + z0) % 4294967296) (((y0 : Int) + z0) % 4294967296) (by omega)
                rw [HY0.out, HZ0.out, addS8_step s v i h8] at h1
                rw [HY0.out, HZ0.out]
                exact h1⟩
              case measure => simp [intOf]; omega
            · have d8 : decide ((i : Int) < 8) = false := decide_eq_false (by omega)
              obtain rfl : i = 8 := by omega
              have hb := hA.base
              rw [addS8_eight] at hb
              have HBB := Lib.hid hb
              clear hA hb
              go_wp2_with fail
              go_roundw
              case rel =>
                refine ⟨k + 1, by omega, congrArg (Value.int .i64) (by rw [HA.out]; omega), ?_⟩
                rw [blocksN, ← HSS.out, ← HBLK.out, cmpN, ← HVD.out]
                exact HBB.out
              case measure => simp [intOf]; omega
    · have d1 : decide ((a : Int) < (N : Int)) = false := decide_eq_false (by omega)
      have d2 : ¬ a < N := by omega
      obtain rfl : k = K := by omega
      have hz6 := hS.low.size
      have hgm : g < wr.heap.size := World.block_lt_of_cell? wr _ (hS.mb 0 (by rw [HK.out]; omega))
      have hV0 : OutR w s.list msg g wr.heap.size (s.bytes.take 0 ++ List.replicate (32 - 0) 0) (wr.alloc (.cells (Lib.byteCells (List.replicate 32 0)).toArray 89)) :=
        ⟨hS.later ((Below.refl _ _).alloc (Nat.le_refl _) _), heap_alloc_new _ _, by have := (Array.getElem?_eq_some_iff.1 hS.sb).1; omega, by omega⟩
      have HS := Lib.hid hS
      have HV0 := Lib.hid hV0
      clear hS hV0 ha hgm
      go_wp2_with fail
      obtain ⟨q, hq⟩ : ∃ q, q = wr.heap.size := ⟨_, rfl⟩
      rw [← hq] at HV0 ⊢
      obtain ⟨wo, rfl⟩ : ∃ wo : World, wo = wr := ⟨_, rfl⟩
      go_loopw [13] (fun v13 wr => ∃ i : Nat, i ≤ 32 ∧ v13 = .int .i64 i ∧ OutR w s.list msg g q (s.bytes.take i ++ List.replicate (32 - i) 0) wr) (fun v13 _ => 32 - (intOf v13).toNat)
      case atStart => exact ⟨0, by omega, rfl, HV0.out⟩
      case round =>
        clear HV0 HS
        obtain ⟨i, hi, rfl, hV⟩ := hrel
        have hll : (s.bytes.take i ++ List.replicate (32 - i) 0).length = 32 := by simp [bytes_length]; omega
        by_cases h32 : i < 32
        · have d32 : decide ((i : Int) < 32) = true := decide_eq_true (by omega)
          have cq : wr.cell? ⟨q, i, none⟩ = some (.int .u8 (((s.bytes.take i ++ List.replicate (32 - i) 0).getD i 0).toNat : Int)) := by rw [cell_of_row _ _ _ _ _ _ hV.ob]; exact byteCells_at _ _ (by omega)
          have fq : wr.frozen? ⟨q, i, none⟩ = false := frozen_of_row _ _ _ _ _ hV.ob
          have cs : wr.cell? ⟨w.heap.size + 1, i / 4, none⟩ = some (.int .u32 (s.list.getD (i / 4) 0 : Nat)) := by rw [cell_of_row _ _ _ _ _ _ hV.base.sb]; exact w32_at _ _ (by simp [St.list]; omega)
          have HV := Lib.hid hV
          have HLL := Lib.hid hll
          clear hV hll hq
          go_wp2_with fail
          go_roundw
          case rel => exact ⟨i + 1, by omega, by go_num, by
            rw [← set_prefix s.bytes i (bytes_length _) h32]
            refine HV.out.put i _ _ ?_
            rw [bytes_at s i h32, u8_ofNat, List.getD_eq_getElem?_getD]
            simp⟩
          case measure => simp [intOf]; omega
        · have d32 : decide ((i : Int) < 32) = false := decide_eq_false (by omega)
          obtain rfl : i = 32 := by omega
          have hob := hV.ob
          have hrb := hV.base.rb
          rw [Nat.sub_self, List.replicate_zero, List.append_nil, List.take_of_length_le (by rw [bytes_length]; omega)] at hob
          have HV := Lib.hid hV
          clear hV hll hq
          go_wp2_with (first
            | ((with_reducible show wpList _ _ _ (⟨some 147, _, _, _, _, _⟩ :: _) _ _); go_must (refine wpList_load_row rfl 89 (.tmp 12) rfl q rfl 89 _ (0, 0) _ hob Tryd.underlying89 rfl (by rw [List.size_toArray, Lib.byteCells_length, bytes_length]; kernel_rfl) ?_))
            | ((with_reducible show wpList _ _ _ (⟨none, .store 89 _ _, _, _, _, _⟩ :: _) _ _); go_must (refine wpList_store_row rfl 89 (.tmp 2) (.tmp 147) rfl w.heap.size _ rfl rfl 89 _ hrb (by rw [List.size_toArray, Lib.byteCells_length, bytes_length]; kernel_rfl) (by rw [List.size_toArray, List.size_toArray, Lib.byteCells_length, Lib.byteCells_length, bytes_length]; rfl) (byteCells_all _) ?_)))
          refine bodyPost_ret (v := .agg (Lib.byteCells s.bytes).toArray) (results_cell_row rfl _ _ w.heap.size 89 _ (0, 0) _ rfl (setRow_heap _ _ _ _ _ _ hrb) Tryd.underlying89 rfl (by rw [List.size_toArray, Lib.byteCells_length, bytes_length]; kernel_rfl)) rfl ⟨?_, ?_⟩
          · rw [HSHA.out, ← HSS.out]
          · exact below_setRow HV.out.base.low (Nat.le_refl _) _
end Go.Proofs.YtbgijijecipjeaaDoor
namespace Go.Proofs.YtbgijijecipjeaaDoor
open Go.RowKit Go.IntWalk Go.Proofs.YtbgijijecipjeaaDoorW.PrintWords

set_option maxRecDepth 100000 in
set_option maxHeartbeats 800000 in
theorem rbytes_any (s : ByteArray) (w : World) (hs : s.size ≤ 35184372088832) : Calls Tryd.prog 36 #[.string s] w (RetB (wBytes s.data.toList) w) := by
  have kb := fun W => print_bytes (P := Tryd.prog) 9 56 5 Tryd.underlying9 Tryd.underlying56 Tryd.underlying5 s W
  go_enter Tryd.func36, Tryd.ntmps36
  go_wp2_with fail
  refine (rint_any (s.size : Int) w (by omega) (by omega)).mono ?_
  rintro e w1 ⟨v, rfl, hown, hB⟩
  have hl := wInt_length_le (s.size : Int)
  have hbl := bi_length (wInt (s.size : Int))
  have hz := hB.size
  have HOWN := Lib.hid hown
  have HB := Lib.hid hB
  have HBL := Lib.hid hbl
  clear hown hB hbl
  obtain ⟨wb, hwb⟩ : ∃ wb, wb = Lib.bytesWorld w1 5 s := ⟨_, rfl⟩
  have hrb : ReadsInt wb .u8 (some ⟨w1.heap.size, 0, none⟩) s.size (bi s.data.toList) := by
    have := bytes_reads w1 5 s (by omega)
    rw [← hwb, bytesOf_bi] at this; exact this
  have hBb : Below w1.heap.size w1 wb := by rw [hwb]; exact bytes_below (Below.refl _ _) (Nat.le_refl _) _ _
  have hOb := pw_own_below HOWN.out hBb
  have hBw : Below w.heap.size w wb := HB.out.trans (hBb.mono hz)
  have hzb : w.heap.size ≤ wb.heap.size := hBw.size
  have HRB := Lib.hid hrb
  have HOB := Lib.hid hOb
  have HBW := Lib.hid hBw
  have kb2 : (convert 9 56 (Value.string s)).run Tryd.prog w1 = .ok (.slice (some ⟨w1.heap.size, 0, none⟩) s.size (grownCap w1 s.size 0 5)) wb := by rw [hwb]; exact kb w1
  clear kb hrb hOb hBw hBb hwb HOWN HB
  go_wp2_with (at_builtin; go_must (refine print_append_row (w0 := w) w.heap.size rfl (.tmp 5) (.tmp 7) 56 5 .u8 1 rfl Tryd.underlying56 infoU8 (by decide) _ (bi (wInt (s.size : Int))) (bi s.data.toList) _ s.size _ rfl rfl HOB.out HRB.out HBW.out hzb (by rw [HBL.out]; omega) ?_); intro v3 w3 hown3 hB3 hg3 hat3)
  go_ret
  refine ⟨_, rfl, ?_, hB3⟩
  rw [← bi_append] at hown3
  rw [wBytes, ← Lib.size_eq]
  exact hown3

/-- The state while the first bytes are taken. -/
structure ShortW (w : World) (h : List UInt8) (p : Nat) (l : List UInt8) (wr : World) : Prop where
  low : Below w.heap.size w wr
  rb : wr.heap[w.heap.size]? = some (.cells (Lib.byteCells (List.replicate 16 0)).toArray 36 (0, 0))
  hb : wr.heap[p]? = some (.cells (Lib.byteCells h).toArray 89 (0, 0))
  ob : wr.heap[p + 1]? = some (.cells (Lib.byteCells l).toArray 36 (0, 0))
  hp : w.heap.size < p
theorem ShortW.put {w : World} {h : List UInt8} {p : Nat} {l : List UInt8} {wr : World} (hV : ShortW w h p l wr) (i : Nat) (x : UInt8) (y : Int) (hy : y = (x.toNat : Int)) : ShortW w h p (l.set i x) (wr.setCell ⟨p + 1, i, none⟩ (.int .u8 y)) := by
  have := hV.hp
  rw [setCell_eq_setRow _ _ _ _ _ _ _ hV.ob, bytes_set _ _ _ _ hy]
  exact ⟨below_setRow hV.low (by omega) _, (setRow_other _ _ _ _ (by omega)).trans hV.rb, (setRow_other _ _ _ _ (by omega)).trans hV.hb, setRow_heap _ _ _ _ _ _ hV.ob, hV.hp⟩
set_option maxRecDepth 100000 in
set_option maxHeartbeats 800000 in
theorem rshort_any (A : Option Addr) (c : Nat) (b : List UInt8) (w : World) (hT : TabR w) (hr : ReadsInt w .u8 A b.length (bi b)) (hl : b.length ≤ 35184372088832) :
    Calls Tryd.prog 55 #[.slice A b.length c] w fun e w' => e = .returned (.agg (Lib.byteCells ((sha b).take 16)).toArray) ∧ Below w.heap.size w w' := by
  have HR := Lib.hid hr
  clear hr
  have hts : ∀ (W : World) (g : Nat), storeRowK Tryd.prog 89 32 g (Lib.byteCells (sha b)).toArray W (some #[Value.int .u8 0, Value.int .u8 0, Value.int .u8 0, Value.int .u8 0, Value.int .u8 0, Value.int .u8 0, Value.int .u8 0, Value.int .u8 0, Value.int .u8 0, Value.int .u8 0, Value.int .u8 0, Value.int .u8 0, Value.int .u8 0, Value.int .u8 0, Value.int .u8 0, Value.int .u8 0, Value.int .u8 0, Value.int .u8 0, Value.int .u8 0, Value.int .u8 0, Value.int .u8 0, Value.int .u8 0, Value.int .u8 0, Value.int .u8 0, Value.int .u8 0, Value.int .u8 0, Value.int .u8 0, Value.int .u8 0, Value.int .u8 0, Value.int .u8 0, Value.int .u8 0, Value.int .u8 0]) = .ok () (W.setRow g (Lib.byteCells (sha b)).toArray) := fun W g => storeRowK_some _ _ _ _ _ _ _ rfl (by rw [List.size_toArray, Lib.byteCells_length, sha_length]) (byteCells_all _)
  have hts0 : ∀ (W : World) (g : Nat), storeRowK Tryd.prog 36 16 g #[Value.int .u8 0, Value.int .u8 0, Value.int .u8 0, Value.int .u8 0, Value.int .u8 0, Value.int .u8 0, Value.int .u8 0, Value.int .u8 0, Value.int .u8 0, Value.int .u8 0, Value.int .u8 0, Value.int .u8 0, Value.int .u8 0, Value.int .u8 0, Value.int .u8 0, Value.int .u8 0] W (some #[Value.int .u8 0, Value.int .u8 0, Value.int .u8 0, Value.int .u8 0, Value.int .u8 0, Value.int .u8 0, Value.int .u8 0, Value.int .u8 0, Value.int .u8 0, Value.int .u8 0, Value.int .u8 0, Value.int .u8 0, Value.int .u8 0, Value.int .u8 0, Value.int .u8 0, Value.int .u8 0]) = .ok () (W.setRow g #[Value.int .u8 0, Value.int .u8 0, Value.int .u8 0, Value.int .u8 0, Value.int .u8 0, Value.int .u8 0, Value.int .u8 0, Value.int .u8 0, Value.int .u8 0, Value.int .u8 0, Value.int .u8 0, Value.int .u8 0, Value.int .u8 0, Value.int .u8 0, Value.int .u8 0, Value.int .u8 0]) := fun W g => storeRowK_some _ _ _ _ _ _ _ rfl rfl (byteCells_all (List.replicate 16 0))
  go_enter Tryd.func55, Tryd.ntmps55
  go_wp2_with fail
  obtain ⟨w0, hw0⟩ : ∃ w0, w0 = w.alloc (.cells (Lib.byteCells (List.replicate 16 0)).toArray 36) := ⟨_, rfl⟩
  have hB0 : Below w.heap.size w w0 := by rw [hw0]; exact ((Below.refl _ _).alloc (Nat.le_refl _) _)
  have hz0 : w0.heap.size = w.heap.size + 1 := by rw [hw0]; simp
  have hr0 : w0.heap[w.heap.size]? = some (.cells (Lib.byteCells (List.replicate 16 0)).toArray 36 (0, 0)) := by rw [hw0]; exact heap_alloc_new _ _
  have hpd := rsum_any A c b w0 (hT.below hB0) (HR.out.below hB0) hl
  rw [hw0] at hpd
  refine hpd.mono ?_
  rw [← hw0]
  clear hpd
  rintro e w1 ⟨rfl, hB1⟩
  have hz1 := hB1.size
  have hr1 := (hB1.block _ (by omega)).trans hr0
  have hb1 := hB0.trans (hB1.mono (by omega))
  clear hw0 hr0 hB0 hB1
  go_wp2_with fail
  obtain ⟨p, hp⟩ : ∃ p, p = w1.heap.size := ⟨_, rfl⟩
  obtain ⟨w2, hw2⟩ : ∃ w2, w2 = ((w1.alloc (.cells (Lib.byteCells (sha b)).toArray 89)).alloc (.cells (Lib.byteCells (List.replicate 16 0)).toArray 36)).setRow (w1.heap.size + 1) (Lib.byteCells (List.replicate 16 0)).toArray := ⟨_, rfl⟩
  have hV0 : ShortW w (sha b) p ((sha b).take 0 ++ List.replicate (16 - 0) 0) w2 := by
    rw [hw2, hp]
    exact ⟨below_setRow ((hb1.alloc (by omega) _).alloc (by simp; omega) _) (by omega) _, (setRow_other _ _ _ _ (by omega)).trans ((heap_alloc2_lt _ _ _ (by omega)).trans hr1), (setRow_other _ _ _ _ (by omega)).trans (heap_alloc2_old _ _ _), setRow_heap _ _ _ _ _ _ (heap_alloc2_new _ _ _), by omega⟩
  have hw2' : ((w1.alloc (.cells (Lib.byteCells (sha b)).toArray 89)).alloc (.cells #[Value.int .u8 0, Value.int .u8 0, Value.int .u8 0, Value.int .u8 0, Value.int .u8 0, Value.int .u8 0, Value.int .u8 0, Value.int .u8 0, Value.int .u8 0, Value.int .u8 0, Value.int .u8 0, Value.int .u8 0, Value.int .u8 0, Value.int .u8 0, Value.int .u8 0, Value.int .u8 0] 36)).setRow (w1.heap.size + 1) #[Value.int .u8 0, Value.int .u8 0, Value.int .u8 0, Value.int .u8 0, Value.int .u8 0, Value.int .u8 0, Value.int .u8 0, Value.int .u8 0, Value.int .u8 0, Value.int .u8 0, Value.int .u8 0, Value.int .u8 0, Value.int .u8 0, Value.int .u8 0, Value.int .u8 0, Value.int .u8 0] = w2 := hw2.symm
  have HV0 := Lib.hid hV0
  rw [hw2', ← hp]
  clear hw2 hw2' hp hV0 hr1 hb1 hts hts0
  have hsl := sha_length b
  obtain ⟨h, hh⟩ : ∃ h, h = sha b := ⟨_, rfl⟩
  rw [← hh] at HV0 hsl ⊢
  have HH := Lib.hid hh
  clear hh
  go_loopw [5] (fun v5 wr => ∃ i : Nat, i ≤ 16 ∧ v5 = .int .i64 i ∧ ShortW w h p (h.take i ++ List.replicate (16 - i) 0) wr) (fun v5 _ => 16 - (RowKit.intOf v5).toNat)
  case atStart => exact ⟨0, by omega, rfl, HV0.out⟩
  case round =>
    clear HV0
    obtain ⟨i, hi, rfl, hV⟩ := hrel
    by_cases h16 : i < 16
    · have d16 : decide ((i : Int) < 16) = true := decide_eq_true (by omega)
      have c1 : wr.cell? ⟨p, i, none⟩ = some (.int .u8 ((h.getD i 0).toNat : Int)) := by rw [cell_of_row _ _ _ _ _ _ hV.hb]; exact byteCells_at _ _ (by omega)
      have c2 : wr.cell? ⟨p + 1, i, none⟩ = some (.int .u8 (((h.take i ++ List.replicate (16 - i) 0).getD i 0).toNat : Int)) := by rw [cell_of_row _ _ _ _ _ _ hV.ob]; exact byteCells_at _ _ (by simp; omega)
      have f2 : wr.frozen? ⟨p + 1, i, none⟩ = false := frozen_of_row _ _ _ _ _ hV.ob
      have HV := Lib.hid hV
      clear hV
      go_wp2_with fail
      go_roundw
      case rel => exact ⟨i + 1, by omega, by go_num, by
        have e : (h.take i ++ List.replicate (16 - i) 0).set i (h.getD i 0) = h.take (i + 1) ++ List.replicate (16 - (i + 1)) 0 := by
          have ht : (h.take i).length = i := by rw [List.length_take]; omega
          rw [List.set_append_right _ _ (by omega), ht, Nat.sub_self, show 16 - i = (16 - (i + 1)) + 1 by omega, List.replicate_succ, List.set_cons_zero, List.take_succ_eq_append_getElem (by omega)]
          have e : h.getD i 0 = h[i] := by simp [List.getD_eq_getElem?_getD, List.getElem?_eq_getElem (show i < h.length by omega)]
          rw [e, List.append_assoc, List.singleton_append]
        rw [← e]
        exact HV.out.put i _ _ rfl⟩
      case measure => simp [intOf]; omega
    · have d16 : decide ((i : Int) < 16) = false := decide_eq_false (by omega)
      obtain rfl : i = 16 := by omega
      have hob := hV.ob
      have hrb := hV.rb
      rw [Nat.sub_self, List.replicate_zero, List.append_nil] at hob
      have h16 : (h.take 16).length = 16 := by rw [List.length_take]; omega
      have HL16 := Lib.hid h16
      have HV := Lib.hid hV
      clear hV h16
      go_wp2_with (first
        | ((with_reducible show wpList _ _ _ (⟨some 18, _, _, _, _, _⟩ :: _) _ _); go_must (refine wpList_load_row rfl 36 (.tmp 4) rfl (p + 1) rfl 36 _ (0, 0) _ hob Tryd.underlying36 rfl (by rw [List.size_toArray, Lib.byteCells_length, HL16.out]; kernel_rfl) ?_))
        | ((with_reducible show wpList _ _ _ (⟨none, .store 36 _ _, _, _, _, _⟩ :: _) _ _); go_must (refine wpList_store_row rfl 36 (.tmp 2) (.tmp 18) rfl w.heap.size _ rfl rfl 36 _ hrb (by rw [List.size_toArray, Lib.byteCells_length, HL16.out]; kernel_rfl) (by rw [List.size_toArray, List.size_toArray, Lib.byteCells_length, Lib.byteCells_length, HL16.out]; rfl) (byteCells_all _) ?_)))
      refine bodyPost_ret (v := .agg (Lib.byteCells (h.take 16)).toArray) (results_cell_row rfl _ _ w.heap.size 36 _ (0, 0) _ rfl (setRow_heap _ _ _ _ _ _ hrb) Tryd.underlying36 rfl (by rw [List.size_toArray, Lib.byteCells_length, HL16.out]; kernel_rfl)) rfl ⟨by rw [HH.out], ?_⟩
      exact below_setRow HV.out.low (Nat.le_refl _) _

theorem ReadsStr.below {w w1 : World} {A : Option Addr} {n : Nat} {ss : List ByteArray} (h : ReadsStr w A n ss) (hb : Below w.heap.size w w1) : ReadsStr w1 A n ss :=
  ⟨h.1, fun hn => by
    obtain ⟨ad, e, hc⟩ := h.2 hn
    exact ⟨ad, e, fun j hj => pw_cell hb (hc j hj)⟩⟩

set_option maxRecDepth 100000 in
set_option maxHeartbeats 800000 in
theorem rinput_any (tag : Nat) (htag : tag < 256) (A : Option Addr) (c : Nat) (ss : List ByteArray) (w : World) (hr : ReadsStr w A ss.length ss) (hn : partsLen (texts ss) ≤ 35184372088000) :
    Calls Tryd.prog 56 #[.int .i64 tag, .slice A ss.length c] w (RetB (ofMsg tag (texts ss)) w) := by
  have HR := Lib.hid hr
  clear hr
  have hsl := partsLen_len (texts ss)
  rw [show (texts ss).length = ss.length by simp [texts]] at hsl
  have hwr : IntKind.u8.wrap (tag : Int) = (tag : Int) := by simp [IntKind.wrap, IntKind.bits, IntKind.signed]; omega
  have hown0 := own_lit (base := w.heap.size) w 5 .u8 [(tag : Int)] (Nat.le_refl _) (by simp)
  have HO0 := Lib.hid hown0
  clear hown0
  go_enter Tryd.func56, Tryd.ntmps56
  go_wp2_with fail
  go_loopw [5, 6] (fun v5 v6 wr => ∃ i : Nat, i ≤ ss.length ∧ v6 = .int .i64 i ∧ Below w.heap.size w wr ∧ wr.ownsRow w.heap.size 5 1 v5 (bi (ofMsg tag (texts (ss.take i)))).length (nums .u8 (bi (ofMsg tag (texts (ss.take i)))))) (fun _ v6 _ => ss.length - (RowKit.intOf v6).toNat)
  case atStart =>
    refine ⟨0, by omega, rfl, (Below.refl _ _).alloc (Nat.le_refl _) _, ?_⟩
    have e : bi (ofMsg tag (texts (ss.take 0))) = [(tag : Int)] := by
      simp [ofMsg, texts, bi]; omega
    rw [e]
    exact HO0.out
  case round =>
    clear HO0
    obtain ⟨i, hi, rfl, hB, hown⟩ := hrel
    have hz := hB.size
    have hpl : (bi (ofMsg tag (texts (ss.take i)))).length ≤ 1 + partsLen (texts ss) := by
      rw [bi_length]
      have e1 := ofMsg_length_le tag (texts (ss.take i))
      have e2 := partsLen_take (texts ss) i
      rw [show (texts ss).take i = texts (ss.take i) by simp [texts, List.map_take]] at e2
      omega
    by_cases hlt : i < ss.length
    · have d1 : decide ((i : Int) < ss.length) = true := decide_eq_true (by omega)
      obtain ⟨ad, rfl, hcell⟩ := (HR.out.below hB).2 (by omega)
      have hc := hcell i hlt
      obtain ⟨x, hx⟩ : ∃ x, x = ss.getD i ByteArray.empty := ⟨_, rfl⟩
      have hxs : ss[i]? = some x := by rw [hx, List.getD_eq_getElem?_getD, List.getElem?_eq_getElem hlt, Option.getD_some]
      rw [← hx] at hc
      have hxl : x.size + 9 ≤ partsLen (texts ss) := by
        have := partsLen_mem (texts ss) x.data.toList (List.mem_map.2 ⟨x, List.mem_of_getElem? hxs, rfl⟩)
        rwa [data_length] at this
      have htk : bi (ofMsg tag (texts (ss.take (i + 1)))) = bi (ofMsg tag (texts (ss.take i))) ++ bi (wBytes x.data.toList) := by
        rw [List.take_add_one, hxs, ← bi_append, texts, List.map_append, ← texts]
        exact congrArg bi (ofMsg_snoc tag _ _)
      have HTK := Lib.hid htk
      have HOWN := Lib.hid hown
      have HB := Lib.hid hB
      clear hx hxs htk hown hB hcell
      go_wp2_with fail
      refine (rbytes_any x wr (by omega)).mono ?_
      rintro e w2 ⟨v2, rfl, hown2, hB2⟩
      obtain ⟨A2, c2, rfl, hR2⟩ := own_reads hown2
      have hl4 := wBytes_length_le x.data.toList
      rw [data_length] at hl4
      have hz2 := hB2.size
      have HO2 := Lib.hid (pw_own_below HOWN.out hB2)
      have HR2 := Lib.hid hR2
      have HB3 := Lib.hid (HB.out.trans (hB2.mono hz))
      have hbl2 : (bi (wBytes x.data.toList)).length ≤ x.size + 9 := by rw [bi_length]; omega
      clear hown2 hB2 hR2 HB
      go_wp2_with (at_builtin; go_must (refine print_append_row (w0 := w) w.heap.size rfl (.tmp 16) (.tmp 21) 56 5 .u8 1 rfl Tryd.underlying56 infoU8 (by decide) _ (bi (ofMsg tag (texts (ss.take i)))) (bi (wBytes x.data.toList)) A2 _ c2 rfl rfl HO2.out HR2.out HB3.out (by omega) (by omega) ?_); intro v3 w3 hown3 hB4 hg3 hat3)
      rw [← HTK.out] at hown3
      go_roundw
      case rel => exact ⟨i + 1, by omega, by go_num, hB4, hown3⟩
      case measure => simp [RowKit.intOf]; omega
    · have d1 : decide ((i : Int) < ss.length) = false := decide_eq_false (by omega)
      obtain rfl : i = ss.length := by omega
      go_wp2_with fail
      go_ret
      refine ⟨_, rfl, ?_, hB⟩
      rw [List.take_length] at hown
      exact hown

set_option maxRecDepth 100000 in
set_option maxHeartbeats 800000 in
theorem rof_any (tag : Nat) (htag : tag < 256) (A : Option Addr) (c : Nat) (ss : List ByteArray) (w : World) (hT : TabR w) (hr : ReadsStr w A ss.length ss) (hn : partsLen (texts ss) ≤ 35184372088000) :
    Calls Tryd.prog 40 #[.int .i64 tag, .slice A ss.length c] w fun e w' => e = .returned (.agg (Lib.byteCells (hOf tag (texts ss))).toArray) ∧ Below w.heap.size w w' := by
  have HR := Lib.hid hr
  clear hr
  obtain ⟨w0, hw0⟩ : ∃ w0, w0 = w.alloc (.cells (Lib.byteCells (List.replicate 16 0)).toArray 36) := ⟨_, rfl⟩
  have hB0 : Below w.heap.size w w0 := by rw [hw0]; exact ((Below.refl _ _).alloc (Nat.le_refl _) _)
  have hz0 : w0.heap.size = w.heap.size + 1 := by rw [hw0]; simp
  have hr0 : row? w0 w.heap.size = some (Lib.byteCells (List.replicate 16 0)).toArray := by rw [hw0]; exact row_of (heap_alloc_new _ _)
  have hi := rinput_any tag htag A c ss w0 (HR.out.below hB0) hn
  rw [hw0] at hi
  go_enter Tryd.func40, Tryd.ntmps40
  go_wp2_with fail
  refine hi.mono ?_
  rw [← hw0]
  rintro e w1 ⟨v1, rfl, hown1, hB1⟩
  obtain ⟨A1, c1, rfl, hR1⟩ := own_reads hown1
  have hz1 := hB1.size
  have hr1 := (row_below hB1 _ (by omega)).trans hr0
  have hb1 := hB0.trans (hB1.mono (by omega))
  have hml := ofMsg_length_le tag (texts ss)
  obtain ⟨m, hm⟩ : ∃ m, m = ofMsg tag (texts ss) := ⟨_, rfl⟩
  have hho : hOf tag (texts ss) = (sha m).take 16 := by rw [hOf, hm]
  rw [← hm] at hR1 hml
  rw [bi_length] at hR1
  have HHO := Lib.hid hho
  have HR1 := Lib.hid hR1
  clear hw0 hi hr0 hB0 hown1 hho
  rw [← hm, bi_length]
  clear hm
  go_wp2_with fail
  refine (rshort_any A1 c1 m w1 (hT.below hb1) HR1.out (by omega)).mono ?_
  rintro e w2 ⟨rfl, hB2⟩
  have hb2 := hb1.trans (hB2.mono (by omega))
  have hr2 := (row_below hB2 _ (by omega)).trans hr1
  rw [← HHO.out]
  have h16 : (Lib.byteCells (hOf tag (texts ss))).length = 16 := by rw [Lib.byteCells, List.length_map]; exact hOf_length _ _
  have hts := storeRowK_some Tryd.prog 36 16 w.heap.size (Lib.byteCells (hOf tag (texts ss))).toArray w2 (Lib.byteCells (List.replicate 16 0)).toArray (by simp [Lib.byteCells]) (by simpa using h16) (byteCells_all _)
  have hrf : row? (w2.setRow w.heap.size (Lib.byteCells (hOf tag (texts ss))).toArray) w.heap.size = some (Lib.byteCells (hOf tag (texts ss))).toArray := by
    rw [row_setRow, if_pos rfl, hr2]; rfl
  rw [show (List.replicate 16 (0 : UInt8)) = [0, 0, 0, 0, 0, 0, 0, 0, 0, 0, 0, 0, 0, 0, 0, 0] from rfl] at hts hr2
  have HH16 := Lib.hid h16
  have HRF := Lib.hid hrf
  clear hrf hr1
  go_wp2_with fail
  obtain ⟨tf, hhf⟩ := row_heap HRF.out
  refine bodyPost_ret (v := .agg (Lib.byteCells (hOf tag (texts ss))).toArray) (results_cell_row rfl _ _ w.heap.size tf _ (0, 0) _ rfl hhf Tryd.underlying36 rfl (by rw [List.size_toArray, HH16.out]; kernel_rfl)) rfl ⟨rfl, ?_⟩
  exact below_setRow hb2 (Nat.le_refl _) _
end Go.Proofs.YtbgijijecipjeaaDoor
