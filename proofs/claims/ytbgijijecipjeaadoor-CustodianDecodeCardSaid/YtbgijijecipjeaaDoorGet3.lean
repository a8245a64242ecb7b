/- Contract of wire.GetInts. -/
import Derived.Test.YtbgijijecipjeaaDoorGetA
import Derived.Test.YtbgijijecipjeaaDoorKept
import Derived.Test.YtbgijijecipjeaaDoorWMore
import Derived.RangeFuncBox
import Derived.BigQuiet
namespace Go.Proofs.YtbgijijecipjeaaDoor
open Go.RowKit Go.IntWalk Go.Proofs.YtbgijijecipjeaaDoorW.PrintWords

theorem infoU8' : ∃ ii, Tryd.prog.info? 5 = some ii ∧ ii.size = 1 := by
  obtain ⟨ii, hii, hz⟩ := Option.map_eq_some_iff.1 infoU8
  exact ⟨ii, hii, by simp only [Prod.mk.injEq] at hz; exact hz.2.1⟩
theorem bi_drop (b : List UInt8) (n : Nat) : (bi b).drop n = bi (b.drop n) := by simp [bi, List.map_drop]

set_option maxRecDepth 100000 in
set_option maxHeartbeats 4000000 in
theorem next_any (Bb Ba : Nat) (A : Option Addr) (c off : Nat) (b : List UInt8) (w : World) (hb : w.heap[Bb]? = some (.cells #[.slice A b.length c] 56 (0, 0))) (ha : w.heap[Ba]? = some (.cells #[.int .i64 (off : Int)] 3 (0, 0)))
    (hr : ReadsInt w .u8 A b.length (bi b)) (hc : b.length ≤ c) (hl : b.length ≤ 1099511627776) (ho : off ≤ b.length) :
    Calls Tryd.prog 85 #[.pointer (some ⟨Bb, 0, none⟩), .pointer (some ⟨Ba, 0, none⟩)] w fun e w' =>
      e = .returned (.tuple #[.int .i64 (gInt (b.drop off)).1, .int .i64 ((off + (gInt (b.drop off)).2.1 : Nat) : Int), .int .i64 (gInt (b.drop off)).2.2]) ∧ w.grownBy w' (some Ba) ∧ w'.heap[Ba]? = some (.cells #[.int .i64 ((off + (gInt (b.drop off)).2.1 : Nat) : Int)] 3 (0, 0)) := by
  obtain ⟨ii, hii, hsz⟩ := infoU8'
  obtain ⟨A1, hsl, hA1⟩ := print_cut (P := Tryd.prog) 56 5 .i64 Tryd.underlying56 hii hsz A b.length c off ho
  have hR1 := hA1 w .u8 _ hc hr
  rw [bi_drop] at hR1
  have hG := getInt_any A1 (c - off) (b.drop off) w (by rw [List.length_drop]; exact hR1) (by rw [List.length_drop]; omega) (by rw [List.length_drop]; omega)
  rw [List.length_drop] at hG
  have hle := gInt_le (b.drop off)
  rw [List.length_drop] at hle
  obtain ⟨⟨x, u, er⟩, hg⟩ : ∃ g, g = gInt (b.drop off) := ⟨_, rfl⟩
  rw [← hg] at hG hle ⊢
  simp only [] at hG hle ⊢
  have hcb := cell_of_row _ _ 0 _ _ _ hb
  have hca := cell_of_row _ _ 0 _ _ _ ha
  have hfa := frozen_of_row _ _ 0 _ _ ha
  obtain ⟨n, hn⟩ : ∃ n, n = b.length := ⟨_, rfl⟩
  rw [← hn] at hG hle hsl hcb hl
  have hou : off + u ≤ n := by rw [hn] at hle ⊢; omega
  have hcb' : w.cell? ⟨Bb, 0, none⟩ = some (.slice A n c) := hcb
  have hca' : w.cell? ⟨Ba, 0, none⟩ = some (.int .i64 (off : Int)) := hca
  have HA := Lib.hid ha
  clear hcb hca hg hn hR1 hA1 hii hsz hr hc ho hb ha
  go_enter Tryd.func85, Tryd.ntmps85
  go_wp2_with fail
  refine hG.mono ?_
  rintro e w1 ⟨rfl, rfl⟩
  go_upto_region 3 with fail
  have hset := one_setCell (u := .int .i64 ((off : Int) + (u : Int))) HA.out
  have hgr : w.grownBy (w.setCell ⟨Ba, 0, none⟩ (.int .i64 ((off : Int) + (u : Int)))) (some Ba) := grownBy_setCell' w Ba _
  have hc2 := cell_of_row _ _ 0 _ _ _ hset
  have hc3 : (w.setCell ⟨Ba, 0, none⟩ (.int .i64 ((off : Int) + (u : Int)))).cell? ⟨Ba, 0, none⟩ = some (.int .i64 ((off : Int) + (u : Int))) := hc2
  have HS := Lib.hid hset
  have HGR := Lib.hid hgr
  clear hset hgr hc2
  go_quiet (fail)
  go_wp2_with fail
  go_ret3
  exact ⟨rfl, ⟨HGR.out.os, HGR.out.tape, HGR.out.output, HGR.out.size, HGR.out.block⟩, HS.out⟩

theorem wreader_any (A : Option Addr) (n c : Nat) (off : Int) (w : World) : Calls Tryd.prog 70 #[.slice A n c, .int .i64 off] w fun e w' =>
    e = .returned (.func (.func 85) #[] #[.pointer (some ⟨w.heap.size, 0, none⟩), .pointer (some ⟨w.heap.size + 1, 0, none⟩)]) ∧ (w.alloc (.cells #[.slice A n c] 56)).alloc (.cells #[.int .i64 off] 3) = w' := by
  have hmf : ∀ (fn : Fn) (first cap : Array Value) (w : World), (Instr.makeFunc fn first cap).run Tryd.prog w = .ok (.func fn first cap) w := fun _ _ _ _ => rfl
  go_enter Tryd.func70, Tryd.ntmps70
  go_wp2_with fail
  go_ret
  exact ⟨rfl, rfl⟩

set_option maxRecDepth 100000 in
set_option maxHeartbeats 4000000 in
theorem getInts_any (A : Option Addr) (c : Nat) (b : List UInt8) (w : World) (hr : ReadsInt w .u8 A b.length (bi b)) (hc : b.length ≤ c) (hl : b.length ≤ 1099511627776) :
    Calls Tryd.prog 43 #[.slice A b.length c] w fun e w' => ∃ v, e = .returned (.tuple #[v, .int .i64 ((gInts b).2.1 : Int), .int .i64 (gInts b).2.2]) ∧ w'.ownsRow w.heap.size 3 1 v (gInts b).1.length (nums .i64 (gInts b).1) ∧ Below w.heap.size w w' := by
  have hgb : gInts b = if (gCount b 1).2.2 ≠ 0 then ([], 0, (gCount b 1).2.2) else gIntsA b (gCount b 1).1.toNat [] (gCount b 1).2.1 := rfl
  have hok := gCount_ok b 1 (by decide)
  have hG := count_any A c 1 b w hr hc hl (by decide)
  obtain ⟨⟨x, u, er⟩, hg⟩ : ∃ g, g = gCount b 1 := ⟨_, rfl⟩
  rw [← hg] at hgb hok hG
  simp only [] at hgb hok hG
  obtain ⟨gb, hgb'⟩ : ∃ gb, gb = gInts b := ⟨_, rfl⟩
  rw [← hgb'] at hgb ⊢
  have HGB := Lib.hid hgb
  have HR := Lib.hid hr
  have HL := Lib.hid hl
  have HC := Lib.hid hc
  clear hgb hgb' hg hr
  obtain ⟨n, hn⟩ : ∃ n, n = b.length := ⟨_, rfl⟩
  rw [← hn] at hok hG hc hl ⊢
  have HN := Lib.hid hn
  clear hn
  have hmf : ∀ (fn : Fn) (first cap : Array Value) (w : World), (Instr.makeFunc fn first cap).run Tryd.prog w = .ok (.func fn first cap) w := fun _ _ _ _ => rfl
  go_enter Tryd.func43, Tryd.ntmps43
  go_wp2_with fail
  refine hG.mono ?_
  rintro e w1 ⟨rfl, rfl⟩
  by_cases c1 : er = 0
  · subst c1
    obtain ⟨-, -, -, h0, h1⟩ := hok rfl
    clear hok
    rw [Nat.one_mul] at h1
    obtain ⟨m, rfl⟩ : ∃ m : Nat, x = (m : Int) := ⟨x.toNat, by omega⟩
    rw [Int.toNat_natCast] at h1
    go_wp2_with fail
    refine (wreader_any A n c (u : Int) w).mono ?_
    rintro e w1 ⟨rfl, hw1⟩
    have hBb : w1.heap[w.heap.size]? = some (.cells #[.slice A n c] 56 (0, 0)) := by rw [← hw1]; exact hp_alloc (heap_alloc_new _ _) _
    have hBa : w1.heap[w.heap.size + 1]? = some (.cells #[.int .i64 (u : Int)] 3 (0, 0)) := by rw [← hw1]; exact heap_alloc2_new _ _ _
    have hB1 : Below w.heap.size w w1 := by rw [← hw1]; (repeat (first | (with_reducible assumption) | (with_reducible exact Below.refl _ _) | (with_reducible refine bl_alloc ?_ _) | (with_reducible refine bl_drew ?_) | (with_reducible refine bl_drewN ?_ _) | (with_reducible refine bl_then (by assumption) ?_)))
    have hz1 : w1.heap.size = w.heap.size + 1 + 1 := by rw [← hw1, szA, szA]
    have hnil := own_nil w1 w1.heap.size 3 1
    obtain ⟨Bb, hBbe⟩ : ∃ Bb, Bb = w.heap.size := ⟨_, rfl⟩
    obtain ⟨Ba, hBae⟩ : ∃ Ba, Ba = w.heap.size + 1 := ⟨_, rfl⟩
    rw [← hBae] at hBa ⊢
    rw [show w.heap.size = Bb from hBbe.symm] at hBb ⊢
    have HBA := Lib.hid hBa
    have HBB := Lib.hid hBb
    have HB1 := Lib.hid hB1
    have HZ1 := Lib.hid hz1
    have HNIL := Lib.hid hnil
    have HE := Lib.hid hBbe
    have HE2 := Lib.hid hBae
    have HG2 : Hid (gb = gIntsA b m [] u) := Lib.hid (by rw [HGB.out, if_neg (by simp), Int.toNat_natCast])
    clear hBb hBa hB1 hz1 hnil hw1 hBbe hBae HGB
    go_wp2_with fail
    go_loopw [6, 9, 26] (fun v6 v9 v26 wr => ∃ (i at_ : Nat) (acc : List Int), i ≤ m ∧ v26 = .int .i64 i ∧ v6 = .int .i64 at_ ∧ at_ ≤ n ∧ acc.length = i ∧ gb = gIntsA b (m - i) acc at_ ∧ wr.heap[Bb]? = some (.cells #[.slice A n c] 56 (0, 0)) ∧ wr.heap[Ba]? = some (.cells #[.int .i64 (at_ : Int)] 3 (0, 0)) ∧ Below w.heap.size w wr ∧ w1.heap.size ≤ wr.heap.size ∧ wr.ownsRow w1.heap.size 3 1 v9 acc.length (nums .i64 acc)) (fun _ _ v26 _ => m - (RowKit.intOf v26).toNat)
    case atStart => exact ⟨0, u, [], by omega, rfl, rfl, by omega, rfl, HG2.out, HBB.out, HBA.out, HB1.out, Nat.le_refl _, HNIL.out⟩
    case round =>
      obtain ⟨i, at_, acc, hi, rfl, rfl, hat, hacc, hgi, hbb, hba, hB, hz, hown⟩ := hrel
      obtain ⟨A9, c9, rfl⟩ := own_slice hown
      have HACC := Lib.hid hacc
      have HGI := Lib.hid hgi
      have HBBr := Lib.hid hbb
      have HBAr := Lib.hid hba
      have HBr := Lib.hid hB
      have HOWN := Lib.hid hown
      clear hacc hgi hbb hba hB hown
      by_cases hlt : i < m
      · have l1 : decide ((i : Int) < (m : Int)) = true := decide_eq_true (by omega)
        go_wp2_with fail
        have hN := next_any Bb Ba A c at_ b wr (by have := HBBr.out; rw [HN.out] at this; exact this) HBAr.out (HR.out.below HBr.out) HC.out HL.out (by have := HN.out; omega)
        have hle := gInt_le (b.drop at_)
        rw [List.length_drop, ← HN.out] at hle
        have hgi := HGI.out
        rw [show m - i = (m - (i + 1)) + 1 by omega, gIntsA] at hgi
        obtain ⟨⟨x, u1, er⟩, hg⟩ : ∃ g, g = gInt (b.drop at_) := ⟨_, rfl⟩
        rw [← hg] at hN hle hgi
        simp only [] at hN hle hgi
        have HGI2 := Lib.hid hgi
        have HN2 := Lib.hid hN
        clear hg hgi hN
        refine HN2.out.mono ?_
        rintro e w2 ⟨rfl, hgr, hba2⟩
        have hne : Bb ≠ Ba := by have := HE.out; have := HE2.out; omega
        have hbb2 := (hgr.block Bb (hp_lt HBBr.out) (by simpa using hne)).trans HBBr.out
        have hBa2 : Below w.heap.size w w2 := pw_below_grown HBr.out _ (by have := HZ1.out; omega) hgr (by intro k hk; injection hk with hk; have := HE2.out; omega)
        have hown2 := own_other HOWN.out hgr (by
          rcases hv : (Value.slice A9 acc.length c9).ownBlock with _ | k
          · exact .inl rfl
          · right
            have := own_base HOWN.out k hv
            have h2 := HZ1.out
            have h3 := HE2.out
            intro e; injection e with e; omega)
        have hz2 := hgr.size
        have HBB2 := Lib.hid hbb2
        have HBA2 := Lib.hid hba2
        have HB2 := Lib.hid hBa2
        have HO2 := Lib.hid hown2
        clear hbb2 hba2 hBa2 hown2 hgr hne
        by_cases c2 : er = 0
        · subst c2
          have hal : acc.length ≤ 1099511627776 := by have := HACC.out; omega
          go_wp2_with (at_builtin; go_must (refine print_append_num (w0 := w2) w1.heap.size rfl (.tmp 37) (.tmp 39) 32 3 .i64 8 rfl Tryd.underlying32 infoI64 (by decide) _ acc x rfl rfl HO2.out (Below.refl _ _) (by omega) (by omega) ?_); intro v4 w4 hown4 hB4 hg4 hat4)
          have hz4 := hB4.size
          have hbb4 := (hB4.block Bb (by have := HZ1.out; have := HE.out; omega)).trans HBB2.out
          have hba4 := (hB4.block Ba (by have := HZ1.out; have := HE2.out; omega)).trans HBA2.out
          have hBB4 : Below w.heap.size w w4 := HB2.out.trans (hB4.mono (by have := HZ1.out; omega))
          have hg2 : gb = gIntsA b (m - (i + 1)) (acc ++ [x]) (at_ + u1) := by rw [HGI2.out, if_neg (by simp)]
          have HG4 := Lib.hid hg2
          have HBB4 := Lib.hid hbb4
          have HBA4 := Lib.hid hba4
          have HW4 := Lib.hid hBB4
          have HO4 := Lib.hid hown4
          clear hg2 hbb4 hba4 hBB4 hown4 hB4 hg4 hat4
          go_roundw
          case rel => exact ⟨i + 1, at_ + u1, acc ++ [x], by omega, by go_num, rfl, by omega, by rw [List.length_append, HACC.out]; rfl, HG4.out, HBB4.out, HBA4.out, HW4.out, by omega, HO4.out⟩
          case measure => simp [RowKit.intOf]; omega
        · have c2' : (er != 0) = true := by simpa using c2
          have C2 := Lib.hid c2
          clear c2
          go_wp2_with fail
          go_ret3
          refine ⟨.slice none 0 0, ?_, ?_, HB2.out⟩
          · rw [HGI2.out, if_pos C2.out]; rfl
          · rw [HGI2.out, if_pos C2.out]; exact own_nil _ _ _ _
      · have l1 : decide ((i : Int) < (m : Int)) = false := decide_eq_false (by omega)
        obtain rfl : i = m := by omega
        go_wp2_with fail
        go_ret3
        have hg : gb = (acc, at_, 0) := by rw [HGI.out, Nat.sub_self]; rfl
        refine ⟨.slice A9 acc.length c9, ?_, ?_, HBr.out⟩
        · rw [hg]; rfl
        · rw [hg]; exact own_mono HOWN.out (by have := HZ1.out; omega)
  · have c1' : (er != 0) = true := by simpa using c1
    have C1 := Lib.hid c1
    clear c1 hok
    go_wp2_with fail
    go_ret3
    refine ⟨.slice none 0 0, ?_, ?_, Below.refl _ _⟩
    · rw [HGB.out, if_pos C1.out]; rfl
    · rw [HGB.out, if_pos C1.out]; exact own_nil _ _ _ _
end Go.Proofs.YtbgijijecipjeaaDoor
