/- Contract of wire.GetDigests. -/
import Derived.Test.YtbgijijecipjeaaDoorDecA
namespace Go.Proofs.YtbgijijecipjeaaDoor
open Go.RowKit Go.IntWalk Go.Proofs.YtbgijijecipjeaaDoorW.PrintWords

/-- The cells of digests, one after the other. -/
def digFlat (ds : List (List UInt8)) : List Value := (ds.map Lib.byteCells).flatten
theorem digFlat_snoc (ds : List (List UInt8)) (d : List UInt8) : digFlat (ds ++ [d]) = digFlat ds ++ Lib.byteCells d := by simp [digFlat]
theorem fold_cells : ∀ (l pre rest : List Value), rest.length = l.length → List.foldl (fun (cs : Array Value) (x : Value × Nat) => cs.setIfInBounds x.2 x.1) (pre ++ rest).toArray (l.zipIdx pre.length) = (pre ++ l).toArray
  | [], pre, rest, h => by
    obtain rfl : rest = [] := List.eq_nil_of_length_eq_zero h
    rfl
  | x :: l, pre, rest, h => by
    rcases rest with _ | ⟨r, rest⟩
    · cases h
    · have h2 : rest.length = l.length := by simpa using h
      have ih := fold_cells l (pre ++ [x]) rest h2
      rw [List.zipIdx_cons, List.foldl_cons]
      have e : ((pre ++ r :: rest).toArray.setIfInBounds pre.length x) = ((pre ++ [x]) ++ rest).toArray := by
        rw [List.setIfInBounds_toArray, List.set_append_right _ _ (Nat.le_refl _), Nat.sub_self]; simp
      rw [e]
      rw [List.length_append, List.length_singleton] at ih
      rw [ih]; simp
theorem infoDig : ∃ z, (Tryd.prog.info? 36).map (fun i => (i.zero, i.size, i.bytes)) = some (some z, 16, 16) ∧ z.cells.size = 16 := by
  refine ⟨.agg (Lib.byteCells (List.replicate 16 0)).toArray, by kernel_rfl, by rfl⟩

set_option maxRecDepth 100000 in
set_option maxHeartbeats 4000000 in
theorem getDigests_any (A : Option Addr) (c : Nat) (b : List UInt8) (w : World) (hr : ReadsInt w .u8 A b.length (bi b)) (hc : b.length ≤ c) (hl : b.length ≤ 1099511627776) :
    Calls Tryd.prog 61 #[.slice A b.length c] w fun e w' => ∃ v, e = .returned (.tuple #[v, .int .i64 ((gDigs b).2.1 : Int), .int .i64 (gDigs b).2.2]) ∧ w'.ownsRow w.heap.size 36 16 v (gDigs b).1.length (digFlat (gDigs b).1) ∧ Below w.heap.size w w' := by
  have hgb : gDigs b = if (gCount b 16).2.2 ≠ 0 then ([], 0, (gCount b 16).2.2) else (digsAt b (gCount b 16).2.1 (gCount b 16).1.toNat, (gCount b 16).2.1 + 16 * (gCount b 16).1.toNat, 0) := rfl
  have hok := gCount_ok b 16 (by decide)
  have hG := count_any A c 16 b w hr hc hl (by decide)
  obtain ⟨⟨x, u, er⟩, hg⟩ : ∃ g, g = gCount b 16 := ⟨_, rfl⟩
  rw [← hg] at hgb hok hG
  simp only [] at hgb hok hG
  obtain ⟨gb, hgb'⟩ : ∃ gb, gb = gDigs b := ⟨_, rfl⟩
  rw [← hgb'] at hgb ⊢
  have HGB := Lib.hid hgb
  have HR := Lib.hid hr
  clear hgb hgb' hg hr
  obtain ⟨n, hn⟩ : ∃ n, n = b.length := ⟨_, rfl⟩
  rw [← hn] at hok hG hc hl HR ⊢
  have HN := Lib.hid hn
  clear hn
  go_enter Tryd.func61, Tryd.ntmps61
  go_wp2_with fail
  refine hG.mono ?_
  rintro e w1 ⟨rfl, rfl⟩
  by_cases c1 : er = 0
  · subst c1
    obtain ⟨-, -, -, h0, h1⟩ := hok rfl
    clear hok
    obtain ⟨m, rfl⟩ : ∃ m : Nat, x = (m : Int) := ⟨x.toNat, by omega⟩
    rw [Int.toNat_natCast] at h1
    have HG2 : Hid (gb = (digsAt b u m, u + 16 * m, 0)) := Lib.hid (by rw [HGB.out, if_neg (by simp), Int.toNat_natCast])
    have HNIL := Lib.hid (own_nil w w.heap.size 36 16)
    clear HGB hG
    go_wp2_with fail
    go_loopw [6, 8, 19] (fun v6 v8 v19 wr => ∃ i : Nat, i ≤ m ∧ v19 = .int .i64 i ∧ v6 = .int .i64 ((u + 16 * i : Nat) : Int) ∧ Below w.heap.size w wr ∧ wr.ownsRow w.heap.size 36 16 v8 (digsAt b u i).length (digFlat (digsAt b u i))) (fun _ _ v19 _ => m - (RowKit.intOf v19).toNat)
    case atStart => exact ⟨0, by omega, rfl, by simp, Below.refl _ _, HNIL.out⟩
    case round =>
      obtain ⟨i, hi, rfl, rfl, hB, hown⟩ := hrel
      have hz := hB.size
      have hdl := digsAt_length b u i
      rw [hdl] at hown
      obtain ⟨A8, c8, rfl⟩ := own_slice hown
      have HOWN := Lib.hid hown
      have HB := Lib.hid hB
      clear hown hB
      by_cases hlt : i < m
      · have l1 : decide ((i : Int) < (m : Int)) = true := decide_eq_true (by omega)
        obtain ⟨at_, hat⟩ : ∃ at_, at_ = u + 16 * i := ⟨_, rfl⟩
        rw [← hat]
        have hat16 : at_ + 16 ≤ n := by omega
        obtain ⟨ii, hii, hsz⟩ := infoU8'
        obtain ⟨A1, hsl, hA1⟩ := cut_lh (P := Tryd.prog) 56 5 .i64 .i64 Tryd.underlying56 hii hsz A n c at_ (at_ + 16) (by omega) (by omega) hc
        have hR1 := hA1 wr .u8 _ (HR.out.below HB.out)
        rw [show at_ + 16 - at_ = 16 by omega, show ((bi b).drop at_).take 16 = bi ((b.drop at_).take 16) by simp [bi, List.map_take, List.map_drop]] at hR1
        replace hsl : ∀ W, (Instr.slice 56 (.slice A n c) (some (.int .i64 (at_ : Int))) (some (.int .i64 ((at_ : Int) + 16))) none).run Tryd.prog W = .ok (.slice A1 16 (c - at_)) W := fun W => by
          have := hsl W
          rw [show at_ + 16 - at_ = 16 by omega] at this
          simpa using this
        obtain ⟨ad, rfl, hcell⟩ := hR1.2.2 (by decide)
        have har : ∀ wx, (Instr.arrayAt 36 (.slice (some ad) 16 (c - at_))).run Tryd.prog wx = .ok (.pointer (some ad)) wx := fun wx => run_arrayAt _ _ 16 16 _ _ wx Tryd.underlying36 (Nat.le_refl _)
        obtain ⟨d, hd⟩ : ∃ d, d = (b.drop at_).take 16 := ⟨_, rfl⟩
        have hd16 : d.length = 16 := by rw [hd, List.length_take, List.length_drop, ← HN.out]; omega
        rw [← hd] at hcell
        have hld : ∀ k v, (Lib.byteCells d)[k]? = some v → wr.cell? (ad.add k) = some v := fun k v hv => by
          have hk : k < 16 := by have := (List.getElem?_eq_some_iff.1 hv).1; rw [Lib.byteCells_length, hd16] at this; exact this
          rw [hcell k hk, ← hv, Lib.byteCells, List.getElem?_map, List.getElem?_eq_getElem (by omega), List.getD_eq_getElem?_getD, bi, List.getElem?_map, List.getElem?_eq_getElem (by omega)]
          rfl
        have hds : digsAt b u (i + 1) = digsAt b u i ++ [d] := by rw [digsAt_succ, hd, hat]
        have h36 : (Tryd.prog.info? 36).map (·.size) = some (Lib.byteCells d).length := by rw [Lib.byteCells_length, hd16]; kernel_rfl
        obtain ⟨z, hzi, hzs⟩ := infoDig
        have hfold : List.foldl (fun (cs : Array Value) (x : Value × Nat) => cs.setIfInBounds x.2 x.1) #[Value.int IntKind.u8 0, Value.int IntKind.u8 0, Value.int IntKind.u8 0, Value.int IntKind.u8 0, Value.int IntKind.u8 0, Value.int IntKind.u8 0, Value.int IntKind.u8 0, Value.int IntKind.u8 0, Value.int IntKind.u8 0, Value.int IntKind.u8 0, Value.int IntKind.u8 0, Value.int IntKind.u8 0, Value.int IntKind.u8 0, Value.int IntKind.u8 0, Value.int IntKind.u8 0, Value.int IntKind.u8 0] (Lib.byteCells d).zipIdx = (Lib.byteCells d).toArray := by
          exact fold_cells (Lib.byteCells d) [] (List.replicate 16 (Value.int IntKind.u8 0)) (by rw [Lib.byteCells_length, hd16]; rfl)
        have HDS := Lib.hid hds
        have HLD := Lib.hid hld
        have HAT := Lib.hid hat
        have HZI := Lib.hid hzi
        have hone : ∀ u ∈ Lib.byteCells d, u.oneCell' = true := Lib.byteCells_one _
        have hbl : (Lib.byteCells d).length = 16 := by rw [Lib.byteCells_length, hd16]
        have HONE := Lib.hid hone
        have HBL := Lib.hid hbl
        have HD16 := Lib.hid hd16
        clear hds hld hat hzi hone hd16 hcell hR1 hA1 hii hsz hd
        go_wp2_with (first
          | ((with_reducible show wpList _ _ _ (⟨some 28, _, _, _, _, _⟩ :: _) _ _); go_must (refine wpList_load_at rfl 36 (.tmp 27) rfl ad rfl (Lib.byteCells d) _ HLD.out Tryd.underlying36 rfl h36 ?_))
          | (at_builtin; go_must (refine print_append_cells (w0 := wr) w.heap.size rfl (.tmp 21) (.tmp 29) 99 36 z 16 16 rfl Tryd.underlying99 HZI.out hzs (by decide) (by decide) _ i (digFlat (digsAt b u i)) (Lib.byteCells d) rfl rfl HBL.out HONE.out HOWN.out ((Below.refl _ _).mono hz) hz (by omega) ?_); intro v4 w4 hown4 hB4 hg4 hat4))
        rw [← digFlat_snoc, ← HDS.out] at hown4
        have HO4 := Lib.hid hown4
        have HB4 := Lib.hid (HB.out.trans hB4)
        clear hown4 hB4 hg4 hat4 hfold
        go_roundw
        case rel => exact ⟨i + 1, by omega, by go_num, by have := HAT.out; go_num, HB4.out, by rw [digsAt_length]; exact HO4.out⟩
        case measure => simp [RowKit.intOf]; omega
      · have l1 : decide ((i : Int) < (m : Int)) = false := decide_eq_false (by omega)
        obtain rfl : i = m := by omega
        go_wp2_with fail
        go_ret3
        refine ⟨.slice A8 i c8, ?_, ?_, HB.out⟩
        · rw [HG2.out]; rfl
        · rw [HG2.out]; simp only []; rw [hdl]; exact HOWN.out
  · have c1' : (er != 0) = true := by simpa using c1
    have C1 := Lib.hid c1
    clear c1 hok
    go_wp2_with fail
    go_ret3
    refine ⟨.slice none 0 0, ?_, ?_, Below.refl _ _⟩
    · rw [HGB.out, if_pos C1.out]; rfl
    · rw [HGB.out, if_pos C1.out]; exact own_nil _ _ _ _
end Go.Proofs.YtbgijijecipjeaaDoor
