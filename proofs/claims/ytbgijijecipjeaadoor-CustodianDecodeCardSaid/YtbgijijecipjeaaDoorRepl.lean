/- Contract of custodian.Replace. -/
import Derived.Test.YtbgijijecipjeaaDoorValid
import Derived.Test.YtbgijijecipjeaaDoorClone
import Derived.Test.YtbgijijecipjeaaDoorKept
import Derived.Laws.ResultCell
namespace Go.Proofs.YtbgijijecipjeaaDoor
open Go.RowKit Go.IntWalk Go.Proofs.YtbgijijecipjeaaDoorW.PrintWords

@[go_sem ↓] theorem loadAt_cus (v : Value) : Instr.loadAt 24 v = loadRow 24 v := rfl
@[go_sem ↓] theorem storeAt_cus (v x : Value) : Instr.storeAt 24 v x = storeRow 24 v x := rfl
@[go_sem] theorem run_loadRow_cus (p : Nat) (w : World) : (loadRow 24 (.pointer (some ⟨p, 0, none⟩))).run Tryd.prog w = loadRowK Tryd.prog 24 3 p w (row? w p) := (loadRowK_eq 24 3 p w Tryd.underlying24 rfl (by kernel_rfl)).symm
@[go_sem] theorem run_storeRow_cus (p : Nat) (X : Array Value) (w : World) : (storeRow 24 (.pointer (some ⟨p, 0, none⟩)) (.agg X)).run Tryd.prog w = storeRowK Tryd.prog 24 3 p X w (row? w p) := (storeRowK_eq 24 3 p X w (by kernel_rfl)).symm
-- attribute [go_sem high]

theorem validP_of {ep need : Int} {ms : List Mem} (h : validB ep need ms = true) : validP ep need ms := by unfold validB at h; exact @of_decide_eq_true _ (Classical.propDecidable _) h
/-- Custodians' cells. -/
def cusRow (ep need : Int) (A : Option Addr) (n c : Nat) : Array Value := #[.int .i64 ep, .int .i64 need, .slice A n c]
/-- Whether custodians may be replaced. -/
noncomputable def replOk (ep nd need : Int) (ms ls : List Mem) : Bool := validB ep nd ms && validB (ep + 1) need ls
theorem results_cell_tmp_row {P : Program} {fn : Func} {p u : Tmp} {ty : TypeId} (h : fn.results = #[.cell p ty, .tmp u]) (tmps : Array Value) (w : World) (g : Nat) (t : TypeId) (cs : Array Value) (fr : Nat × Nat) (d : TypeDesc) (x : Value)
    (hp : tmps.getD p undef = .pointer (some ⟨g, 0, none⟩)) (hx : tmps.getD u undef = x) (hg : w.heap[g]? = some (.cells cs t fr))
    (hu : P.underlying ty = some d) (hd : (match d with | .struct _ | .array _ _ => true | _ => false) = true) (hi : (P.info? ty).map (·.size) = some cs.size) :
    (results fn tmps).run P w = .ok (.tuple #[.agg cs, x]) w := by
  rw [results_cell_tmp h, hp, hx]
  simp [asAddr, Result.andThen, run_loadVar_row w g t ty cs fr d hg hu hd hi]

set_option maxRecDepth 100000 in
set_option maxHeartbeats 4000000 in
theorem repl_any (ep nd need : Int) (A B : Option Addr) (c d : Nat) (ms ls : List Mem) (w : World) (hr : ReadsMem w A ms.length ms) (hr2 : ReadsMem w B ls.length ls) (h4 : okMems ms) (h5 : okMems ls) (hn : ms.length ≤ 1099511627776) (hm : ls.length ≤ 1099511627776) :
    Calls Tryd.prog 10 #[cusV ep nd A ms.length c, .int .i64 need, .slice B ls.length d] w fun e w' => Below w.heap.size w w' ∧
      ((replOk ep nd need ms ls = false ∧ e = .returned (.tuple #[cusV 0 0 none 0 0, .int .i64 1])) ∨
        (replOk ep nd need ms ls = true ∧ ∃ B' d', e = .returned (.tuple #[cusV (ep + 1) need B' ls.length d', .int .i64 0]) ∧ ReadsMem w' B' ls.length ls ∧ (ls = [] ∨ ∃ ad, B' = some ad ∧ w.heap.size ≤ ad.block))) := by
  have HR := Lib.hid hr
  have HR2 := Lib.hid hr2
  have H4 := Lib.hid h4
  have H5 := Lib.hid h5
  clear hr hr2 h4 h5
  unfold cusV
  go_enter Tryd.func10, Tryd.ntmps10
  go_wp2_with fail
  go_upto_region 1 with fail
  go_cut [8] (fun v8 wx => ∃ p B' d', w.heap.size + 1 + 1 ≤ p ∧ v8 = .pointer (some ⟨p, 0, none⟩) ∧ Below w.heap.size w wx ∧ ReadsMem wx B' ls.length ls ∧ (ls = [] ∨ ∃ ad, B' = some ad ∧ w.heap.size + 1 + 1 ≤ ad.block) ∧ row? wx p = some (cusRow (IntKind.i64.wrap (ep + 1)) need B' ls.length d') ∧ row? wx w.heap.size = some (cusRow ep nd A ms.length c) ∧ row? wx (w.heap.size + 1) = some (cusRow 0 0 none 0 0))
  case first =>
    have hts : ∀ (W : World) (g n' d' : Nat) (B' : Option Addr), storeRowK Tryd.prog 24 3 g #[Value.int IntKind.i64 (IntKind.i64.wrap (ep + 1)), Value.int IntKind.i64 need, Value.slice B' n' d'] W (some #[Value.int IntKind.i64 0, Value.int IntKind.i64 0, Value.slice none 0 0]) = .ok () (W.setRow g #[Value.int IntKind.i64 (IntKind.i64.wrap (ep + 1)), Value.int IntKind.i64 need, Value.slice B' n' d']) := fun W g n' d' B' => storeRowK_some _ _ _ _ _ _ _ rfl rfl (by simp [oneAll, Value.oneCell'])
    go_region_with (first
      | (go_at_call 29; go_must (refine (clone_any B d ls _ (HR2.out.below (by (repeat (first | (with_reducible assumption) | (with_reducible exact Below.refl _ _) | (with_reducible refine bl_alloc ?_ _) | (with_reducible refine bl_drew ?_) | (with_reducible refine bl_drewN ?_ _) | (with_reducible refine bl_then (by assumption) ?_))))) hm).mono ?_; rintro e w1 ⟨B1, d1, rfl, hR1, hf1, hB1⟩; obtain ⟨hcc1, hcf1, hrw1, hsz1⟩ := brow hB1; have r0 := hrw1 (w.heap.size + 1 + 1); (try simp [row_drew, row_alloc, World.size_alloc, rowO] at r0))))
    all_goals
      go_wp2_with fail
      go_meet
      have hz := hB1.size
      (try simp only [szA, World.drew] at hz)
      have hb1 : Below w.heap.size w w1 := by (repeat (first | (with_reducible assumption) | (with_reducible exact Below.refl _ _) | (with_reducible refine bl_alloc ?_ _) | (with_reducible refine bl_drew ?_) | (with_reducible refine bl_drewN ?_ _) | (with_reducible refine bl_then (by assumption) ?_)))
      have hh0 : w1.heap[w.heap.size]? = some (.cells (cusRow ep nd A ms.length c) 24 (0, 0)) := by
        first
          | exact hp_then hB1 (hp_alloc (heap_alloc_new _ _) _)
          | exact hp_then hB1 (hp_alloc (hp_alloc (heap_alloc_new _ _) _) _)
      have hh1 : w1.heap[w.heap.size + 1]? = some (.cells (cusRow 0 0 none 0 0) 24 (0, 0)) := by
        first
          | exact hp_then hB1 (heap_alloc2_new _ _ _)
          | exact hp_then hB1 (hp_alloc (heap_alloc2_new _ _ _) _)
      refine ⟨_, B1, d1, ?_, rfl, ?_, ?_, ?_, ?_, ?_, ?_⟩
      · omega
      · first
          | (refine below_setRow ?_ (by omega) _; (repeat (first | (with_reducible assumption) | (with_reducible exact Below.refl _ _) | (with_reducible refine bl_alloc ?_ _) | (with_reducible refine bl_drew ?_) | (with_reducible refine bl_drewN ?_ _) | (with_reducible refine bl_then (by assumption) ?_))))
          | ((repeat (first | (with_reducible assumption) | (with_reducible exact Below.refl _ _) | (with_reducible refine bl_alloc ?_ _) | (with_reducible refine bl_drew ?_) | (with_reducible refine bl_drewN ?_ _) | (with_reducible refine bl_then (by assumption) ?_))))
      · first
          | (refine hR1.setRow _ _ (hf1.imp id (fun h => ?_)); obtain ⟨ad, e, hb⟩ := h; refine ⟨ad, e, ?_⟩; simp only [szA, World.drew] at hb; omega)
          | exact hR1.below ((Below.refl _ _).alloc (Nat.le_refl _) _)
      · refine hf1.imp id (fun h => ?_); obtain ⟨ad, e, hb⟩ := h; refine ⟨ad, e, ?_⟩; simp only [szA, World.drew] at hb; omega
      · first
          | (rw [row_setRow, if_pos rfl, r0]; rfl)
          | exact row_of (heap_alloc_new _ _)
      · first
          | (rw [row_setRow, if_neg (by omega)]; exact row_of hh0)
          | exact row_of (hp_alloc hh0 _)
      · first
          | (rw [row_setRow, if_neg (by omega)]; exact row_of hh1)
          | exact row_of (hp_alloc hh1 _)
  case rest =>
    obtain ⟨p, B1, d1, hp, rfl, hB, hR1, hf1, hr1, hr0, hrz⟩ := hcut
    have HF1 := Lib.hid hf1
    clear hf1
    have HB := Lib.hid hB
    have HR1 := Lib.hid hR1
    clear hB hR1
    have hlp := row_lt hr1
    obtain ⟨E, hE⟩ : ∃ E, E = IntKind.i64.wrap (ep + 1) := ⟨_, rfl⟩
    rw [← hE] at hr1
    have HE := Lib.hid hE
    clear hE
    have hl0 := row_lt hr0
    have hlz := row_lt hrz
    have HRZ := Lib.hid hrz
    have HR0 := Lib.hid hr0
    have hzs : ∀ (W : World) (g : Nat) (X : Array Value) (Y : Array Value), X.size = 3 → oneAll X = true → Y.size = 3 → storeRowK Tryd.prog 24 3 g X W (some Y) = .ok () (W.setRow g X) := fun W g X Y h0 h1 h2 => storeRowK_some _ _ _ _ _ _ _ h2 h0 h1
    have hz0 : ∀ (W : World) (g : Nat), storeRowK Tryd.prog 24 3 g #[Value.int IntKind.i64 0, Value.int IntKind.i64 0, Value.slice none 0 0] W (some #[Value.int IntKind.i64 0, Value.int IntKind.i64 0, Value.slice none 0 0]) = .ok () (W.setRow g #[Value.int IntKind.i64 0, Value.int IntKind.i64 0, Value.slice none 0 0]) := fun W g => hzs _ _ _ _ rfl (by simp [oneAll, Value.oneCell']) rfl
    have hz1 : ∀ (W : World) (g : Nat), storeRowK Tryd.prog 24 3 g #[Value.int IntKind.i64 E, Value.int IntKind.i64 need, Value.slice B1 ls.length d1] W (some #[Value.int IntKind.i64 0, Value.int IntKind.i64 0, Value.slice none 0 0]) = .ok () (W.setRow g #[Value.int IntKind.i64 E, Value.int IntKind.i64 need, Value.slice B1 ls.length d1]) := fun W g => hzs _ _ _ _ rfl (by simp [oneAll, Value.oneCell']) rfl
    clear hzs
    unfold cusRow at hr1 hr0 hrz
    go_wp2_with fail
    refine (valid_any ep nd A c ms _ (HR.out.below HB.out) H4.out hn).mono ?_
    rintro e w2 ⟨rfl, hB2⟩
    have q1 := (row_below hB2 p hlp).trans hr1
    have qz := (row_below hB2 _ hlz).trans hrz
    have hb2 := HB.out.trans (hB2.mono HB.out.size)
    have HB2 := Lib.hid hB2
    have Hb2 := Lib.hid hb2
    clear hr1 hr0 hrz hB2 hb2
    rcases Bool.eq_false_or_eq_true (validB ep nd ms) with hv | hv
    · have hvp := validP_of hv
      have hep : E = ep + 1 := by
        obtain ⟨-, -, -, -, -, -, e1, e2⟩ := hvp
        rw [HE.out]; simp [IntKind.wrap, IntKind.bits, IntKind.signed]; omega
      rw [hv]
      have HV := Lib.hid hv
      have HEP := Lib.hid hep
      have hq := row_lt q1
      have hqz := row_lt qz
      clear hv hep hvp
      go_wp2_with fail
      refine (valid_any E need B1 d1 ls _ (HR1.out.below HB2.out) H5.out hm).mono ?_
      rintro e w3 ⟨rfl, hB3⟩
      have r1 := (row_below hB3 p hq).trans q1
      have rz := (row_below hB3 _ hqz).trans qz
      have hb3 := Hb2.out.trans (hB3.mono Hb2.out.size)
      have hR3 := (HR1.out.below HB2.out).below hB3
      have Hb3 := Lib.hid hb3
      have HR3 := Lib.hid hR3
      have hpz : w.heap.size + 1 ≠ p := by omega
      have HPZ := Lib.hid hpz
      clear q1 qz hB3 hb3 hR3 hpz
      rcases Bool.eq_false_or_eq_true (validB E need ls) with hv2 | hv2
      · rw [hv2]
        have HV2 := Lib.hid hv2
        clear hv2
        go_wp2_with fail
        have hrf : row? (w3.setRow (w.heap.size + 1) #[Value.int IntKind.i64 E, Value.int IntKind.i64 need, Value.slice B1 ls.length d1]) (w.heap.size + 1) = some #[Value.int IntKind.i64 E, Value.int IntKind.i64 need, Value.slice B1 ls.length d1] := by rw [row_setRow, if_pos rfl, rz]; rfl
        obtain ⟨tf, hhf⟩ := row_heap hrf
        refine bodyPost_ret (v := .tuple #[cusV E need B1 ls.length d1, .int .i64 0]) (results_cell_tmp_row rfl _ _ (w.heap.size + 1) tf _ (0, 0) _ _ rfl rfl hhf Tryd.underlying24 rfl (by kernel_rfl)) rfl ⟨below_setRow Hb3.out (by omega) _, .inr ⟨?_, B1, d1, ?_, ?_, HF1.out.imp id (fun ⟨ad, e, hb⟩ => ⟨ad, e, by omega⟩)⟩⟩
        · rw [replOk, HV.out, ← HEP.out, HV2.out]; rfl
        · rw [HEP.out]; rfl
        · refine HR3.out.setRow _ _ ?_
          refine HF1.out.imp id (fun h => ?_)
          obtain ⟨ad, e, hb⟩ := h
          exact ⟨ad, e, by omega⟩
      · rw [hv2]
        have HV2 := Lib.hid hv2
        clear hv2
        go_wp2_with fail
        have hrf : row? (w3.setRow (w.heap.size + 1) #[Value.int IntKind.i64 0, Value.int IntKind.i64 0, Value.slice none 0 0]) (w.heap.size + 1) = some #[Value.int IntKind.i64 0, Value.int IntKind.i64 0, Value.slice none 0 0] := by rw [row_setRow, if_pos rfl, rz]; rfl
        obtain ⟨tf, hhf⟩ := row_heap hrf
        refine bodyPost_ret (v := .tuple #[cusV 0 0 none 0 0, .int .i64 1]) (results_cell_tmp_row rfl _ _ (w.heap.size + 1) tf _ (0, 0) _ _ rfl rfl hhf Tryd.underlying24 rfl (by kernel_rfl)) rfl ⟨below_setRow Hb3.out (by omega) _, .inl ⟨?_, rfl⟩⟩
        rw [replOk, HV.out, ← HEP.out, HV2.out]; rfl
    · rw [hv]
      have HV := Lib.hid hv
      clear hv
      go_wp2_with fail
      have hrf : row? (w2.setRow (w.heap.size + 1) #[Value.int IntKind.i64 0, Value.int IntKind.i64 0, Value.slice none 0 0]) (w.heap.size + 1) = some #[Value.int IntKind.i64 0, Value.int IntKind.i64 0, Value.slice none 0 0] := by rw [row_setRow, if_pos rfl, qz]; rfl
      obtain ⟨tf, hhf⟩ := row_heap hrf
      refine bodyPost_ret (v := .tuple #[cusV 0 0 none 0 0, .int .i64 1]) (results_cell_tmp_row rfl _ _ (w.heap.size + 1) tf _ (0, 0) _ _ rfl rfl hhf Tryd.underlying24 rfl (by kernel_rfl)) rfl ⟨below_setRow Hb2.out (by omega) _, .inl ⟨?_, rfl⟩⟩
      rw [replOk, HV.out]; rfl
end Go.Proofs.YtbgijijecipjeaaDoor
