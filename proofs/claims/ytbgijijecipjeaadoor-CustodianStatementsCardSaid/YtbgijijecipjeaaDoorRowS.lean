/- For all parts, the statement of a custodian is that of the specification, and two statements are equal if and only if all of their parts are; the examples of the documentation hold besides. No condition: every input. The package variable hash.constants is tied to the program's text. -/
import Derived.Test.YtbgijijecipjeaaDoorLawS
import Derived.Test.YtbgijijecipjeaaDoorRowLib
import Derived.Test.YtbgijijecipjeaaDoorCards
import Derived.Test.YtbgijijecipjeaaDoorTie
import Derived.SevenTiedAt
namespace Go.Proofs.YtbgijijecipjeaaDoor
open Go.ChangeShapes Go.WideShapes Go.ChangeAt Go.RowKit

theorem trod_struct5 {P : Program} {H : Type} {enc : TypeId × Value → H} {w : World} {base : Nat} {spare : TypeId → Bool} {held : Bool} {t : TypeId} {f0 f1 f2 f3 f4 : Field} {fuel : Nat} {cs : List Value} {x : DataW H × List MemPlace} (ht : P.underlying t = some (.struct #[f0, f1, f2, f3, f4])) (h : DataW.trod enc P w base spare held fuel t cs = some x) :
    ∃ y0 y1 y2 y3 y4 n, cs.length = P.cellsOf t ∧ DataW.trod enc P w base spare held n f0.type ((cs.drop f0.offset).take (P.cellsOf f0.type)) = some y0 ∧
      DataW.trod enc P w base spare held n f1.type ((cs.drop f1.offset).take (P.cellsOf f1.type)) = some y1 ∧ DataW.trod enc P w base spare held n f2.type ((cs.drop f2.offset).take (P.cellsOf f2.type)) = some y2 ∧
      DataW.trod enc P w base spare held n f3.type ((cs.drop f3.offset).take (P.cellsOf f3.type)) = some y3 ∧ DataW.trod enc P w base spare held n f4.type ((cs.drop f4.offset).take (P.cellsOf f4.type)) = some y4 := by
  obtain ⟨xs, n, _, rfl, hl, hlen, hf⟩ := DataW.trod_struct ht h
  match xs, hlen with
  | [y0, y1, y2, y3, y4], _ => exact ⟨y0, y1, y2, y3, y4, n, hl, by simpa using hf 0 f0 rfl, by simpa using hf 1 f1 rfl, by simpa using hf 2 f2 rfl, by simpa using hf 3 f3 rfl, by simpa using hf 4 f4 rfl⟩
set_option maxRecDepth 100000 in
/-- Parts that are read. -/
theorem parts_of {H : Type} {enc : TypeId × Value → H} {W : World} {base b0 : Nat} {spare : TypeId → Bool} {held : Bool} {r : Reach} {v : Value} {d : DataW H} {p : List MemPlace} (hv : Value.okWide Tryd.prog W r b0 43 v) (h : DataW.Trod enc Tryd.prog W base spare held 43 v d p) :
    ∃ x : Parts, x.Ok ∧ v = .agg (partsRow x).toArray := by
  obtain ⟨cs, rfl, hsz⟩ := okWide_struct Tryd.underlying43 hv
  obtain ⟨fuel, hf⟩ := h
  obtain ⟨y0, y1, y2, y3, y4, n, hlen, t0, t1, t2, t3, t4⟩ := trod_struct5 Tryd.underlying43 hf
  have c36 : Tryd.prog.cellsOf 36 = 16 := by kernel_rfl
  have c3 : Tryd.prog.cellsOf 3 = 1 := by kernel_rfl
  rw [cells43] at hlen
  simp only [c36, c3] at t0 t1 t2 t3 t4
  obtain ⟨d1, hd1, e1⟩ := dig_of_trod t0
  obtain ⟨d2, hd2, e2⟩ := dig_of_trod t1
  obtain ⟨n1, e3, -, w1⟩ := DataW.trod_int Tryd.underlying3 t2
  obtain ⟨n2, e4, -, w2⟩ := DataW.trod_int Tryd.underlying3 t3
  obtain ⟨n3, e5, -, w3⟩ := DataW.trod_int Tryd.underlying3 t4
  refine ⟨⟨d1, d2, n1, n2, n3⟩, ⟨hd1, hd2, in64_of w1, in64_of w2, in64_of w3⟩, ?_⟩
  have hc : (Value.agg cs).cells.toList = cs.toList := rfl
  rw [hc] at e1 e2 e3 e4 e5 hlen
  rw [List.drop_zero] at e1
  have s1 := (List.take_append_drop 16 cs.toList).symm
  have s2 := (List.take_append_drop 16 (cs.toList.drop 16)).symm
  have s3 := (List.take_append_drop 1 (cs.toList.drop 32)).symm
  have s4 := (List.take_append_drop 1 (cs.toList.drop 33)).symm
  have s5 := (List.take_append_drop 1 (cs.toList.drop 34)).symm
  rw [List.drop_drop] at s2 s3 s4 s5
  have s6 : cs.toList.drop (34 + 1) = [] := List.drop_of_length_le (by rw [hlen]; decide)
  rw [s6, e5, List.append_nil] at s5
  rw [e4, show 33 + 1 = 34 from rfl, s5] at s4
  rw [e3, show 32 + 1 = 33 from rfl, s4] at s3
  rw [e2, show 16 + 16 = 32 from rfl, s3] at s2
  rw [e1, s2] at s1
  have : cs = (partsRow ⟨d1, d2, n1, n2, n3⟩).toArray := by
    apply Array.toList_inj.1
    rw [s1]; rfl
  rw [this]

/-- The door's own heap meets the condition. -/
theorem door_met (os : Os) (args : Array Value) : laidMetH Tryd.prog Rows.custodianStatementsRow.laid ((World.doorLaid Tryd.prog 19 os).forCall (fun _ _ => 0) ⟨#[], args, []⟩).memory :=
  laidMetH_of_parts3 (fuel := 8) (laidMet_of_run' 8 (by kernel_rfl) (by kernel_rfl)) (by kernel_rfl) (by kernel_rfl)
def partsZ : Value := .agg (partsRow ⟨List.replicate 16 0, List.replicate 16 0, 0, 0, 0⟩).toArray

set_option maxRecDepth 100000 in
theorem lifted (os : Os) (started : os.Started) (H : Type) (enc : TypeId × Value → H) :
    ReturnsInHanded {} Tryd.checked os 5 .any (fun w args => (Rows.custodianStatementsSpec.pre enc Tryd.prog Tryd.f5 [] false w args ∧ laidMetH Tryd.prog Rows.custodianStatementsRow.laid w) ∧ sizedMet enc Tryd.prog Tryd.f5 (OpenSpec.ofChange Rows.custodianStatementsSpec) false w args)
      (Rows.custodianStatementsSpec.post enc Tryd.prog Tryd.f5 false true false false) := by
  refine returnsInHanded_of_change_and (C := Tryd.checked) (X := fun w _ => laidMetH Tryd.prog Rows.custodianStatementsRow.laid w) (fun _ _ _ hh h => h.of_heap hh) own_ started (by kernel_rfl) Tryd.func5
    (ChangeSpec.witness_shaped (enc := enc) (C := Tryd.checked) (os := os) (X := fun w _ => laidMetH Tryd.prog Rows.custodianStatementsRow.laid w) false (World.doorLaid Tryd.prog 19 os) #[partsZ, partsZ] 8 rfl (World.shaped_of_RefB (by kernel_rfl) (by kernel_rfl)) (by kernel_rfl) (by kernel_rfl) (by kernel_rfl) (door_met os _)) ?_
  intro W base args ds gs before hval0 hW _ _ hL _
  have hval : ∀ (j : Nat) t v, Tryd.f5.params[j]? = some t → args[j]? = some v → Value.okWide Tryd.prog W .any base t v := hval0
  have hW' := hW
  obtain ⟨p, q, hA0, hV, rfl, hfz, hnd⟩ := hW
  have hA : DataW.TrodAll enc Tryd.prog W 0 (fun _ => true) true Tryd.f5.params.toList args.toList ds p := hA0
  rw [Tryd.params5] at hA hval
  obtain ⟨v0, v1, d0, d1, p0, p1, rfl, rfl, rfl, h0, h1⟩ := trodAll_two hA
  obtain ⟨rfl, rfl⟩ := trodVars_none hV
  obtain ⟨a, ha, rfl⟩ := parts_of (hval 0 43 v0 rfl rfl) h0
  obtain ⟨b, hb, rfl⟩ := parts_of (hval 1 43 v1 rfl rfl) h1
  have hL2 := hL
  rw [MakeChecks.laidMetH_plain _ _ _ (by kernel_rfl)] at hL2
  have hT : TabK W := tabK_of hL2
  have lt0 : ∀ x ∈ p0, x.block < W.heap.size := by obtain ⟨m, hm⟩ := h0; exact DataW.trod_lt m _ _ _ hm
  have lt1 : ∀ x ∈ p1, x.block < W.heap.size := by obtain ⟨m, hm⟩ := h1; exact DataW.trod_lt m _ _ _ hm
  clear hA0 hval0
  refine (law_any a b ha hb W hT).mono fun e W' ⟨he, bel⟩ => ?_
  subst he
  exact ⟨_, rfl, _, _, _, [], _, [], hW', trodAll_mk1 (shut_bool Tryd.underlying4 _), trodAll_mk2 (Below.trod laidOut_ (by kernel_rfl) (of_decide_eq_true (by kernel_rfl)) h0 bel lt0) (Below.trod laidOut_ (by kernel_rfl) (of_decide_eq_true (by kernel_rfl)) h1 bel lt1), rfl, bel.frame _, fun h => by cases h⟩

theorem row_holds : Rows.CustodianStatementsSaid :=
  OpenClaim.holds_of_wide 5 Tryd.f5 rfl rfl rfl rfl rfl rfl rfl ⟨rfl, rfl, rfl, rfl, rfl⟩ rfl rfl rfl rfl rfl (by kernel_rfl) Tryd.func5 (by kernel_rfl)
    (of_decide_eq_true (by kernel_rfl)) (by unfold Func.isWrapper; first | (rw [if_pos (by decide +kernel)]; kernel_rfl) | (rw [if_neg (by decide +kernel)]; exact ⟨rfl, rfl⟩))
    (fun os started H enc _ => lifted os started H enc)
end Go.Proofs.YtbgijijecipjeaaDoor
