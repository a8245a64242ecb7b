/- For all custodians, all members and all numbers: Valid, Replace, Kept, Encode and Digest return what the specification returns; the examples of the documentation hold besides. No condition: every input. The package variables hash.constants and custodyref02.constants are tied to the program's text. For all custodians, all members and all numbers: Valid, Replace, Kept, Encode and Digest return what the specification returns; the examples of the documentation hold besides. No condition: every input. The package variables hash.constants and custodyref02.constants are tied to the program's text. -/
import Derived.Test.YtbgijijecipjeaaDoorLawM
import Derived.Test.YtbgijijecipjeaaDoorRowM
import Derived.Test.YtbgijijecipjeaaDoorCards
import Derived.Test.YtbgijijecipjeaaDoorTie
import Derived.SevenTiedAt
import Derived.Stop.LaidErr
namespace Go.Proofs.YtbgijijecipjeaaDoor
open Go.ChangeShapes Go.WideShapes Go.ChangeAt Go.RowKit

theorem gR : Tryd.prog.globalNamed "custody/custodyref02.constants" = some 1 := by kernel_rfl
theorem gRType : (Tryd.prog.globals[1]?).map (·.type) = some 121 := by kernel_rfl
set_option maxRecDepth 100000 in
theorem tabR_of {w : World} {rest : List (String × DataW Unit)} (h : laidMet Tryd.prog (("custody/custodyref02.constants", Rows.laid_custody_custodyref02_constants) :: rest) w) : TabR w := by
  have ht := Lib.tabIs_of_head (k := .u32) (zs := shaK.map fun (x : Nat) => (x : Int)) (rest := rest) gR gRType Tryd.underlying121 Tryd.underlying82 cells32 cells64 (by exact h)
  intro j v hv
  have hj : j < 64 := by have := (List.getElem?_eq_some_iff.1 hv).1; simpa [w32, shaK] using this
  have := ht.cell gR j (by simpa [shaK] using hj)
  rw [Nat.zero_add, this]
  rw [← hv]
  simp only [w32, List.getElem?_map, List.getD_eq_getElem?_getD]
  have hs : j < shaK.length := by simpa [shaK] using hj
  rw [List.getElem?_eq_getElem hs]
  rfl
/-- The door's own heap meets the condition. -/
theorem door_metM (os : Os) (args : Array Value) : laidMetH Tryd.prog Rows.custodianMatchesSpecRow.laid ((World.doorLaid Tryd.prog 19 os).forCall (fun _ _ => 0) ⟨#[], args, []⟩).memory :=
  laidMetH_of_parts3 (fuel := 8) (laidMet_of_run' 8 (by kernel_rfl) (by kernel_rfl)) (by kernel_rfl) (by kernel_rfl)
set_option maxRecDepth 100000 in
theorem liftedM (os : Os) (started : os.Started) (H : Type) (enc : TypeId × Value → H) :
    ReturnsInHanded {} Tryd.checked os 3 .any (fun w args => (Rows.custodianMatchesSpecSpec.pre enc Tryd.prog Tryd.f3 [] false w args ∧ laidMetH Tryd.prog Rows.custodianMatchesSpecRow.laid w) ∧ sizedMet enc Tryd.prog Tryd.f3 (OpenSpec.ofChange Rows.custodianMatchesSpecSpec) false w args)
      (Rows.custodianMatchesSpecSpec.post enc Tryd.prog Tryd.f3 false true false false) := by
  refine returnsInHanded_of_change_and (C := Tryd.checked) (X := fun w _ => laidMetH Tryd.prog Rows.custodianMatchesSpecRow.laid w) (fun _ _ _ hh h => h.of_heap hh) own_ started (by kernel_rfl) Tryd.func3
    (ChangeSpec.witness_shaped (enc := enc) (C := Tryd.checked) (os := os) (X := fun w _ => laidMetH Tryd.prog Rows.custodianMatchesSpecRow.laid w) false (World.doorLaid Tryd.prog 19 os) #[.agg #[.int .i64 0, .int .i64 0, .slice none 0 0], .int .i64 0, .agg #[.int .i64 0, .int .i64 0, .slice none 0 0]] 8 rfl (World.shaped_of_RefB (by kernel_rfl) (by kernel_rfl)) (by kernel_rfl) (by kernel_rfl) (by kernel_rfl) (door_metM os _)) ?_
  intro W base args ds gs before hval0 hW _ _ hL _
  have hval : ∀ (j : Nat) t v, Tryd.f3.params[j]? = some t → args[j]? = some v → Value.okWide Tryd.prog W .any base t v := hval0
  have hW' := hW
  obtain ⟨p, q, hA0, hV, rfl, hfz, hnd⟩ := hW
  have hA : DataW.TrodAll enc Tryd.prog W 0 (fun _ => true) true Tryd.f3.params.toList args.toList ds p := hA0
  rw [Tryd.params3] at hA hval
  obtain ⟨v0, v1, v2, d0, d1, d2, p0, p1, p2, rfl, rfl, rfl, h0, h1, h2⟩ := trodAll_three hA
  obtain ⟨rfl, rfl⟩ := trodVars_none hV
  obtain ⟨ep, nd, A, c, ms, rfl, i1, i2, hr, hok, hle⟩ := cus_of (hval 0 24 v0 rfl rfl) h0
  obtain ⟨ep', nd', B, cc, ls, rfl, -, -, hr2, hok2, hle2⟩ := cus_of (hval 2 24 v2 rfl rfl) h2
  obtain ⟨need, rfl⟩ := okWide_int Tryd.underlying3 (hval 1 3 v1 rfl rfl)
  have hL2 := hL
  rw [MakeChecks.laidMetH_plain _ _ _ (by kernel_rfl)] at hL2
  have hTR : TabR W := tabR_of hL2
  have hT : TabK W := tabK_of (laidMet.tail hL2)
  have lt0 : ∀ x ∈ p0, x.block < W.heap.size := by obtain ⟨m, hm⟩ := h0; exact DataW.trod_lt m _ _ _ hm
  have lt1 : ∀ x ∈ p1, x.block < W.heap.size := by obtain ⟨m, hm⟩ := h1; exact DataW.trod_lt m _ _ _ hm
  have lt2 : ∀ x ∈ p2, x.block < W.heap.size := by obtain ⟨m, hm⟩ := h2; exact DataW.trod_lt m _ _ _ hm
  clear hA0 hval0
  refine (lawM_any ep nd need ep' nd' A B c cc ms ls W i1 i2 hr hr2 hok hok2 hle hle2 hT hTR).mono fun e W' ⟨he, bel⟩ => ?_
  subst he
  exact ⟨_, rfl, _, _, _, [], _, [], hW', trodAll_mk1 (shut_bool Tryd.underlying4 _), trodAll_mk3 (Below.trod laidOut_ (by kernel_rfl) (of_decide_eq_true (by kernel_rfl)) h0 bel lt0) (Below.trod laidOut_ (by kernel_rfl) (of_decide_eq_true (by kernel_rfl)) h1 bel lt1) (Below.trod laidOut_ (by kernel_rfl) (of_decide_eq_true (by kernel_rfl)) h2 bel lt2), rfl, bel.frame _, fun h => by cases h⟩

theorem row_holdsM : Rows.CustodianMatchesSpecSaid :=
  OpenClaim.holds_of_wide 3 Tryd.f3 rfl rfl rfl rfl rfl rfl rfl ⟨rfl, rfl, rfl, rfl, rfl⟩ rfl rfl rfl rfl rfl (by kernel_rfl) Tryd.func3 (by kernel_rfl)
    (of_decide_eq_true (by kernel_rfl)) (by unfold Func.isWrapper; first | (rw [if_pos (by decide +kernel)]; kernel_rfl) | (rw [if_neg (by decide +kernel)]; exact ⟨rfl, rfl⟩))
    (fun os started H enc _ => liftedM os started H enc)
end Go.Proofs.YtbgijijecipjeaaDoor
namespace Go.Proofs.YtbgijijecipjeaaDoor
open Go

theorem matches_card : Rows.CustodianMatchesSpecCardSaid :=
  Claim7.holds_tied_plain_at .later [] [.data, .data] true (true, "76ae9cdaeec67c6b438d928efe4306523b785fb2b1d3649032f2f12263f360ea") false
    row_holdsM (fun _ h => by cases h) (by kernel_rfl) (fun _ h => by cases h) custodianMatchesSpec_row_tie rfl ⟨rfl, rfl⟩ (by kernel_rfl) rfl
    (fun f fn hf hfn => by
      obtain rfl : f = 3 := Option.some.inj ((show Tryd.prog.funcNamed "custody/custodylaw30.CustodianMatchesSpec" = some 3 by kernel_rfl).symm.trans hf) |>.symm
      obtain rfl : fn = Tryd.f3 := (Option.some.inj (Tryd.func3.symm.trans hfn)).symm
      exact ⟨by kernel_rfl, fun j t ht => by
        rw [Tryd.params3] at ht
        rcases j with _ | _ | _ | j
        · obtain rfl : t = 24 := by simpa using ht.symm
          exact (show Tryd.prog.wantsStandIn 24 = false by kernel_rfl)
        · obtain rfl : t = 3 := by simpa using ht.symm
          exact (show Tryd.prog.wantsStandIn 3 = false by kernel_rfl)
        · obtain rfl : t = 24 := by simpa using ht.symm
          exact (show Tryd.prog.wantsStandIn 24 = false by kernel_rfl)
        · simp at ht⟩)
    (by kernel_rfl)
#print axioms matches_card
end Go.Proofs.YtbgijijecipjeaaDoor
