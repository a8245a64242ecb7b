/- For all parts, the statement of a custodian is that of the specification, and two statements are equal if and only if all of their parts are; the examples of the documentation hold besides. No condition: every input. The package variable hash.constants is tied to the program's text. -/
import Derived.Test.YtbgijijecipjeaaDoorRowS
namespace Go.Proofs.YtbgijijecipjeaaDoor
open Go

theorem statements_card : Rows.CustodianStatementsCardSaid :=
  Claim7.holds_tied_plain_at .later [] [.data] true (true, "76ae9cdaeec67c6b438d928efe4306523b785fb2b1d3649032f2f12263f360ea") false
    row_holds (fun _ h => by cases h) (by kernel_rfl) (fun _ h => by cases h) custodianStatements_row_tie rfl ⟨rfl, rfl⟩ (by kernel_rfl) rfl
    (fun f fn hf hfn => by
      obtain rfl : f = 5 := Option.some.inj ((show Tryd.prog.funcNamed "custody/custodylaw30.CustodianStatements" = some 5 by kernel_rfl).symm.trans hf) |>.symm
      obtain rfl : fn = Tryd.f5 := (Option.some.inj (Tryd.func5.symm.trans hfn)).symm
      exact ⟨by kernel_rfl, fun j t ht => by
        rw [Tryd.params5] at ht
        have h3 : t = 43 := by
          rcases j with _ | _ | j
          · simpa using ht.symm
          · simpa using ht.symm
          · simp at ht
        subst h3
        exact (show Tryd.prog.wantsStandIn 43 = false by kernel_rfl)⟩)
    (by kernel_rfl)
#print axioms statements_card
end Go.Proofs.YtbgijijecipjeaaDoor
