/- For all custodians, all numbers and all members: replacing valid custodians increases the epoch by 1 and keeps the members that are in both lists, as different members, and nobody else; the examples of the documentation hold besides. No condition: every input. The package variable hash.constants is tied to the program's text. -/
import Derived.Test.YtbgijijecipjeaaDoorRowR
namespace Go.Proofs.YtbgijijecipjeaaDoor
open Go

theorem replaced_card : Rows.CustodianReplacedCardSaid :=
  Claim7.holds_tied_plain_at .later [] [.data] true (true, "76ae9cdaeec67c6b438d928efe4306523b785fb2b1d3649032f2f12263f360ea") false
    row_holdsR (fun _ h => by cases h) (by kernel_rfl) (fun _ h => by cases h) custodianReplaced_row_tie rfl ⟨rfl, rfl⟩ (by kernel_rfl) rfl
    (fun f fn hf hfn => by
      obtain rfl : f = 6 := Option.some.inj ((show Tryd.prog.funcNamed "custody/custodylaw30.CustodianReplaced" = some 6 by kernel_rfl).symm.trans hf) |>.symm
      obtain rfl : fn = Tryd.f6 := (Option.some.inj (Tryd.func6.symm.trans hfn)).symm
      exact ⟨by kernel_rfl, fun j t ht => by
        rw [Tryd.params6] at ht
        rcases j with _ | _ | _ | j
        · obtain rfl : t = 24 := by simpa using ht.symm
          exact (show Tryd.prog.wantsStandIn 24 = false by kernel_rfl)
        · obtain rfl : t = 3 := by simpa using ht.symm
          exact (show Tryd.prog.wantsStandIn 3 = false by kernel_rfl)
        · obtain rfl : t = 22 := by simpa using ht.symm
          exact (show Tryd.prog.wantsStandIn 22 = false by kernel_rfl)
        · simp at ht⟩)
    (by kernel_rfl)
#print axioms replaced_card
end Go.Proofs.YtbgijijecipjeaaDoor
