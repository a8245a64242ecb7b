/- Plain words: the examples of the documentation. -/
import Derived.Test.YtbgijijecipjeaaDoorDecP
import Derived.Test.YtbgijijecipjeaaDoorVer2
namespace Go.Proofs.YtbgijijecipjeaaDoor
open Go.RowKit Go.IntWalk Go.Proofs.YtbgijijecipjeaaDoorW.PrintWords

def exMs : List Mem := [mem1, mem2]
theorem ex_valid : validB 0 2 exMs = true := by
  refine validB_true ⟨?_, by decide +kernel, by decide +kernel, by decide, by decide, by decide, by decide, by decide⟩
  intro m hm
  simp only [exMs, List.mem_cons, List.not_mem_nil, or_false] at hm
  rcases hm with rfl | rfl
  · exact ⟨by decide +kernel, by decide +kernel, by decide, by decide⟩
  · exact ⟨by decide +kernel, by decide +kernel, by decide, by decide⟩
theorem ex_bad : validB 0 3 exMs = false := validB_false fun h => absurd h.2.2.2.2.1 (by decide)
theorem ex_valid1 : validB 1 1 [mem2] = true := by
  refine validB_true ⟨?_, by decide +kernel, by decide +kernel, by decide, by decide, by decide, by decide, by decide⟩
  intro m hm
  obtain rfl : m = mem2 := by simpa using hm
  exact ⟨by decide +kernel, by decide +kernel, by decide, by decide⟩
theorem ex_repl : replOk 0 2 1 exMs [mem2] = true := by
  unfold replOk
  rw [ex_valid]
  exact ex_valid1
theorem ex_kept : keptL exMs [mem2] = [-1, 0] := by decide +kernel
theorem ex_trunc : vE3 [] = 5 := by decide +kernel
theorem ex_ints : gInts (cusW 0 2 exMs) = ([0, 2, 2], 7, 0) := by decide +kernel
theorem ex_mems : gMems (cusW 0 2 exMs) 2 [] 7 = (exMs, 47, 0) := by decide +kernel
theorem ex_len : (cusW 0 2 exMs).length = 47 := by decide +kernel
theorem ex_dec : gDec (cusW 0 2 exMs) = (0, 2, exMs, 0) := by
  unfold gDec
  rw [ex_ints]
  simp only []
  rw [if_neg (by decide), if_neg (by decide)]
  rw [show (([0, 2, 2] : List Int).getD 2 0).toNat = 2 from rfl, ex_mems]
  rw [if_neg (by decide), if_neg]
  · rfl
  · rw [ex_len]
    simp only [not_or]
    exact ⟨by decide, fun h => by have := ex_valid; exact absurd (h.symm.trans this) (by decide)⟩
theorem ex_stmt : 39 < (stmtW (digB 1) 2 3 1 (digB 4)).length ∧ (stmtW (digB 1) 2 3 1 (digB 4)).take 7 = custodyB := by decide +kernel
set_option maxRecDepth 100000 in
theorem ex_hash : hOf 12 [cusW 0 2 exMs] ≠ hOf 12 [cusW 1 1 [mem2]] := by decide +kernel
end Go.Proofs.YtbgijijecipjeaaDoor
