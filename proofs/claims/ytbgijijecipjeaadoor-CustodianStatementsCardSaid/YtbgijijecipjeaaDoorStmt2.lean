/- Contract of the specification's Statement. -/
import Derived.Test.YtbgijijecipjeaaDoorStmt
import Derived.Test.YtbgijijecipjeaaDoorRow2
import Derived.Test.YtbgijijecipjeaaDoorHash6
import Derived.Deep.RegionHeldLaw
import Derived.Deep.MidRow
namespace Go.Proofs.YtbgijijecipjeaaDoor
open Go.RowKit Go.IntWalk Go.Proofs.YtbgijijecipjeaaDoorW.PrintWords

theorem heap_newat (w : World) (o : Obj) (g : Nat) (h : g = w.heap.size) : (w.alloc o).heap[g]? = some o := by subst h; exact heap_alloc_new w o
theorem add_lists (P : Program) (x y : List UInt8) (hx : x.length ≤ 1000000) (hy : y.length ≤ 1000000) (W : World) : (Op.stringOp .add ⟨x.toArray⟩ ⟨y.toArray⟩).run P W = .ok (.string ⟨(x ++ y).toArray⟩) W :=
  run_string_add_lists W x y (by omega) (by omega)
theorem row_keep_b {W w1 : World} (hb : Below W.heap.size W w1) {p : Nat} {X : Array Value} (h : row? W p = some X) : row? w1 p = some X := (row_below hb p (row_lt h)).trans h
theorem row_keep_alloc {W : World} {p : Nat} {X : Array Value} (h : row? W p = some X) (o : Obj) : row? (W.alloc o) p = some X := (row_alloc_lt W o p (row_lt h)).trans h
theorem row_keep_drew {W : World} {p : Nat} {X : Array Value} (h : row? W p = some X) : row? W.drew p = some X := h
theorem row_keep_drewN {W : World} {p : Nat} {X : Array Value} (h : row? W p = some X) (n : Nat) : row? (W.drewN n) p = some X := h
theorem rng_keep_alloc {W : World} {b o : Nat} {cs : List Value} (h : W.rangeAt b o cs) (x : Obj) : (W.alloc x).rangeAt b o cs := range_below ((Below.refl _ _).alloc (Nat.le_refl _) _) h
theorem rng_keep_drew {W : World} {b o : Nat} {cs : List Value} (h : W.rangeAt b o cs) : W.drew.rangeAt b o cs := h
theorem rng_keep_drewN {W : World} {b o : Nat} {cs : List Value} (h : W.rangeAt b o cs) (n : Nat) : (W.drewN n).rangeAt b o cs := h
theorem own_keep {w w' w2 : World} {base : Nat} {e : TypeId} {size n : Nat} {v : Value} {xs : List Value} (h : w.ownsRow base e size v n xs) (hb : Below w'.heap.size w' w2) (hh : w'.heap = w.heap) : w2.ownsRow base e size v n xs := by
  refine ⟨h.1, ?_⟩
  rcases h.2 with h2 | ⟨g, cap, cur, rfl, hg, hc, r⟩
  · exact .inl h2
  · exact .inr ⟨g, cap, cur, rfl, hg, by rw [hb.block g (by rw [hh]; exact (Array.getElem?_eq_some_iff.1 hc).1), hh]; exact hc, r⟩
set_option maxRecDepth 100000 in
set_option maxHeartbeats 80000000 in
theorem rstmt_any (dom cmd : List UInt8) (ep rq verb : Int) (w : World) (hd : dom.length = 16) (hc : cmd.length = 16) (h1 : in64 ep) (h2 : in64 rq) (h3 : in64 verb) :
    Calls Tryd.prog 25 #[.agg (Lib.byteCells dom).toArray, .int .i64 ep, .int .i64 rq, .int .i64 verb, .agg (Lib.byteCells cmd).toArray] w
      fun e w' => e = .returned (.string ⟨(stmtW dom ep rq verb cmd).toArray⟩) ∧ Below w.heap.size w w' := by
  have hds : (Lib.byteCells dom).length = 16 := by rw [Lib.byteCells_length]; exact hd
  have hcs : (Lib.byteCells cmd).length = 16 := by rw [Lib.byteCells_length]; exact hc
  have hri : Hid (∀ (W : World) (g : Nat), W.heap[g]? = some (.cells #[Value.int IntKind.i64 verb, Value.int IntKind.i64 ep, Value.int IntKind.i64 rq] 3 (0, 0)) → ReadsInt W .i64 (some ⟨g, 0, none⟩) 3 [verb, ep, rq]) := Lib.hid (by
    intro W g hg
    refine ⟨rfl, by decide, fun _ => ⟨_, rfl, fun j hj => ?_⟩⟩
    rw [add_plain, cell_of_row _ _ _ _ _ _ hg]
    rcases j with _ | _ | _ | j
    · rfl
    · rfl
    · rfl
    · omega)
  have hbnd : Hid (∀ x ∈ [verb, ep, rq], -9223372036854775808 ≤ x ∧ x < 9223372036854775808) := Lib.hid (by intro x hx; simp at hx; rcases hx with rfl | rfl | rfl <;> assumption)
  obtain ⟨is, his⟩ : ∃ is, is = wInts [verb, ep, rq] := ⟨_, rfl⟩
  have hil : is.length ≤ 36 := by
    have e1 := wInt_length_le (([verb, ep, rq] : List Int).length : Int)
    have e2 := wMany_length_le [verb, ep, rq]
    rw [his, wInts, List.length_append]
    simp only [List.length_cons, List.length_nil] at e1 e2 ⊢
    omega
  have ha1 : ∀ W, (Op.stringOp .add ⟨#[99, 117, 115, 116, 111, 100, 121]⟩ ⟨is.toArray⟩).run Tryd.prog W = .ok (.string ⟨(custodyB ++ is).toArray⟩) W := add_lists _ custodyB is (by decide) (by omega)
  obtain ⟨x1, hx1⟩ : ∃ x1, x1 = custodyB ++ is := ⟨_, rfl⟩
  have hl1 : x1.length ≤ 43 := by rw [hx1]; simp [custodyB]; omega
  have ha2 := add_lists Tryd.prog x1 dom (by omega) (by omega)
  obtain ⟨x2, hx2⟩ : ∃ x2, x2 = x1 ++ dom := ⟨_, rfl⟩
  have hl2 : x2.length ≤ 59 := by rw [hx2]; simp; omega
  have ha3 := add_lists Tryd.prog x2 cmd (by omega) (by omega)
  obtain ⟨x3, hx3⟩ : ∃ x3, x3 = x2 ++ cmd := ⟨_, rfl⟩
  rw [← hx1] at ha1
  rw [← hx2] at ha2
  rw [← hx3] at ha3
  have hst : x3 = stmtW dom ep rq verb cmd := by rw [hx3, hx2, hx1, his, stmtW]
  have HST := Lib.hid hst
  clear hst hx1 hx2 hx3
  have HIS := Lib.hid his
  clear his
  go_enter Tryd.func25, Tryd.ntmps25
  go_wp2_with fail
  go_region_with (first
    | (go_at_call 35; go_must (refine (rints_any _ 3 [verb, ep, rq] _ (hri.out _ _ ?_) (by simp) (by simp) hbnd.out).mono ?_; (focus ((repeat (first | (with_reducible refine hp_drew ?_) | (with_reducible refine hp_drewN ?_ _))); exact heap_newat _ _ _ (by simp))); rintro e w1 ⟨v1, rfl, hown1, hB1⟩; have hcv1 := own_string (P := Tryd.prog) Tryd.underlying56 Tryd.underlying5 Tryd.underlying9 hown1; rw [strOfNums_bi, ← HIS.out] at hcv1; obtain ⟨hcc1, hcf1, hrw1, hsz1⟩ := brow hB1; have ra1 := hrw1 w.heap.size; (try simp at ra1); have rb1 := hrw1 (w.heap.size + 1); (try simp at rb1); have qa1 := hsz1 w.heap.size; (try simp at qa1); have qb1 := hsz1 (w.heap.size + 1); (try simp at qb1)))
    | (go_at_call 37; go_must (refine (text_any _ _ ?_).mono ?_; (focus assumption); rintro e w2 ⟨rfl, hB2⟩; (try (have hown1 := own_keep hown1 hB2 rfl; have hcv1 := own_string (P := Tryd.prog) Tryd.underlying56 Tryd.underlying5 Tryd.underlying9 hown1; rw [strOfNums_bi, ← HIS.out] at hcv1)); obtain ⟨hcc2, hcf2, hrw2, hsz2⟩ := brow hB2; have ra2 := hrw2 w.heap.size; (try simp at ra2); have rb2 := hrw2 (w.heap.size + 1); (try simp at rb2); have qa2 := hsz2 w.heap.size; (try simp at qa2); have qb2 := hsz2 (w.heap.size + 1); (try simp at qb2))))
  all_goals
    go_wp2_with fail
    go_ret
    refine ⟨congrArg (fun l : List UInt8 => Ending.returned (Value.string ⟨l.toArray⟩)) HST.out, ?_⟩
    (repeat (first | (with_reducible assumption) | (with_reducible exact Below.refl _ _) | (with_reducible refine bl_alloc ?_ _) | (with_reducible refine bl_drew ?_) | (with_reducible refine bl_drewN ?_ _) | (with_reducible refine bl_then (by assumption) ?_)))
end Go.Proofs.YtbgijijecipjeaaDoor
