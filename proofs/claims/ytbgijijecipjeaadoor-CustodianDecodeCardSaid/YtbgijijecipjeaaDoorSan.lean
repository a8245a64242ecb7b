/- Contract of custodylaw30.sanity. -/
import Derived.Test.YtbgijijecipjeaaDoorSan0
import Derived.Test.YtbgijijecipjeaaDoorChk
import Derived.Test.YtbgijijecipjeaaDoorDec4
import Derived.Test.YtbgijijecipjeaaDoorDig
import Derived.Test.YtbgijijecipjeaaDoorEqA
import Derived.Test.YtbgijijecipjeaaDoorSame2
namespace Go.Proofs.YtbgijijecipjeaaDoor
open Go.RowKit Go.IntWalk Go.Proofs.YtbgijijecipjeaaDoorW.PrintWords

/-- Custodians in a box. -/
def HasC (w : World) (B : Nat) (ep need : Int) (A : Option Addr) (n c : Nat) (ms : List Mem) : Prop := row? w B = some (cusRow ep need A n c) ∧ ReadsMem w A n ms
theorem HasC.below_ {w w1 : World} {B : Nat} {ep need : Int} {A : Option Addr} {n c : Nat} {ms : List Mem} (h : HasC w B ep need A n c ms) (hb : Below w.heap.size w w1) : HasC w1 B ep need A n c ms :=
  ⟨(row_below hb B (row_lt h.1)).trans h.1, h.2.below hb⟩
theorem HasC.alloc_ {w : World} {B : Nat} {ep need : Int} {A : Option Addr} {n c : Nat} {ms : List Mem} (h : HasC w B ep need A n c ms) (o : Obj) : HasC (w.alloc o) B ep need A n c ms := h.below_ ((Below.refl _ _).alloc (Nat.le_refl _) o)
theorem HasC.drew_ {w : World} {B : Nat} {ep need : Int} {A : Option Addr} {n c : Nat} {ms : List Mem} (h : HasC w B ep need A n c ms) : HasC w.drew B ep need A n c ms := h
theorem HasC.new_ {w : World} {ep need : Int} {A : Option Addr} {n c : Nat} {ms : List Mem} (h : ReadsMem w A n ms) : HasC (w.alloc (.cells (cusRow ep need A n c) 24)) w.heap.size ep need A n c ms :=
  ⟨row_of (heap_alloc_new _ _), h.below ((Below.refl _ _).alloc (Nat.le_refl _) _)⟩
theorem ReadsMem.tail {w : World} {g n : Nat} {x : Mem} {ms : List Mem} (h : ReadsMem w (some ⟨g, 0, none⟩) (n + 1) (x :: ms)) : ReadsMem w (some ⟨g, 18, none⟩) n ms := by
  refine ⟨by have := h.1; simpa using this, fun j m hm => ?_⟩
  obtain ⟨hp, ad, e, hc⟩ := h.2 (j + 1) m (by simpa using hm)
  injection e with e; subst e
  refine ⟨hp, _, rfl, fun k v hv => ?_⟩
  have := hc k v hv
  rw [add_plain] at this
  have e2 : (⟨g, 18, none⟩ : Addr).add (j * 18 + k) = ⟨g, (j + 1) * 18 + k, none⟩ := by
    unfold Addr.add
    split
    · rename_i h0; simp only [Addr.mk.injEq]; exact ⟨trivial, by omega, trivial⟩
    · simp only [Addr.mk.injEq]; exact ⟨trivial, by omega, trivial⟩
  rw [e2]; exact this
theorem ex_ok : okMems exMs := by
  intro m hm
  simp only [exMs, List.mem_cons, List.not_mem_nil, or_false] at hm
  rcases hm with rfl | rfl
  · exact ⟨by decide +kernel, by decide, by decide⟩
  · exact ⟨by decide +kernel, by decide, by decide⟩
theorem ex_ok1 : okMems [mem2] := by
  intro m hm
  obtain rfl : m = mem2 := by simpa using hm
  exact ⟨by decide +kernel, by decide, by decide⟩

theorem repl_ex (W : World) (A B : Option Addr) (c d : Nat) (h1 : ReadsMem W A 2 exMs) (h2 : ReadsMem W B 1 [mem2]) :
    Calls Tryd.prog 10 #[.agg #[.int .i64 0, .int .i64 2, .slice A 2 c], .int .i64 1, .slice B 1 d] W fun e w' => Below W.heap.size W w' ∧ ∃ B' d', e = .returned (.tuple #[.agg #[.int .i64 1, .int .i64 1, .slice B' 1 d'], .int .i64 0]) ∧ ReadsMem w' B' 1 [mem2] ∧ ∃ ad, B' = some ad ∧ W.heap.size ≤ ad.block := by
  refine (repl_any 0 2 1 A B c d exMs [mem2] W h1 h2 ex_ok ex_ok1 (by decide) (by decide)).mono ?_
  rintro e w' ⟨hb, ⟨h, -⟩ | ⟨-, B', d', rfl, hr, hf⟩⟩
  · rw [ex_repl] at h; cases h
  · exact ⟨hb, B', d', rfl, hr, hf.resolve_left (by simp)⟩

theorem vex1 (W : World) (A : Option Addr) (c : Nat) (h : ReadsMem W A 2 exMs) : Calls Tryd.prog 12 #[.agg #[.int .i64 0, .int .i64 2, .slice A 2 c]] W fun e w' => e = .returned (.bool true) ∧ Below W.heap.size W w' := by
  have := valid_any 0 2 A c exMs W h ex_ok (by decide)
  rw [ex_valid] at this; exact this
theorem vex2 (W : World) (A : Option Addr) (c : Nat) (h : ReadsMem W A 2 exMs) : Calls Tryd.prog 12 #[.agg #[.int .i64 0, .int .i64 3, .slice A 2 c]] W fun e w' => e = .returned (.bool false) ∧ Below W.heap.size W w' := by
  have := valid_any 0 3 A c exMs W h ex_ok (by decide)
  rw [ex_bad] at this; exact this
theorem kex (W : World) (A B : Option Addr) (c d : Nat) (h1 : ReadsMem W A 2 exMs) (h2 : ReadsMem W B 1 [mem2]) : Calls Tryd.prog 16 #[.agg #[.int .i64 0, .int .i64 2, .slice A 2 c], .agg #[.int .i64 1, .int .i64 1, .slice B 1 d]] W fun e w' =>
    ∃ A' c', e = .returned (.slice A' 2 c') ∧ ReadsInt w' .i64 A' 2 [-1, 0] ∧ Below W.heap.size W w' := by
  refine (kept_any 0 2 1 1 A B c d exMs [mem2] W h1 h2 ex_ok ex_ok1 (by decide) (by decide)).mono ?_
  rintro e w' ⟨v, rfl, hown, hb⟩
  rw [ex_kept] at hown
  obtain ⟨A', c', rfl, hr⟩ := own_reads hown
  exact ⟨A', c', rfl, hr, hb⟩
theorem siex (W : World) (A B : Option Addr) (c d : Nat) (h1 : ReadsInt W .i64 A 2 [-1, 0]) (h2 : ReadsInt W .i64 B 2 [-1, 0]) : Calls Tryd.prog 15 #[.slice A 2 c, .slice B 2 d] W fun e w' => e = .returned (.bool true) ∧ Below W.heap.size W w' :=
  sameInts_any A B c d [-1, 0] [-1, 0] W h1 h2 (by decide) (by decide)
theorem sex (W : World) (A B : Option Addr) (c d : Nat) (h1 : ReadsMem W A 2 exMs) (h2 : ReadsMem W B 2 exMs) : Calls Tryd.prog 14 #[.agg #[.int .i64 0, .int .i64 2, .slice A 2 c], .agg #[.int .i64 0, .int .i64 2, .slice B 2 d]] W fun e w' => e = .returned (.bool true) ∧ Below W.heap.size W w' := by
  refine (same_any 0 2 0 2 A B c d exMs exMs W h1 h2 ex_ok ex_ok (by decide) (by decide)).mono ?_
  rintro e w' ⟨rfl, hb⟩
  exact ⟨by rw [decide_eq_true (⟨rfl, rfl, rfl⟩ : (0 : Int) = 0 ∧ (2 : Int) = 2 ∧ exMs = exMs)], hb⟩
theorem dex1 (W : World) (hT : TabK W) (A : Option Addr) (c : Nat) (h : ReadsMem W A 2 exMs) (D : List UInt8) (hD : D = hOf 12 [cusW 0 2 exMs]) : Calls Tryd.prog 20 #[.agg #[.int .i64 0, .int .i64 2, .slice A 2 c]] W fun e w' => e = .returned (.agg (Lib.byteCells D).toArray) ∧ Below W.heap.size W w' := by
  rw [hD]; exact dig_any 0 2 A c exMs W hT h ⟨by decide, by decide⟩ ⟨by decide, by decide⟩ (fun m hm => (ex_ok m hm).2) (by decide +kernel)
theorem dex2 (W : World) (hT : TabK W) (A : Option Addr) (c : Nat) (h : ReadsMem W A 1 [mem2]) (D : List UInt8) (hD : D = hOf 12 [cusW 1 1 [mem2]]) : Calls Tryd.prog 20 #[.agg #[.int .i64 1, .int .i64 1, .slice A 1 c]] W fun e w' => e = .returned (.agg (Lib.byteCells D).toArray) ∧ Below W.heap.size W w' := by
  rw [hD]; exact dig_any 1 1 A c [mem2] W hT h ⟨by decide, by decide⟩ ⟨by decide, by decide⟩ (fun m hm => (ex_ok1 m hm).2) (by decide +kernel)
theorem reads2 {W : World} {g : Nat} {a b : Int} {t : TypeId} {fr : Nat × Nat} (hg : W.heap[g]? = some (.cells #[Value.int .i64 a, Value.int .i64 b] t fr)) : ReadsInt W .i64 (some ⟨g, 0, none⟩) 2 [a, b] := by
  refine ⟨rfl, by decide, fun _ => ⟨_, rfl, fun j hj => ?_⟩⟩
  rw [add_plain, cell_of_row _ _ _ _ _ _ hg]
  rcases j with _ | _ | j
  · rfl
  · rfl
  · omega
theorem rk_b {W w1 : World} (hb : Below W.heap.size W w1) {p : Nat} {X : Array Value} (h : row? W p = some X) : row? w1 p = some X := (row_below hb p (row_lt h)).trans h
theorem rk_alloc {W : World} {p : Nat} {X : Array Value} (h : row? W p = some X) (o : Obj) : row? (W.alloc o) p = some X := rk_b ((Below.refl _ _).alloc (Nat.le_refl _) o) h
theorem rk_drew {W : World} {p : Nat} {X : Array Value} (h : row? W p = some X) : row? W.drew p = some X := h
theorem rk_drewN {W : World} {p : Nat} {X : Array Value} (h : row? W p = some X) (n : Nat) : row? (W.drewN n) p = some X := h

set_option maxRecDepth 100000 in
set_option maxHeartbeats 8000000 in
theorem sanity_any (w : World) (hT : TabK w) : Calls Tryd.prog 9 #[] w fun e w' => e = .returned (.bool true) ∧ Below w.heap.size w w' := by
  have hts : ∀ (W : World) (g n' d' : Nat) (x y : Int) (B' : Option Addr), storeRowK Tryd.prog 24 3 g #[Value.int IntKind.i64 x, Value.int IntKind.i64 y, Value.slice B' n' d'] W (some #[Value.int IntKind.i64 0, Value.int IntKind.i64 0, Value.slice none 0 0]) = .ok () (W.setRow g #[Value.int IntKind.i64 x, Value.int IntKind.i64 y, Value.slice B' n' d']) := fun W g n' d' x y B' => storeRowK_some _ _ _ _ _ _ _ rfl rfl (by simp [oneAll, Value.oneCell'])
  go_enter Tryd.func9, Tryd.ntmps9
  go_wp2_with fail
  refine (two_any _).mono ?_
  rintro e w1 ⟨g1, rfl, hm1, hg1, hB1⟩
  unfold cusV
  have HB1 := Lib.hid hB1
  have HM1 := Lib.hid hm1
  clear hB1 hm1 hg1
  go_upto_region 2 with fail
  have hh1 : HasC (w1.alloc (.cells #[Value.int .i64 0, Value.int .i64 2, Value.slice (some ⟨g1, 0, none⟩) 2 2] 24)) w1.heap.size 0 2 (some ⟨g1, 0, none⟩) 2 2 exMs := HasC.new_ HM1.out
  obtain ⟨B1, hB1⟩ : ∃ B1, B1 = w1.heap.size := ⟨_, rfl⟩
  obtain ⟨w2, hw2⟩ : ∃ w2, w2 = w1.alloc (.cells #[Value.int .i64 0, Value.int .i64 2, Value.slice (some ⟨g1, 0, none⟩) 2 2] 24) := ⟨_, rfl⟩
  have hb2 : Below w.heap.size w w2 := by rw [hw2]; exact HB1.out.alloc HB1.out.size _
  rw [← hB1, ← hw2] at hh1 ⊢
  have HH2 := Lib.hid hh1
  have HB2 := Lib.hid hb2
  clear hw2 hB1 hb2 hh1 HB1 HM1
  go_wp2_with fail
  refine (two_any _).mono ?_
  rintro e w3 ⟨g2, rfl, hm3, hg3, hB3⟩
  unfold cusV
  have HB3 := Lib.hid hB3
  have HM3 := Lib.hid hm3
  clear hB3 hm3 hg3
  go_upto_region 4 with fail
  obtain ⟨B2, hB2⟩ : ∃ B2, B2 = w3.heap.size := ⟨_, rfl⟩
  obtain ⟨w4, hw4⟩ : ∃ w4, w4 = w3.alloc (.cells #[Value.int .i64 0, Value.int .i64 3, Value.slice (some ⟨g2, 0, none⟩) 2 2] 24) := ⟨_, rfl⟩
  have hb4 : Below w.heap.size w w4 := by rw [hw4]; exact (HB2.out.trans (HB3.out.mono HB2.out.size)).alloc (Nat.le_trans HB2.out.size HB3.out.size) _
  have hh4 : HasC w4 B1 0 2 (some ⟨g1, 0, none⟩) 2 2 exMs := by rw [hw4]; exact (HH2.out.below_ HB3.out).alloc_ _
  have hi4 : HasC w4 B2 0 3 (some ⟨g2, 0, none⟩) 2 2 exMs := by rw [hw4, hB2]; exact HasC.new_ HM3.out
  rw [← hB2, ← hw4]
  have HB4 := Lib.hid hb4
  have HH4 := Lib.hid hh4
  have HI4 := Lib.hid hi4
  clear hw4 hB2 hb4 hh4 hi4 HB2 HB3 HM3 HH2
  go_cut [3, 4] (fun v3 v4 wx => ∃ B3 A3 d3, v3 = .pointer (some ⟨B3, 0, none⟩) ∧ v4 = .int .i64 0 ∧ HasC wx B1 0 2 (some ⟨g1, 0, none⟩) 2 2 exMs ∧ HasC wx B2 0 3 (some ⟨g2, 0, none⟩) 2 2 exMs ∧ HasC wx B3 1 1 A3 1 d3 [mem2] ∧ Below w.heap.size w wx)
  case first =>
    have hr1 : row? w4 B1 = some #[.int .i64 0, .int .i64 2, .slice (some ⟨g1, 0, none⟩) 2 2] := HH4.out.1
    have hl1 := row_lt hr1
    have hc2 : w4.cell? ⟨B1, 2, none⟩ = some (.slice (some ⟨g1, 0, none⟩) 2 2) := by rw [row_cell hr1]; rfl
    have hca : ∀ o, (w4.alloc o).cell? ⟨B1, 2, none⟩ = some (.slice (some ⟨g1, 0, none⟩) 2 2) := fun o => cell_keep_alloc hc2 o
    have HMT := Lib.hid (ReadsMem.tail HH4.out.2)
    have HG1 : Hid (g1 ≠ w4.heap.size) := Lib.hid (by
      obtain ⟨-, ad, e, hc⟩ := HH4.out.2.2 0 mem1 rfl
      injection e with e; subst e
      have := World.block_lt_of_cell? w4 _ (hc 0 _ rfl)
      rw [add_block] at this; exact Nat.ne_of_lt this)
    have HG2 : Hid (g2 ≠ w4.heap.size) := Lib.hid (by
      obtain ⟨-, ad, e, hc⟩ := HI4.out.2.2 0 mem1 rfl
      injection e with e; subst e
      have := World.block_lt_of_cell? w4 _ (hc 0 _ rfl)
      rw [add_block] at this; exact Nat.ne_of_lt this)
    go_region_with (first
      | (go_at_call 10; go_must (refine (repl_ex _ (some ⟨g1, 0, none⟩) (some ⟨g1, 18, none⟩) 2 1 (HH4.out.2.below (by (repeat (first | (with_reducible assumption) | (with_reducible exact Below.refl _ _) | (with_reducible refine bl_alloc ?_ _) | (with_reducible refine bl_drew ?_) | (with_reducible refine bl_drewN ?_ _) | (with_reducible refine bl_then (by assumption) ?_))))) (HMT.out.below (by (repeat (first | (with_reducible assumption) | (with_reducible exact Below.refl _ _) | (with_reducible refine bl_alloc ?_ _) | (with_reducible refine bl_drew ?_) | (with_reducible refine bl_drewN ?_ _) | (with_reducible refine bl_then (by assumption) ?_)))))).mono ?_; rintro e w5 ⟨hB5, A3, d3, rfl, hR5, hF5⟩; have r0 := (brow hB5).2.2.1 w4.heap.size; (try simp [row_drew, row_alloc, World.size_alloc, rowO] at r0))))
    all_goals
      go_wp2_with fail
      go_meet
      have hB5' : Below w4.heap.size w4 w5 := by (repeat (first | (with_reducible assumption) | (with_reducible exact Below.refl _ _) | (with_reducible refine bl_alloc ?_ _) | (with_reducible refine bl_drew ?_) | (with_reducible refine bl_drewN ?_ _) | (with_reducible refine bl_then (by assumption) ?_)))
      have hb5 : Below w.heap.size w w5 := HB4.out.trans (hB5'.mono HB4.out.size)
      have hx1 := HH4.out.below_ hB5'
      have hx2 := HI4.out.below_ hB5'
      have hn1 := row_lt HH4.out.1
      have hn2 := row_lt HI4.out.1
      have hs4 := HB4.out.size
      obtain ⟨ad5, rfl, hf5⟩ := hF5
      first
        | exact ⟨_, _, _, rfl, rfl, hx1.alloc_ _, hx2.alloc_ _, HasC.new_ hR5, hb5.alloc hb5.size _⟩
        | (refine ⟨w4.heap.size, some ad5, d3, rfl, rfl, ⟨by rw [row_setRow, if_neg (by omega)]; exact hx1.1, hx1.2.setRow _ _ (.inr ⟨_, rfl, HG1.out⟩)⟩, ⟨by rw [row_setRow, if_neg (by omega)]; exact hx2.1, hx2.2.setRow _ _ (.inr ⟨_, rfl, HG2.out⟩)⟩, ⟨by rw [row_setRow, if_pos rfl, r0]; rfl, hR5.setRow _ _ (.inr ⟨_, rfl, ?_⟩)⟩, below_setRow hb5 hs4 _⟩; simp only [szA, World.drew] at hf5; omega)
  case rest =>
    obtain ⟨B3, A3, d3, rfl, rfl, hh5, hi5, hj5, hb5⟩ := hcut
    obtain ⟨w5, hw5⟩ : ∃ w5, w5 = wc := ⟨_, rfl⟩
    rw [← hw5] at hh5 hi5 hj5 hb5 ⊢
    clear hw5 HH4 HI4 HB4
    have hr1 : row? w5 B1 = some #[.int .i64 0, .int .i64 2, .slice (some ⟨g1, 0, none⟩) 2 2] := hh5.1
    have HH5 := Lib.hid hh5
    have HI5 := Lib.hid hi5
    have HJ5 := Lib.hid hj5
    have HB5 := Lib.hid hb5
    clear hh5 hi5 hj5 hb5
    go_wp2_with fail
    refine (check_none 0 2 (some ⟨g1, 0, none⟩) 2 2 2 ⟨#[]⟩ ⟨#[]⟩ w5 (.inr (by decide))).mono ?_
    rintro e w6 ⟨rfl, hB6⟩
    have hh6 := HH5.out.below_ hB6
    have HH6 := Lib.hid hh6
    have HI6 := Lib.hid (HI5.out.below_ hB6)
    have HJ6 := Lib.hid (HJ5.out.below_ hB6)
    have HB6 := Lib.hid (HB5.out.trans (hB6.mono HB5.out.size))
    replace hr1 : row? w6 B1 = some #[.int .i64 0, .int .i64 2, .slice (some ⟨g1, 0, none⟩) 2 2] := hh6.1
    clear hh6 hB6 HH5 HI5 HJ5 HB5
    go_wp2_with fail
    refine (check_err 0 2 (some ⟨g1, 0, none⟩) 2 exMs 0 mem1 ⟨#[]⟩ ⟨#[]⟩ w6 HH6.out.2 rfl (by decide) (by decide) (by decide) (by decide) (by rw [show (⟨#[]⟩ : ByteArray).data.toList = [] from rfl, ex_trunc]; decide)).mono ?_
    rintro e w7 ⟨rfl, hB7⟩
    rw [show (⟨#[]⟩ : ByteArray).data.toList = [] from rfl, ex_trunc]
    have hh7 := HH6.out.below_ hB7
    have HH7 := Lib.hid hh7
    have HI7 := Lib.hid (HI6.out.below_ hB7)
    have HJ7 := Lib.hid (HJ6.out.below_ hB7)
    have HB7 := Lib.hid (HB6.out.trans (hB7.mono HB6.out.size))
    replace hr1 : row? w7 B1 = some #[.int .i64 0, .int .i64 2, .slice (some ⟨g1, 0, none⟩) 2 2] := hh7.1
    clear hh7 hB7 HH6 HI6 HJ6 HB6
    go_wp2_with fail
    refine (enc_any 0 2 (some ⟨g1, 0, none⟩) 2 exMs w7 HH7.out.2 ⟨by decide, by decide⟩ ⟨by decide, by decide⟩ (fun m hm => (ex_ok m hm).2) (by decide +kernel)).mono ?_
    rintro e w8 ⟨rfl, hB8⟩
    have HH8 := Lib.hid (HH7.out.below_ hB8)
    have HI8 := Lib.hid (HI7.out.below_ hB8)
    have HJ8 := Lib.hid (HJ7.out.below_ hB8)
    have HB8 := Lib.hid (HB7.out.trans (hB8.mono HB7.out.size))
    clear hr1 hB8 HH7 HI7 HJ7 HB7
    obtain ⟨ec, hec⟩ : ∃ ec, ec = cusW 0 2 exMs := ⟨_, rfl⟩
    rw [← hec]
    have hel : ec.length = 47 := by rw [hec, ex_len]
    have hdec := ex_dec
    rw [← hec] at hdec
    have HD := Lib.hid hdec
    clear hec hdec
    go_wp2_with fail
    refine (decode_any ⟨ec.toArray⟩ w8 (by show ec.toArray.size ≤ _; rw [List.size_toArray, hel]; decide)).mono ?_
    rintro e w9 ⟨hB9, A9, c9, rfl, hr9⟩
    rw [show (⟨ec.toArray⟩ : ByteArray).data.toList = ec from List.toList_toArray, HD.out] at hr9 ⊢
    have hh9 : HasC (w9.alloc (.cells (cusRow 0 2 A9 2 c9) 24)) w9.heap.size 0 2 A9 2 c9 exMs := HasC.new_ hr9
    have HH9 := Lib.hid (HH8.out.below_ hB9)
    have HI9 := Lib.hid (HI8.out.below_ hB9)
    have HJ9 := Lib.hid (HJ8.out.below_ hB9)
    have HB9 := Lib.hid (HB8.out.trans (hB9.mono HB8.out.size))
    unfold cusV
    clear hB9 HH8 HI8 HJ8 HB8 HD hr9
    have HK9 := Lib.hid hh9
    clear hh9
    simp only [show exMs.length = 2 from rfl]
    go_upto_region 8 with fail
    obtain ⟨B4, hB4⟩ : ∃ B4, B4 = w9.heap.size := ⟨_, rfl⟩
    obtain ⟨w10, hw10⟩ : ∃ w10, w10 = w9.alloc (.cells #[Value.int .i64 0, Value.int .i64 2, Value.slice A9 2 c9] 24) := ⟨_, rfl⟩
    have hB10 : Below w9.heap.size w9 w10 := by rw [hw10]; exact (Below.refl _ _).alloc (Nat.le_refl _) _
    have HK10 : Hid (HasC w10 B4 0 2 A9 2 c9 exMs) := Lib.hid (by rw [hw10, hB4]; exact HK9.out)
    have HH10 := Lib.hid (HH9.out.below_ hB10)
    have HI10 := Lib.hid (HI9.out.below_ hB10)
    have HJ10 := Lib.hid (HJ9.out.below_ hB10)
    have HB10 := Lib.hid (HB9.out.trans (hB10.mono HB9.out.size))
    rw [← hB4, ← hw10]
    clear hB4 hw10 hB10 HK9 HH9 HI9 HJ9 HB9
    go_wp2_with fail
    refine (stmt_any (digB 1) (digB 4) 2 3 1 w10 rfl rfl ⟨by decide, by decide⟩ ⟨by decide, by decide⟩ ⟨by decide, by decide⟩).mono ?_
    rintro e w11 ⟨rfl, hB11⟩
    obtain ⟨S, hS⟩ : ∃ S : ByteArray, S = ⟨(stmtW (digB 1) 2 3 1 (digB 4)).toArray⟩ := ⟨_, rfl⟩
    rw [← hS]
    have hs1 : (39 : Int) < (S.size : Int) := by rw [hS]; decide +kernel
    have hs3 : (7 : Int) ≤ (S.size : Int) := by rw [hS]; decide +kernel
    have hs4 : 7 ≤ S.size := by rw [hS]; decide +kernel
    have hs2 : S.extract 0 7 = ⟨#[99, 117, 115, 116, 111, 100, 121]⟩ := by rw [hS]; decide +kernel
    clear hS
    have HH11 := Lib.hid (HH10.out.below_ hB11)
    have HI11 := Lib.hid (HI10.out.below_ hB11)
    have HJ11 := Lib.hid (HJ10.out.below_ hB11)
    have HK11 := Lib.hid (HK10.out.below_ hB11)
    have HB11 := Lib.hid (HB10.out.trans (hB11.mono HB10.out.size))
    clear hB11 HH10 HI10 HJ10 HK10 HB10
    obtain ⟨D1, hD1⟩ : ∃ D, D = hOf 12 [cusW 0 2 exMs] := ⟨_, rfl⟩
    obtain ⟨D2, hD2⟩ : ∃ D, D = hOf 12 [cusW 1 1 [mem2]] := ⟨_, rfl⟩
    have heq : ∀ W, (Op.equalIn 10000 36 (.agg (Lib.byteCells D1).toArray) (.agg (Lib.byteCells D2).toArray)).run Tryd.prog W = .ok false W := fun W => by
      rw [eq_dig D1 D2 W (by rw [hD1]; exact hOf_length _ _) (by rw [hD2]; exact hOf_length _ _), decide_eq_false (by rw [hD1, hD2]; exact ex_hash)]
    have HD1 := Lib.hid hD1
    have HD2 := Lib.hid hD2
    have HT := Lib.hid (hT.below HB11.out)
    have hr1 : row? w11 B1 = some #[.int .i64 0, .int .i64 2, .slice (some ⟨g1, 0, none⟩) 2 2] := HH11.out.1
    have hr2 : row? w11 B2 = some #[.int .i64 0, .int .i64 3, .slice (some ⟨g2, 0, none⟩) 2 2] := HI11.out.1
    have hr3 : row? w11 B3 = some #[.int .i64 1, .int .i64 1, .slice A3 1 d3] := HJ11.out.1
    have hr4 : row? w11 B4 = some #[.int .i64 0, .int .i64 2, .slice A9 2 c9] := HK11.out.1
    have hk0 : w11.cell? ⟨B3, 0, none⟩ = some (.int .i64 1) := by rw [row_cell hr3]; rfl
    have hk1 : w11.cell? ⟨B3, 1, none⟩ = some (.int .i64 1) := by rw [row_cell hr3]; rfl
    have hk2 : w11.cell? ⟨B3, 2, none⟩ = some (.slice A3 1 d3) := by rw [row_cell hr3]; rfl
    clear hD1 hD2
    go_upto_region 9 with fail
    simp only [List.append]
    go_region_held3 (fun w' => row? w' B1 = some #[.int .i64 0, .int .i64 2, .slice (some ⟨g1, 0, none⟩) 2 2] ∧ row? w' B2 = some #[.int .i64 0, .int .i64 3, .slice (some ⟨g2, 0, none⟩) 2 2] ∧ row? w' B3 = some #[.int .i64 1, .int .i64 1, .slice A3 1 d3] ∧ row? w' B4 = some #[.int .i64 0, .int .i64 2, .slice A9 2 c9] ∧ w'.cell? ⟨B3, 0, none⟩ = some (.int .i64 1) ∧ w'.cell? ⟨B3, 1, none⟩ = some (.int .i64 1) ∧ w'.cell? ⟨B3, 2, none⟩ = some (.slice A3 1 d3))
      (refine ⟨?_, ?_, ?_, ?_, ?_, ?_, ?_⟩ <;> (repeat (first | (with_reducible assumption) | (with_reducible refine rk_alloc ?_ _) | (with_reducible refine rk_drew ?_) | (with_reducible refine rk_drewN ?_ _) | (with_reducible refine cell_keep_alloc ?_ _) | (with_reducible refine cell_keep_drew ?_) | (with_reducible refine cell_keep_drewN ?_ _) | (refine rk_b (by assumption) ?_) | (refine cell_keep_b (by assumption) ?_) | (go_split_ands; assumption))))
      (first
        | ((with_reducible show Calls _ _ #[Value.agg #[_, Value.int .i64 2, _]] _ _); go_at_call 12; go_must (refine (vex1 _ (some ⟨g1, 0, none⟩) 2 (HH11.out.2.below (by (repeat (first | (with_reducible assumption) | (with_reducible exact Below.refl _ _) | (with_reducible refine bl_alloc ?_ _) | (with_reducible refine bl_drew ?_) | (with_reducible refine bl_drewN ?_ _) | (with_reducible refine bl_then (by assumption) ?_)))))).mono ?_; rintro e w12 ⟨rfl, hB12⟩))
        | ((with_reducible show Calls _ _ #[Value.agg #[_, Value.int .i64 3, _]] _ _); go_at_call 12; go_must (refine (vex2 _ (some ⟨g2, 0, none⟩) 2 (HI11.out.2.below (by (repeat (first | (with_reducible assumption) | (with_reducible exact Below.refl _ _) | (with_reducible refine bl_alloc ?_ _) | (with_reducible refine bl_drew ?_) | (with_reducible refine bl_drewN ?_ _) | (with_reducible refine bl_then (by assumption) ?_)))))).mono ?_; rintro e w13 ⟨rfl, hB13⟩))
        | (go_at_call 16; go_must (refine (kex _ (some ⟨g1, 0, none⟩) A3 2 d3 (HH11.out.2.below (by (repeat (first | (with_reducible assumption) | (with_reducible exact Below.refl _ _) | (with_reducible refine bl_alloc ?_ _) | (with_reducible refine bl_drew ?_) | (with_reducible refine bl_drewN ?_ _) | (with_reducible refine bl_then (by assumption) ?_))))) (HJ11.out.2.below (by (repeat (first | (with_reducible assumption) | (with_reducible exact Below.refl _ _) | (with_reducible refine bl_alloc ?_ _) | (with_reducible refine bl_drew ?_) | (with_reducible refine bl_drewN ?_ _) | (with_reducible refine bl_then (by assumption) ?_)))))).mono ?_; rintro e w14 ⟨A14, c14, rfl, hr14, hB14⟩))
        | (go_at_call 15; go_must (refine (siex _ _ _ _ _ ?_ ?_).mono ?_; (focus (first | assumption | (refine rd_keep_alloc ?_ _; assumption))); (focus (first | exact reads2 (heap_alloc_new _ _) | exact (reads2 (heap_alloc_new _ _)).below (by assumption))); rintro e w15 ⟨rfl, hB15⟩))
        | (go_at_call 14; go_must (refine (sex _ A9 (some ⟨g1, 0, none⟩) c9 2 (HK11.out.2.below (by (repeat (first | (with_reducible assumption) | (with_reducible exact Below.refl _ _) | (with_reducible refine bl_alloc ?_ _) | (with_reducible refine bl_drew ?_) | (with_reducible refine bl_drewN ?_ _) | (with_reducible refine bl_then (by assumption) ?_))))) (HH11.out.2.below (by (repeat (first | (with_reducible assumption) | (with_reducible exact Below.refl _ _) | (with_reducible refine bl_alloc ?_ _) | (with_reducible refine bl_drew ?_) | (with_reducible refine bl_drewN ?_ _) | (with_reducible refine bl_then (by assumption) ?_)))))).mono ?_; rintro e w16 ⟨rfl, hB16⟩))
        | ((with_reducible show Calls _ _ #[Value.agg #[Value.int .i64 0, _, _]] _ _); go_at_call 20; go_must (refine (dex1 _ (HT.out.below (by (repeat (first | (with_reducible assumption) | (with_reducible exact Below.refl _ _) | (with_reducible refine bl_alloc ?_ _) | (with_reducible refine bl_drew ?_) | (with_reducible refine bl_drewN ?_ _) | (with_reducible refine bl_then (by assumption) ?_))))) (some ⟨g1, 0, none⟩) 2 (HH11.out.2.below (by (repeat (first | (with_reducible assumption) | (with_reducible exact Below.refl _ _) | (with_reducible refine bl_alloc ?_ _) | (with_reducible refine bl_drew ?_) | (with_reducible refine bl_drewN ?_ _) | (with_reducible refine bl_then (by assumption) ?_))))) D1 HD1.out).mono ?_; rintro e w17 ⟨rfl, hB17⟩))
        | ((with_reducible show Calls _ _ #[Value.agg #[Value.int .i64 1, _, _]] _ _); go_at_call 20; go_must (refine (dex2 _ (HT.out.below (by (repeat (first | (with_reducible assumption) | (with_reducible exact Below.refl _ _) | (with_reducible refine bl_alloc ?_ _) | (with_reducible refine bl_drew ?_) | (with_reducible refine bl_drewN ?_ _) | (with_reducible refine bl_then (by assumption) ?_))))) A3 d3 (HJ11.out.2.below (by (repeat (first | (with_reducible assumption) | (with_reducible exact Below.refl _ _) | (with_reducible refine bl_alloc ?_ _) | (with_reducible refine bl_drew ?_) | (with_reducible refine bl_drewN ?_ _) | (with_reducible refine bl_then (by assumption) ?_))))) D2 HD2.out).mono ?_; rintro e w18 ⟨rfl, hB18⟩)))
    all_goals
      have hb11 := HB11.out
      go_wp2_with fail
      go_ret
      refine ⟨rfl, ?_⟩
      (repeat (first | (with_reducible assumption) | (with_reducible exact Below.refl _ _) | (with_reducible refine bl_alloc ?_ _) | (with_reducible refine bl_drew ?_) | (with_reducible refine bl_drewN ?_ _) | (with_reducible refine bl_then (by assumption) ?_)))
end Go.Proofs.YtbgijijecipjeaaDoor
