/- Contracts of slices.Grow (of nil) and slices.Concat over byte slices. -/
import Derived.Test.YtbgijijecipjeaaDoorRefA
import Derived.Test.YtbgijijecipjeaaDoorRow
import Derived.Lib.AppendZeros
namespace Go.Proofs.YtbgijijecipjeaaDoor
open Go.RowKit Go.IntWalk Go.Lib Go.Proofs.YtbgijijecipjeaaDoorW.PrintWords

theorem madeW (w : World) (n cap : Nat) (base : Nat) (hb : base ≤ w.heap.size) (hm : cap ≤ maxLen) (hn : n ≤ cap) :
    (w.alloc (.cells (Builtin.zeroCells #[.int .u8 0] n ++ Builtin.zeroCells #[.int .u8 0] (cap - n)) 5)).ownsRow base 5 1 (.slice (some ⟨w.heap.size, 0, none⟩) 0 cap) 0 [] := by
  refine ⟨by simp, .inr ⟨w.heap.size, cap, _, rfl, hb, heap_alloc_new _ _, Nat.zero_le _, hm, ?_, by simp⟩⟩
  simp [Builtin.zeroCells]
  omega

set_option maxRecDepth 100000 in
set_option maxHeartbeats 800000 in
theorem grow_any (n : Nat) (w : World) (hn : n ≤ 140737488355328) :
    Calls Tryd.prog 51 #[.slice none 0 0, .int .i64 n] w fun e w' => ∃ v, e = .returned v ∧ w'.ownsRow w.heap.size 5 1 v 0 [] ∧ Below w.heap.size w w' := by
  rcases Nat.eq_zero_or_pos n with rfl | h0
  · go_enter Tryd.func51, Tryd.ntmps51
    go_wp2_with fail
    go_ret
    exact ⟨_, rfl, own_nil _ _ _ _, Below.refl _ _⟩
  · obtain ⟨i, hi, hz⟩ := Option.map_eq_some_iff.1 infoU8
    simp only [Prod.mk.injEq] at hz
    obtain ⟨hz0, hz1, hz2⟩ := hz
    have hr := Lib.hid (run_append_nil_zeros (P := Tryd.prog) w 56 3 56 5 i (.int .u8 0) .i64 .i64 Tryd.underlying56 Tryd.underlying3 hi hz0 n h0 (by omega) (by omega) (by rw [hz2]; omega))
    have hcap := grownCap_ge w n 0 5
    have hmax := grownCap_le_maxLen w n 0 5 (by simp only [maxLen]; omega)
    obtain ⟨cap, hcp⟩ : ∃ cap, cap = grownCap w n 0 5 := ⟨_, rfl⟩
    rw [← hcp] at hcap hmax
    have HO := Lib.hid (madeW w.drew n cap w.heap.size (Nat.le_refl _) hmax hcap)
    have d0 : decide ((n : Int) < 0) = false := decide_eq_false (by omega)
    have d1 : decide (0 < (n : Int)) = true := decide_eq_true (by omega)
    go_enter Tryd.func51, Tryd.ntmps51
    go_wp2_with (at_builtin; go_must (refine wpList_append_run w rfl (.tmp 20) (.tmp 21) 56 3 rfl _ _ rfl rfl _ _ hr.out ?_))
    rw [← hcp]
    go_ret
    exact ⟨_, rfl, HO.out, ((Below.refl _ _).alloc (Nat.le_refl _) _).drew⟩

/-- A slice of byte slices that is read. -/
def ReadsBB (w : World) (A : Option Addr) (n : Nat) (ps : List (List UInt8)) : Prop :=
  ps.length = n ∧ ∀ j x, ps[j]? = some x → ∃ ad A' c', A = some ad ∧ w.cell? (ad.add j) = some (.slice A' x.length c') ∧ ReadsInt w .u8 A' x.length (bi x)
theorem ReadsBB.below {w w1 : World} {A : Option Addr} {n : Nat} {ps : List (List UInt8)} (h : ReadsBB w A n ps) (hb : Below w.heap.size w w1) : ReadsBB w1 A n ps :=
  ⟨h.1, fun j x hx => by
    obtain ⟨ad, A', c', e, h1, h2⟩ := h.2 j x hx
    exact ⟨ad, A', c', e, pw_cell_below hb h1, h2.below hb⟩⟩
/-- How long parts are together. -/
def sumLen (ps : List (List UInt8)) : Nat := (ps.map List.length).sum
theorem sumLen_take (ps : List (List UInt8)) (i : Nat) : sumLen (ps.take i) ≤ sumLen ps := by
  induction ps generalizing i with
  | nil => simp [sumLen]
  | cons x ps ih => cases i with
    | zero => simp [sumLen]
    | succ i => have := ih i; simp [sumLen] at this ⊢; omega
theorem sumLen_snoc (ps : List (List UInt8)) (x : List UInt8) : sumLen (ps ++ [x]) = sumLen ps + x.length := by simp [sumLen]
theorem flatten_length (ps : List (List UInt8)) : ps.flatten.length = sumLen ps := by simp [sumLen, List.length_flatten]
theorem take_succ_some {α : Type} (l : List α) (i : Nat) (x : α) (h : l[i]? = some x) : l.take (i + 1) = l.take i ++ [x] := by
  rw [List.take_add_one, h]; rfl

set_option maxRecDepth 100000 in
set_option maxHeartbeats 800000 in
theorem concat_any (A : Option Addr) (c : Nat) (ps : List (List UInt8)) (w : World) (hr : ReadsBB w A ps.length ps) (hn : sumLen ps ≤ 70368744177664) (hpl : ps.length ≤ 1099511627776) :
    Calls Tryd.prog 32 #[.slice A ps.length c] w (RetB ps.flatten w) := by
  have HR := Lib.hid hr
  clear hr
  go_enter Tryd.func32, Tryd.ntmps32
  go_wp2_with fail
  go_loop [3, 11] (fun v3 v11 => ∃ i : Nat, i ≤ ps.length ∧ v11 = .int .i64 i ∧ v3 = .int .i64 (sumLen (ps.take i) : Nat)) (fun _ v11 => ps.length - (RowKit.intOf v11).toNat)
  case atStart => exact ⟨0, by omega, rfl, by simp [sumLen]⟩
  case round =>
    obtain ⟨i, hi, rfl, rfl⟩ := hrel
    have hs1 := sumLen_take ps i
    by_cases hlt : i < ps.length
    · have d1 : decide ((i : Int) < ps.length) = true := decide_eq_true (by omega)
      obtain ⟨x, hx⟩ : ∃ x, ps[i]? = some x := ⟨_, List.getElem?_eq_getElem hlt⟩
      obtain ⟨ad, A', c', rfl, hcell, hrd⟩ := HR.out.2 i x hx
      have hs2 := sumLen_take ps (i + 1)
      rw [take_succ_some ps i x hx, sumLen_snoc] at hs2
      have HSN : Hid (sumLen (ps.take (i + 1)) = sumLen (ps.take i) + x.length) := Lib.hid (by rw [take_succ_some ps i x hx, sumLen_snoc])
      have d2 : decide (((sumLen (ps.take i) : Nat) : Int) + x.length < 0) = false := decide_eq_false (by omega)
      clear hrd hx
      go_wp2_with fail
      go_round
      case rel => exact ⟨i + 1, by omega, by go_num, by rw [HSN.out]; go_num⟩
      case measure => simp [RowKit.intOf]; omega
    · have d1 : decide ((i : Int) < ps.length) = false := decide_eq_false (by omega)
      obtain rfl : i = ps.length := by omega
      rw [List.take_length] at hs1 ⊢
      go_wp2_with fail
      refine (grow_any (sumLen ps) w (by omega)).mono ?_
      rintro e w1 ⟨v, rfl, hown, hB⟩
      have HOWN := Lib.hid hown
      have HB := Lib.hid hB
      clear hown hB
      go_wp2_with fail
      go_loopw [6, 27] (fun v6 v27 wr => ∃ i : Nat, i ≤ ps.length ∧ v27 = .int .i64 i ∧ Below w.heap.size w wr ∧ wr.ownsRow w.heap.size 5 1 v6 (bi (ps.take i).flatten).length (nums .u8 (bi (ps.take i).flatten))) (fun _ v27 _ => ps.length - (RowKit.intOf v27).toNat)
      case atStart => exact ⟨0, by omega, rfl, HB.out, HOWN.out⟩
      case round =>
        obtain ⟨i, hi, rfl, hB, hown⟩ := hrel
        have hz := hB.size
        have hbl : (bi (ps.take i).flatten).length ≤ sumLen ps := by rw [bi_length, flatten_length]; exact sumLen_take ps i
        by_cases hlt : i < ps.length
        · have d1 : decide ((i : Int) < ps.length) = true := decide_eq_true (by omega)
          obtain ⟨x, hx⟩ : ∃ x, ps[i]? = some x := ⟨_, List.getElem?_eq_getElem hlt⟩
          obtain ⟨ad, A', c', rfl, hcell, hrd⟩ := (HR.out.below hB).2 i x hx
          have hbx : (bi (ps.take i).flatten).length + x.length ≤ sumLen ps := by
            rw [bi_length, flatten_length, ← sumLen_snoc, ← take_succ_some ps i x hx]; exact sumLen_take ps _
          have HTK : Hid (bi (ps.take (i + 1)).flatten = bi (ps.take i).flatten ++ bi x) := Lib.hid (by rw [take_succ_some ps i x hx, List.flatten_append, bi_append]; simp)
          have hxl : (bi x).length = x.length := bi_length x
          have HRD := Lib.hid hrd
          have HOWN2 := Lib.hid hown
          have HB2 := Lib.hid hB
          clear hx hrd hown hB HOWN
          go_wp2_with (at_builtin; go_must (refine print_append_row (w0 := w) w.heap.size rfl (.tmp 31) (.tmp 32) 56 5 .u8 1 rfl Tryd.underlying56 infoU8 (by decide) _ (bi (ps.take i).flatten) (bi x) A' _ c' rfl rfl HOWN2.out HRD.out HB2.out hz (by omega) ?_); intro v3 w3 hown3 hB4 hg3 hat3)
          rw [← HTK.out] at hown3
          go_roundw
          case rel => exact ⟨i + 1, by omega, by go_num, hB4, hown3⟩
          case measure => simp [RowKit.intOf]; omega
        · have d1 : decide ((i : Int) < ps.length) = false := decide_eq_false (by omega)
          obtain rfl : i = ps.length := by omega
          go_wp2_with fail
          go_ret
          refine ⟨_, rfl, ?_, hB⟩
          rw [List.take_length] at hown
          exact hown

theorem reads_cells {W : World} {k : IntKind} {a : Addr} {n : Nat} {xs : List Int} (h : ReadsInt W k (some a) n xs) : ∀ j v, (nums k xs)[j]? = some v → W.cell? (a.add j) = some v := by
  intro j u hu
  have hj : j < xs.length := by
    rcases Nat.lt_or_ge j xs.length with h | h
    · exact h
    · simp [nums, List.getElem?_eq_none h] at hu
  have hl := h.1
  obtain ⟨ad', h', hc⟩ := h.2.2 (by omega)
  injection h' with h'
  subst h'
  have := hc j (by omega)
  simp [nums, List.getElem?_eq_getElem hj] at hu
  subst hu
  rw [this]
  simp [List.getD_eq_getElem?_getD, List.getElem?_eq_getElem hj]

/-- An append of bytes to a slice that is full: a new row. -/
theorem app_full {P : Program} {o : Oper} {ops : Array Oper} {rest : List Oper} {a : Act} {Q : Exit → Act → World → Prop} {w0 W : World} (base : Nat) (hgd : o.guard = none) (s x : Operand) (t e : TypeId)
    (ho : o.op = .call { callee := .builtin .append, args := #[s, x], argTypes := #[t, t] }) (ht : P.underlying t = some (.slice e))
    (hinfo : (P.info? e).map (fun i => (i.zero, i.size, i.bytes)) = some (some (.int .u8 0), 1, 1))
    (A A2 : Option Addr) (n m c c2 : Nat) (xs ys : List Int) (hs : a.eval s = .slice A n c) (hx : a.eval x = .slice A2 m c2) (h0 : 0 < n) (hm : 0 < m) (hc : c < n + m) (hl : n + m ≤ 140737488355328)
    (HX : ReadsInt W .u8 A n xs) (HY : ReadsInt W .u8 A2 m ys) (HB : Below base w0 W) (hbase : base ≤ W.heap.size)
    (h : ∀ v1 w1, w1.ownsRow base e 1 v1 (xs ++ ys).length (nums .u8 (xs ++ ys)) → Below base w0 w1 → Below W.heap.size W w1 → wpList P ops Q rest (a.put o.dst v1) w1) :
    wpList P ops Q (o :: rest) a W := by
  obtain ⟨i, hi, hz⟩ := Option.map_eq_some_iff.1 hinfo
  simp only [Prod.mk.injEq] at hz
  obtain ⟨hz0, hz1, hz2⟩ := hz
  obtain ⟨ad, rfl, -⟩ := HX.2.2 h0
  obtain ⟨ad2, rfl, -⟩ := HY.2.2 hm
  have hxl := HX.1
  have hyl := HY.1
  have hr := run_append_grow (P := P) (w := W) t o.type e i (.int .u8 0) ht hi hz0 ad n c (nums .u8 xs) (by rw [nums_length, hz1]; omega) (reads_cells HX) ad2 m c2 (nums .u8 ys) (by rw [nums_length, hz1]; omega) (reads_cells HY) hc (by omega)
    (growslice_fits hc (by rw [hz2]; omega))
  refine wpList_append_run W hgd s x t t ho _ _ hs hx _ _ hr (h _ _ ?_ ((HB.drew).alloc hbase _) (((Below.refl _ _).drew).alloc (Nat.le_refl _) _))
  have hge := grownCap_ge W (n + m) c e
  have hmx := grownCap_le_maxLen W (n + m) c e (by simp only [maxLen]; omega)
  rw [show (xs ++ ys).length = n + m by simp; omega]
  refine ⟨by rw [nums_length]; simp; omega, .inr ⟨W.heap.size, grownCap W (n + m) c e, _, rfl, hbase, heap_alloc_new W.drew _, hge, hmx, ?_, ?_⟩⟩
  · have hcs : (Value.int IntKind.u8 0).cells.size = 1 := rfl
    simp [Builtin.zeroCells, nums_length, hcs]; omega
  · simp only [Array.toList_append, Nat.mul_one]
    rw [List.take_append_of_le_length (by simp [nums_length]; omega), List.take_of_length_le (by simp [nums_length]; omega), nums_append]
end Go.Proofs.YtbgijijecipjeaaDoor
