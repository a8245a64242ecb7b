/- Contract of custodylaw30.few. Contract of custodyref30.Valid. Contract of custodyref30.Kept. A drawn region walked by hand: what yields is taken first, a call that comes up alone is carried out, and the condition on the world grows behind it. Contract of custodyref30.Encode, Digest. Contract of custodyref30.Replace. -/
import Derived.Test.YtbgijijecipjeaaDoorIdx
import Derived.Test.YtbgijijecipjeaaDoorValid
import Derived.BigQuiet
import Derived.Test.YtbgijijecipjeaaDoorKept
import Derived.Test.YtbgijijecipjeaaDoorChecked
import Derived.Lib.Hide
import Derived.Deep.DeepMust
import Derived.Deep.RegionHeld3
import Derived.Test.YtbgijijecipjeaaDoorRHash
import Derived.Test.YtbgijijecipjeaaDoorEnc
import Derived.Test.YtbgijijecipjeaaDoorRepl
import Derived.Deep.Upon
namespace Go.Proofs.YtbgijijecipjeaaDoor
open Go.RowKit Go.IntWalk Go.Proofs.YtbgijijecipjeaaDoorW.PrintWords

/-- Few enough and short enough. -/
def fewB (ms : List Mem) : Bool := ms.all (fun m => decide (m.name.size ≤ 50)) && decide (ms.length ≤ 20)

theorem few_len {ms : List Mem} (h : fewB ms = true) : ms.length ≤ 20 := by
  unfold fewB at h; rw [Bool.and_eq_true] at h; exact of_decide_eq_true h.2
set_option maxRecDepth 100000 in
set_option maxHeartbeats 4000000 in
theorem few_any (ep need : Int) (A : Option Addr) (c : Nat) (ms : List Mem) (w : World) (hr : ReadsMem w A ms.length ms) (hs : ∀ x ∈ ms, x.name.size ≤ maxLen) (hn : ms.length ≤ 9223372036854775807) :
    Calls Tryd.prog 8 #[cusV ep need A ms.length c] w fun e w' => e = .returned (.bool (fewB ms)) ∧ Below w.heap.size w w' := by
  have HR := Lib.hid hr
  have HS := Lib.hid hs
  clear hr hs
  unfold cusV
  go_enter Tryd.func8, Tryd.ntmps8
  go_wp2_with fail
  obtain ⟨w0, hw0⟩ : ∃ w0, w0 = w.alloc (Obj.cells #[Value.int IntKind.i64 ep, Value.int IntKind.i64 need, Value.slice A ms.length c] 24) := ⟨_, rfl⟩
  have hg0 : w0.heap[w.heap.size]? = some (.cells #[Value.int IntKind.i64 ep, Value.int IntKind.i64 need, Value.slice A ms.length c] 24 (0, 0)) := by rw [hw0]; exact heap_alloc_new _ _
  have hB0 : Below w.heap.size w w0 := by rw [hw0]; exact (Below.refl _ _).alloc (Nat.le_refl _) _
  have hz0 : w0.heap.size = w.heap.size + 1 := by rw [hw0, szA]
  rw [← hw0]
  clear hw0
  go_loopw [3] (fun v3 wr => ∃ i : Nat, i ≤ ms.length ∧ v3 = .int .i64 i ∧ (∀ m ∈ ms.take i, m.name.size ≤ 50) ∧ Below w0.heap.size w0 wr) (fun v3 _ => ms.length - (RowKit.intOf v3).toNat)
  case atStart => exact ⟨0, by omega, rfl, by simp, Below.refl _ _⟩
  case round =>
    obtain ⟨i, hi, rfl, hok, hB⟩ := hrel
    have hbx := (hB.block _ (show w.heap.size < w0.heap.size by omega)).trans hg0
    have hx2 : wr.cell? ⟨w.heap.size, 2, none⟩ = some (.slice A ms.length c) := by rw [cell_of_row _ _ _ _ _ _ hbx]; rfl
    have HOK := Lib.hid hok
    have HB := Lib.hid hB
    by_cases hlt : i < ms.length
    · have d1 : decide ((i : Int) < ms.length) = true := decide_eq_true (by omega)
      obtain ⟨m, hm⟩ : ∃ m, ms[i]? = some m := ⟨_, List.getElem?_eq_getElem hlt⟩
      obtain ⟨hp16, ad, rfl, hcell⟩ := (HR.out.below (hB0.trans (hB.mono (by omega)))).2 i m hm
      have hc0 : wr.cell? (ad.add (i * 18)) = some (.string m.name) := hcell 0 _ rfl
      have hmem := List.mem_of_getElem? hm
      have HTK := Lib.hid (take_succ_some ms i m hm)
      have i0 : (0 : Int) ≤ (i : Int) := by omega
      have i1 : (i : Int) < (ms.length : Int) := by omega
      clear hok hB hcell hm hbx
      by_cases h50 : m.name.size ≤ 50
      · have d2 : ¬ (50 < (m.name.size : Int)) := by omega
        go_wp2_with fail
        go_roundw
        case rel => exact ⟨i + 1, by omega, by go_num, by
          rw [HTK.out]; intro x hx
          rcases List.mem_append.1 hx with hx | hx
          · exact HOK.out x hx
          · rw [List.mem_singleton.1 hx]; exact h50, HB.out⟩
        case measure => simp [RowKit.intOf]; omega
      · have d2 : 50 < (m.name.size : Int) := by omega
        have hf : fewB ms = false := by
          unfold fewB
          rw [Bool.and_eq_false_iff]; left
          rw [List.all_eq_false]
          exact ⟨m, hmem, by simpa using h50⟩
        have HF := Lib.hid hf
        clear hf
        go_wp2_with fail
        go_ret
        exact ⟨by rw [HF.out]; rfl, hB0.trans (HB.out.mono (by omega))⟩
    · have d1 : decide ((i : Int) < ms.length) = false := decide_eq_false (by omega)
      obtain rfl : i = ms.length := by omega
      have hall : ms.all (fun m => decide (m.name.size ≤ 50)) = true := by
        rw [List.all_eq_true]; intro x hx
        rw [List.take_length] at hok
        exact decide_eq_true (hok x hx)
      have hf : fewB ms = decide ((ms.length : Int) ≤ 20) := by
        unfold fewB; rw [hall, Bool.true_and]
        by_cases h : ms.length ≤ 20
        · rw [decide_eq_true h, decide_eq_true (by omega)]
        · rw [decide_eq_false h, decide_eq_false (by omega)]
      have HF := Lib.hid hf
      clear hf hall hok
      go_wp2_with fail
      go_ret
      exact ⟨by rw [HF.out]; rfl, hB0.trans (HB.out.mono (by omega))⟩
end Go.Proofs.YtbgijijecipjeaaDoor
namespace Go.Proofs.YtbgijijecipjeaaDoor
open Go.RowKit Go.IntWalk Go.Proofs.YtbgijijecipjeaaDoorW.PrintWords

/-- A member unlike all of a list. -/
def apart (m : Mem) (l : List Mem) : Prop := ∀ x ∈ l, x.name ≠ m.name ∧ x.pub ≠ m.pub
/-- What is known of the first members. -/
def goodL (l : List Mem) : Prop := (∀ x ∈ l, memOk x) ∧ (nameK l).Nodup ∧ (pubK l).Nodup
theorem bytes_ext {a b : ByteArray} (h : a.data.toList = b.data.toList) : a = b := by
  cases a; cases b; congr 1; exact Array.toList_inj.1 h
theorem goodL_snoc {l : List Mem} {m : Mem} (hl : ∀ x ∈ l, x.pub.length = 16) (hp : m.pub.length = 16) : goodL (l ++ [m]) ↔ goodL l ∧ memOk m ∧ apart m l := by
  unfold goodL apart nameK pubK
  simp only [List.map_append, List.map_cons, List.map_nil, List.nodup_append, List.mem_append, List.mem_singleton, List.mem_map, List.nodup_cons, List.not_mem_nil, not_false_eq_true, List.nodup_nil, and_true, true_and]
  constructor
  · rintro ⟨h1, ⟨h2, h3⟩, h4, h5⟩
    refine ⟨⟨fun x hx => h1 x (Or.inl hx), h2, h4⟩, h1 m (Or.inr rfl), fun x hx => ⟨fun e => ?_, fun e => ?_⟩⟩
    · exact h3 _ ⟨x, hx, rfl⟩ _ rfl (by rw [e])
    · exact h5 _ ⟨x, hx, rfl⟩ _ rfl (by rw [e])
  · rintro ⟨⟨h1, h2, h4⟩, hm, ha⟩
    refine ⟨fun x hx => ?_, ⟨h2, ?_⟩, h4, ?_⟩
    · rcases hx with hx | rfl
      · exact h1 x hx
      · exact hm
    · rintro _ ⟨x, hx, rfl⟩ _ rfl e
      exact (ha x hx).1 (bytes_ext e)
    · rintro _ ⟨x, hx, rfl⟩ _ rfl e
      exact (ha x hx).2 (pubKey_inj _ _ (hl x hx) hp e)
theorem validP_good (ep need : Int) (ms : List Mem) : validP ep need ms ↔ goodL ms ∧ 1 ≤ need ∧ need ≤ (ms.length : Int) ∧ ms.length ≤ 16 ∧ 0 ≤ ep ∧ ep ≤ 2147483646 := by
  unfold validP goodL; constructor
  · rintro ⟨a, b, c, d⟩; exact ⟨⟨a, b, c⟩, d⟩
  · rintro ⟨⟨a, b, c⟩, d⟩; exact ⟨a, b, c, d⟩
theorem goodL_take {l : List Mem} (h : goodL l) (i : Nat) : goodL (l.take i) :=
  ⟨fun x hx => h.1 x (List.mem_of_mem_take hx), by unfold nameK; rw [List.map_take]; exact h.2.1.sublist (List.take_sublist ..), by unfold pubK; rw [List.map_take]; exact h.2.2.sublist (List.take_sublist ..)⟩

theorem ba_beq (a : ByteArray) : (a == a) = true := by
  show (a.data == a.data) = true
  exact beq_self_eq_true _
theorem ba_bne {a b : ByteArray} (h : ¬ a = b) : (a == b) = false := by
  show (a.data == b.data) = false
  exact beq_eq_false_iff_ne.2 (fun e => h (by cases a; cases b; simp_all))
theorem rng_keep_bV {W w1 : World} (hb : Below W.heap.size W w1) {b o : Nat} {cs : List Value} (h : W.rangeAt b o cs) : w1.rangeAt b o cs := range_below hb h
set_option maxRecDepth 100000 in
set_option maxHeartbeats 8000000 in
theorem rvalid_any (ep need : Int) (A : Option Addr) (c : Nat) (ms : List Mem) (w : World) (hr : ReadsMem w A ms.length ms) (h3 : ∀ x ∈ ms, x.name.size ≤ maxLen ∧ in64 x.ht) (hn : ms.length ≤ 1099511627776) :
    Calls Tryd.prog 13 #[cusV ep need A ms.length c] w fun e w' => e = .returned (.bool (validB ep need ms)) ∧ Below w.heap.size w w' := by
  have HR := Lib.hid hr
  have H3 := Lib.hid h3
  clear hr h3
  unfold cusV
  go_enter Tryd.func13, Tryd.ntmps13
  go_upto_region 2 with fail
  obtain ⟨w0, hw0⟩ : ∃ w0, w0 = w.alloc (Obj.cells #[Value.int IntKind.i64 ep, Value.int IntKind.i64 need, Value.slice A ms.length c] 24) := ⟨_, rfl⟩
  have hg0 : w0.heap[w.heap.size]? = some (.cells #[Value.int IntKind.i64 ep, Value.int IntKind.i64 need, Value.slice A ms.length c] 24 (0, 0)) := by rw [hw0]; exact heap_alloc_new _ _
  have hB0 : Below w.heap.size w w0 := by rw [hw0]; exact (Below.refl _ _).alloc (Nat.le_refl _) _
  have hz0 : w0.heap.size = w.heap.size + 1 := by rw [hw0, szA]
  rw [← hw0]
  clear hw0
  obtain ⟨p, hp⟩ : ∃ p, p = w.heap.size := ⟨_, rfl⟩
  rw [← hp] at hg0 ⊢
  have x0 : w0.cell? ⟨p, 0, none⟩ = some (.int .i64 ep) := by rw [cell_of_row _ _ _ _ _ _ hg0]; rfl
  have x1 : w0.cell? ⟨p, 1, none⟩ = some (.int .i64 need) := by rw [cell_of_row _ _ _ _ _ _ hg0]; rfl
  have x2 : w0.cell? ⟨p, 2, none⟩ = some (.slice A ms.length c) := by rw [cell_of_row _ _ _ _ _ _ hg0]; rfl
  have HP := Lib.hid hp
  have HB0 := Lib.hid hB0
  clear hp hB0 hg0
  have hno : ∀ h : ¬ validP ep need ms, validB ep need ms = false := fun h => validB_false h
  have hall : ((ms.length : Int) < 1 ∧ validB ep need ms = false) ∨ (¬ (ms.length : Int) < 1 ∧ 16 < (ms.length : Int) ∧ validB ep need ms = false) ∨ (¬ (ms.length : Int) < 1 ∧ ¬ 16 < (ms.length : Int) ∧ need < 1 ∧ validB ep need ms = false) ∨
      (¬ (ms.length : Int) < 1 ∧ ¬ 16 < (ms.length : Int) ∧ ¬ need < 1 ∧ (ms.length : Int) < need ∧ validB ep need ms = false) ∨ (¬ (ms.length : Int) < 1 ∧ ¬ 16 < (ms.length : Int) ∧ ¬ need < 1 ∧ ¬ (ms.length : Int) < need ∧ ep < 0 ∧ validB ep need ms = false) ∨
      (¬ (ms.length : Int) < 1 ∧ ¬ 16 < (ms.length : Int) ∧ ¬ need < 1 ∧ ¬ (ms.length : Int) < need ∧ ¬ ep < 0 ∧ 2147483646 < ep ∧ validB ep need ms = false) ∨
      (¬ (ms.length : Int) < 1 ∧ ¬ 16 < (ms.length : Int) ∧ ¬ need < 1 ∧ ¬ (ms.length : Int) < need ∧ ¬ ep < 0 ∧ ¬ 2147483646 < ep) := by
    have hv : ∀ P : Prop, P → (P → ¬ validP ep need ms) → validB ep need ms = false := fun P h f => hno (f h)
    by_cases a1 : (ms.length : Int) < 1
    · exact Or.inl ⟨a1, hno fun h => by have := h.2.2.2.1; have := h.2.2.2.2.1; omega⟩
    by_cases a2 : 16 < (ms.length : Int)
    · exact Or.inr (Or.inl ⟨a1, a2, hno fun h => by have := h.2.2.2.2.2.1; omega⟩)
    by_cases a3 : need < 1
    · exact Or.inr (Or.inr (Or.inl ⟨a1, a2, a3, hno fun h => by have := h.2.2.2.1; omega⟩))
    by_cases a4 : (ms.length : Int) < need
    · exact Or.inr (Or.inr (Or.inr (Or.inl ⟨a1, a2, a3, a4, hno fun h => by have := h.2.2.2.2.1; omega⟩)))
    by_cases a5 : ep < 0
    · exact Or.inr (Or.inr (Or.inr (Or.inr (Or.inl ⟨a1, a2, a3, a4, a5, hno fun h => by have := h.2.2.2.2.2.2.1; omega⟩))))
    by_cases a6 : 2147483646 < ep
    · exact Or.inr (Or.inr (Or.inr (Or.inr (Or.inr (Or.inl ⟨a1, a2, a3, a4, a5, a6, hno fun h => by have := h.2.2.2.2.2.2.2; omega⟩)))))
    · exact Or.inr (Or.inr (Or.inr (Or.inr (Or.inr (Or.inr ⟨a1, a2, a3, a4, a5, a6⟩)))))
  clear hno
  rcases hall with ⟨a1, hb⟩ | ⟨a1, a2, hb⟩ | ⟨a1, a2, a3, hb⟩ | ⟨a1, a2, a3, a4, hb⟩ | ⟨a1, a2, a3, a4, a5, hb⟩ | ⟨a1, a2, a3, a4, a5, a6, hb⟩ | ⟨a1, a2, a3, a4, a5, a6⟩
  case inr.inr.inr.inr.inr.inr =>
    have HA := Lib.hid (And.intro a1 (And.intro a2 (And.intro a3 (And.intro a4 (And.intro a5 a6)))))
    go_wp2_with fail
    clear a1 a2 a3 a4 a5 a6
    have HG0 := Lib.hid (goodL_take (l := []) ⟨by simp, by simp [nameK], by simp [pubK]⟩ 0)
    go_loopw [4] (fun v4 wr => ∃ i : Nat, i ≤ ms.length ∧ v4 = .int .i64 i ∧ goodL (ms.take i) ∧ Below w0.heap.size w0 wr) (fun v4 _ => ms.length - (RowKit.intOf v4).toNat)
    case atStart => exact ⟨0, by omega, rfl, by simpa using HG0.out, Below.refl _ _⟩
    case round =>
      obtain ⟨i, hi, rfl, hgood, hB⟩ := hrel
      have X2 := cell_keep_b hB x2
      have HGD := Lib.hid hgood
      clear hgood
      by_cases hlt : i < ms.length
      · have d1 : decide ((i : Int) < ms.length) = true := decide_eq_true (by omega)
        obtain ⟨m, hm⟩ : ∃ m, ms[i]? = some m := ⟨_, List.getElem?_eq_getElem hlt⟩
        obtain ⟨hp16, ad, rfl, hcell⟩ := (HR.out.below (HB0.out.trans (hB.mono (by omega)))).2 i m hm
        have hcl : ∀ k v, (memRow m)[k]? = some v → wr.cell? ((ad.add (i * 18)).add k) = some v := fun k v hv => by rw [← add_add']; exact hcell k v hv
        have hml18 := memRow_length m hp16
        have h47 : (Tryd.prog.info? 47).map (·.size) = some (memRow m).length := by rw [hml18]; kernel_rfl
        have hmo := H3.out m (List.mem_of_getElem? hm)
        have HM := Lib.hid hm
        have HCL := Lib.hid hcl
        have HB := Lib.hid hB
        have hbz := hB.size
        have i0 : (0 : Int) ≤ (i : Int) := by omega
        have i1 : (i : Int) < (ms.length : Int) := by omega
        clear hcl hcell hm hB
        go_upto_region 8 with (first
          | ((with_reducible show wpList _ _ _ (⟨some 46, _, _, _, _, _⟩ :: _) _ _); go_must (refine wpList_load_at rfl 47 (.tmp 45) rfl (ad.add (i * 18)) rfl (memRow m) _ HCL.out Tryd.underlying47 rfl h47 ?_))
          | ((with_reducible show wpList _ _ _ (⟨none, .store 47 _ _, _, _, _, _⟩ :: _) _ _); go_must (refine wpList_store_row rfl 47 (.tmp 5) (.tmp 46) rfl wr.heap.size _ rfl rfl 47 _ (heap_alloc_new _ _) (by rw [List.size_toArray]; exact h47) (by rw [List.size_toArray, List.size_toArray, hml18]; rfl) (memRow_one m) ?_)))
        rw [setRow_alloc_new']
        simp only [Act.put]
        obtain ⟨w2, hw2⟩ : ∃ w2, w2 = wr.alloc (.cells (memRow m).toArray 47) := ⟨_, rfl⟩
        have hg2 : w2.heap[wr.heap.size]? = some (.cells (memRow m).toArray 47 (0, 0)) := by rw [hw2]; exact heap_alloc_new _ _
        have hBr : Below wr.heap.size wr w2 := by rw [hw2]; exact (Below.refl _ _).alloc (Nat.le_refl _) _
        rw [← hw2]
        clear hw2
        obtain ⟨q, hq⟩ : ∃ q, q = wr.heap.size := ⟨_, rfl⟩
        rw [← hq] at hg2 ⊢
        have HB2 := Lib.hid (HB.out.trans (hBr.mono hbz))
        have y2 := cell_keep_b hBr X2
        clear hq hBr X2
        have hc0 : w2.cell? ⟨q, 0, none⟩ = some (.string m.name) := by rw [cell_of_row _ _ _ _ _ _ hg2]; rfl
        have hc17 : w2.cell? ⟨q, 17, none⟩ = some (.int .i64 m.ht) := by
          rw [cell_of_row _ _ _ _ _ _ hg2, List.getElem?_toArray, memRow, List.getElem?_cons_succ, List.getElem?_append_right (by rw [Lib.byteCells_length, hp16]; decide), Lib.byteCells_length, hp16]; rfl
        have hrp : w2.rangeAt q 1 (Lib.byteCells m.pub) := by
          intro j v hv
          have hj : j < 16 := by have := (List.getElem?_eq_some_iff.1 hv).1; rw [Lib.byteCells_length, hp16] at this; exact this
          rw [cell_of_row _ _ _ _ _ _ hg2, List.getElem?_toArray, memRow, Nat.add_comm 1 j, List.getElem?_cons_succ, List.getElem?_append_left (by rw [Lib.byteCells_length, hp16]; exact hj)]
          exact hv
        have HRP := Lib.hid hrp
        clear hrp hg2
        have hnot : ¬ (memOk m ∧ apart m (ms.take i)) → validB ep need ms = false := fun h => validB_false fun hv => by
          have hg := goodL_take ((validP_good ep need ms).1 hv).1 (i + 1)
          rw [take_succ_some ms i m HM.out] at hg
          have hl : ∀ x ∈ ms.take i, x.pub.length = 16 := fun x hx => by
            obtain ⟨j, hj⟩ := List.getElem?_of_mem (List.mem_of_mem_take hx)
            exact (HR.out.2 j x hj).1
          exact h ((goodL_snoc hl hp16).1 hg).2
        have HNOT := Lib.hid hnot
        clear hnot
        by_cases hmk : memOk m
        · obtain ⟨k1, k2, k3, k4⟩ := hmk
          have t1 : ¬ (m.name.size : Int) < 1 := by omega
          have t2 : ¬ 12 < (m.name.size : Int) := by omega
          have t3 : ¬ m.ht < 0 := by omega
          have t4 : ¬ 6 < m.ht := by omega
          have HMK := Lib.hid (show memOk m from ⟨k1, k2, k3, k4⟩)
          clear k1 k2 k3 k4
          go_wp2_with fail
          clear t1 t2 t3 t4
          go_loopw [6] (fun v6 wx => ∃ k : Nat, k ≤ i ∧ v6 = .int .i64 k ∧ apart m (ms.take k) ∧ Below w2.heap.size w2 wx) (fun v6 _ => i - (RowKit.intOf v6).toNat)
          case atStart => exact ⟨0, by omega, rfl, by intro x hx; simp at hx, Below.refl _ _⟩
          case round =>
            obtain ⟨k, hk, rfl, hap, hBx⟩ := hrel
            have Y2 := cell_keep_b hBx y2
            have C0 := cell_keep_b hBx hc0
            have RP := rng_keep_bV hBx HRP.out
            have HBX := Lib.hid hBx
            have HAP := Lib.hid hap
            clear hap
            by_cases hki : k < i
            · have dk : decide ((k : Int) < (i : Int)) = true := decide_eq_true (by omega)
              obtain ⟨x, hx⟩ : ∃ x, ms[k]? = some x := ⟨_, List.getElem?_eq_getElem (by omega)⟩
              have HTK := Lib.hid (take_succ_some ms k x hx)
              have hmx : x ∈ ms.take i := by
                have : (ms.take i)[k]? = some x := by rw [List.getElem?_take, if_pos hki]; exact hx
                exact List.mem_of_getElem? this
              have hBw : Below w.heap.size w wr := HB0.out.trans ((HB2.out.trans (hBx.mono HB2.out.size)).mono (by omega))
              obtain ⟨hx16, ad', had, hxc⟩ := (HR.out.below hBw).2 k x hx
              obtain rfl : ad = ad' := Option.some.inj had
              have n0 : wr.cell? (ad.add (k * 18)) = some (.string x.name) := hxc 0 _ rfl
              have l1 : ∀ n, (loadRow 36 (.pointer (some ⟨(ad.add (k * 18)).block, (ad.add (k * 18)).off + 1, none⟩))).run Tryd.prog (wr.drewN n) = .ok (.agg (Lib.byteCells x.pub).toArray) (wr.drewN n) := fun n =>
                run_load_at (wr.drewN n) 36 ⟨(ad.add (k * 18)).block, (ad.add (k * 18)).off + 1, none⟩ (Lib.byteCells x.pub) _ (fun j v hv => by
                  show wr.cell? (((ad.add (k * 18)).add 1).add j) = some v
                  rw [← add_add', ← add_add']
                  have hj : j < 16 := by have := (List.getElem?_eq_some_iff.1 hv).1; rw [Lib.byteCells_length, hx16] at this; exact this
                  have := hxc (1 + j) v (by rw [memRow, Nat.add_comm 1 j, List.getElem?_cons_succ, List.getElem?_append_left (by rw [Lib.byteCells_length, hx16]; exact hj)]; exact hv)
                  exact this) Tryd.underlying36 rfl (by rw [Lib.byteCells_length, hx16]; kernel_rfl)
              have l2 : ∀ n, (loadRow 36 (.pointer (some ⟨q, 1, none⟩))).run Tryd.prog (wr.drewN n) = .ok (.agg (Lib.byteCells m.pub).toArray) (wr.drewN n) := fun n => run_loadAt_mid (wr.drewN n) q 1 _ _ _ RP Tryd.underlying36 rfl (by rw [Lib.byteCells_length, hp16]; kernel_rfl)
              have l3 : (loadRow 36 (.pointer (some ⟨(ad.add (k * 18)).block, (ad.add (k * 18)).off + 1, none⟩))).run Tryd.prog wr.drew = .ok (.agg (Lib.byteCells x.pub).toArray) wr.drew := l1 1
              have l4 : (loadRow 36 (.pointer (some ⟨q, 1, none⟩))).run Tryd.prog wr.drew = .ok (.agg (Lib.byteCells m.pub).toArray) wr.drew := l2 1
              have j0 : (0 : Int) ≤ (k : Int) := by omega
              have j1 : (k : Int) < (ms.length : Int) := by omega
              clear hxc hx hBx had hBw
              go_upto_region 13 with fail
              by_cases hnm : x.name = m.name
              · have e1 : (x.name.toList == m.name.toList) = true := by rw [hnm]; exact beq_self_eq_true _
                have HBAD := Lib.hid (HNOT.out fun h => (h.2 x hmx).1 hnm)
                have HBW := Lib.hid (HB0.out.trans ((HB2.out.trans (HBX.out.mono HB2.out.size)).mono (by omega)))
                clear hnm l1 l2
                go_quiet (fail)
                go_wp2_with fail
                go_ret
                exact ⟨by rw [HBAD.out]; rfl, by have hq := HBW.out; (repeat (first | (with_reducible assumption) | (with_reducible exact Below.refl _ _) | (with_reducible refine bl_alloc ?_ _) | (with_reducible refine bl_drew ?_) | (with_reducible refine bl_drewN ?_ _) | (with_reducible refine bl_then (by assumption) ?_)))⟩
              · have e1 : (x.name.toList == m.name.toList) = false := by rw [← beq_toListBytes]; exact ba_bne hnm
                by_cases hpb : x.pub = m.pub
                · have heq : ∀ W, (Op.equalIn 10000 36 (.agg (Lib.byteCells x.pub).toArray) (.agg (Lib.byteCells m.pub).toArray)).run Tryd.prog W = .ok true W := fun W => by
                    rw [eq_dig x.pub m.pub W hx16 hp16, decide_eq_true hpb]
                  have HBAD := Lib.hid (HNOT.out fun h => (h.2 x hmx).2 hpb)
                  have HBW := Lib.hid (HB0.out.trans ((HB2.out.trans (HBX.out.mono HB2.out.size)).mono (by omega)))
                  clear hnm hpb
                  go_quiet (fail)
                  go_wp2_with fail
                  go_ret
                  exact ⟨by rw [HBAD.out]; rfl, by have hq := HBW.out; (repeat (first | (with_reducible assumption) | (with_reducible exact Below.refl _ _) | (with_reducible refine bl_alloc ?_ _) | (with_reducible refine bl_drew ?_) | (with_reducible refine bl_drewN ?_ _) | (with_reducible refine bl_then (by assumption) ?_)))⟩
                · have heq : ∀ W, (Op.equalIn 10000 36 (.agg (Lib.byteCells x.pub).toArray) (.agg (Lib.byteCells m.pub).toArray)).run Tryd.prog W = .ok false W := fun W => by
                    rw [eq_dig x.pub m.pub W hx16 hp16, decide_eq_false hpb]
                  have hap2 : apart m (ms.take (k + 1)) := by
                    rw [HTK.out]; intro y hy
                    rcases List.mem_append.1 hy with hy | hy
                    · exact HAP.out y hy
                    · rw [List.mem_singleton.1 hy]; exact ⟨hnm, hpb⟩
                  have HAP2 := Lib.hid hap2
                  clear hnm hpb hap2
                  go_quiet (fail)
                  go_wp2_with fail
                  go_roundw
                  case rel => exact ⟨k + 1, by omega, by go_num, HAP2.out, by have hq := HBX.out; (repeat (first | (with_reducible assumption) | (with_reducible exact Below.refl _ _) | (with_reducible refine bl_alloc ?_ _) | (with_reducible refine bl_drew ?_) | (with_reducible refine bl_drewN ?_ _) | (with_reducible refine bl_then (by assumption) ?_)))⟩
                  case measure => simp [RowKit.intOf]; omega
            · have dk : decide ((k : Int) < (i : Int)) = false := decide_eq_false (by omega)
              obtain rfl : k = i := by omega
              have hgood : goodL (ms.take (k + 1)) := by
                rw [take_succ_some ms k m HM.out]
                have hl : ∀ x ∈ ms.take k, x.pub.length = 16 := fun x hx => by
                  obtain ⟨j, hj⟩ := List.getElem?_of_mem (List.mem_of_mem_take hx)
                  exact (HR.out.2 j x hj).1
                exact (goodL_snoc hl hp16).2 ⟨HGD.out, HMK.out, HAP.out⟩
              have HG := Lib.hid hgood
              have HBN := Lib.hid (HB2.out.trans (hBx.mono HB2.out.size))
              clear hgood hBx
              go_wp2_with fail
              go_roundw
              case rel => exact ⟨k + 1, by omega, by go_num, HG.out, HBN.out⟩
              case measure => simp [RowKit.intOf]; omega
        · have hbad := HNOT.out fun h => hmk h.1
          have HBAD := Lib.hid hbad
          clear hbad
          have HBB := Lib.hid (HB0.out.trans (HB2.out.mono (by omega)))
          rcases memNot hmk with t1 | ⟨t1, t2⟩ | ⟨t1, t2, t3⟩ | ⟨t1, t2, t3, t4⟩
          all_goals
            go_wp2_with fail
            go_ret
            exact ⟨by rw [HBAD.out]; rfl, HBB.out⟩
      · have d1 : decide ((i : Int) < ms.length) = false := decide_eq_false (by omega)
        obtain rfl : i = ms.length := by omega
        rw [List.take_length] at HGD
        have hv : validB ep need ms = true := validB_true ((validP_good ep need ms).2 ⟨HGD.out, by have := HA.out; omega⟩)
        have HV := Lib.hid hv
        clear hv
        go_wp2_with fail
        go_ret
        exact ⟨by rw [HV.out]; rfl, HB0.out.trans (hB.mono (by omega))⟩
  all_goals
    have HBAD := Lib.hid hb
    clear hb
    go_wp2_with fail
    go_ret
    exact ⟨by rw [HBAD.out]; rfl, HB0.out⟩
end Go.Proofs.YtbgijijecipjeaaDoor
namespace Go.Proofs.YtbgijijecipjeaaDoor
open Go.RowKit Go.IntWalk Go.Proofs.YtbgijijecipjeaaDoorW.PrintWords

set_option maxRecDepth 100000 in
set_option maxHeartbeats 8000000 in
theorem rkept_any (ep need ep' need' : Int) (A B : Option Addr) (c d : Nat) (ms ds : List Mem) (w : World) (hr : ReadsMem w A ms.length ms) (hr' : ReadsMem w B ds.length ds) (h1 : okMems ms) (h2 : okMems ds) (hn : ms.length ≤ 1099511627776) (hm : ds.length ≤ 1099511627776) :
    Calls Tryd.prog 17 #[cusV ep need A ms.length c, cusV ep' need' B ds.length d] w fun e w' => ∃ v, e = .returned v ∧ w'.ownsRow w.heap.size 3 1 v (keptL ms ds).length (nums .i64 (keptL ms ds)) ∧ Below w.heap.size w w' := by
  have HR := Lib.hid hr
  have HR' := Lib.hid hr'
  have H1 := Lib.hid h1
  have H2 := Lib.hid h2
  clear hr hr' h1 h2
  unfold cusV
  go_enter Tryd.func17, Tryd.ntmps17
  go_wp2_with fail
  obtain ⟨w0, hw0⟩ : ∃ w0, w0 = (w.alloc (Obj.cells #[Value.int IntKind.i64 ep, Value.int IntKind.i64 need, Value.slice A ms.length c] 24)).alloc (Obj.cells #[Value.int IntKind.i64 ep', Value.int IntKind.i64 need', Value.slice B ds.length d] 24) := ⟨_, rfl⟩
  have hg0 : w0.heap[w.heap.size]? = some (.cells #[Value.int IntKind.i64 ep, Value.int IntKind.i64 need, Value.slice A ms.length c] 24 (0, 0)) := by rw [hw0]; exact hp_alloc (heap_alloc_new _ _) _
  have hg1 : w0.heap[w.heap.size + 1]? = some (.cells #[Value.int IntKind.i64 ep', Value.int IntKind.i64 need', Value.slice B ds.length d] 24 (0, 0)) := by rw [hw0]; exact heap_alloc2_new _ _ _
  have hB0 : Below w.heap.size w w0 := by rw [hw0]; (repeat (first | (with_reducible assumption) | (with_reducible exact Below.refl _ _) | (with_reducible refine bl_alloc ?_ _) | (with_reducible refine bl_drew ?_) | (with_reducible refine bl_drewN ?_ _) | (with_reducible refine bl_then (by assumption) ?_)))
  have hz0 : w0.heap.size = w.heap.size + 1 + 1 := by rw [hw0, szA, szA]
  have x2 : w0.cell? ⟨w.heap.size, 2, none⟩ = some (.slice A ms.length c) := by rw [cell_of_row _ _ _ _ _ _ hg0]; rfl
  have y2 : w0.cell? ⟨w.heap.size + 1, 2, none⟩ = some (.slice B ds.length d) := by rw [cell_of_row _ _ _ _ _ _ hg1]; rfl
  rw [← hw0]
  clear hw0 hg0 hg1
  have HN0 := Lib.hid (own_nil w0 w0.heap.size 3 1)
  go_loopw [5, 6] (fun v5 v6 wr => ∃ i : Nat, i ≤ ms.length ∧ v6 = .int .i64 i ∧ Below w0.heap.size w0 wr ∧ wr.ownsRow w0.heap.size 3 1 v5 (keptL (ms.take i) ds).length (nums .i64 (keptL (ms.take i) ds))) (fun _ v6 _ => ms.length - (RowKit.intOf v6).toNat)
  case atStart => exact ⟨0, by omega, rfl, Below.refl _ _, HN0.out⟩
  case round =>
    obtain ⟨i, hi, rfl, hB, hown⟩ := hrel
    have hz := hB.size
    have hkl : (keptL (ms.take i) ds).length = i := by simp [keptL]; omega
    have X2 := cell_keep_b hB x2
    have Y2 := cell_keep_b hB y2
    by_cases hlt : i < ms.length
    · have d1 : decide ((i : Int) < ms.length) = true := decide_eq_true (by omega)
      obtain ⟨m, hm'⟩ : ∃ m, ms[i]? = some m := ⟨_, List.getElem?_eq_getElem hlt⟩
      obtain ⟨hp16, ad, rfl, hcell⟩ := (HR.out.below (hB0.trans (hB.mono (by omega)))).2 i m hm'
      have hks : keptL (ms.take (i + 1)) ds = keptL (ms.take i) ds ++ [idxM m ds 0] := by rw [take_succ_some ms i m hm', keptL, List.map_append]; rfl
      have hmo := H1.out m (List.mem_of_getElem? hm')
      have HKS := Lib.hid hks
      have HOWN := Lib.hid hown
      have HB := Lib.hid hB
      have HCL := Lib.hid hcell
      have i0 : (0 : Int) ≤ (i : Int) := by omega
      have i1 : (i : Int) < (ms.length : Int) := by omega
      clear hown hB hcell hm' hks
      obtain ⟨wo, rfl⟩ : ∃ wo : World, wo = wr := ⟨_, rfl⟩
      have hwr : IntKind.i64.wrap ((ds.length : Int) - 1) = (ds.length : Int) - 1 := by rw [IntKind.wrap_i64]; omega
      go_wp2_with fail
      have HID := Lib.hid (show (-1 : Int) = idxM m (ds.drop ds.length) ds.length by rw [List.drop_length]; rfl)
      go_loopw [7, 8] (fun v7 v8 wx => ∃ k : Nat, k ≤ ds.length ∧ v7 = .int .i64 ((k : Int) - 1) ∧ v8 = .int .i64 (idxM m (ds.drop k) k) ∧ Below wo.heap.size wo wx) (fun v7 _ _ => (RowKit.intOf v7 + 1).toNat)
      case atStart => exact ⟨ds.length, Nat.le_refl _, by go_num, by rw [← HID.out], Below.refl _ _⟩
      case round =>
        obtain ⟨k, hk, rfl, rfl, hBx⟩ := hrel
        have X3 := cell_keep_b hBx X2
        have Y3 := cell_keep_b hBx Y2
        have HBX := Lib.hid hBx
        by_cases hk0 : 0 < k
        · obtain ⟨j, rfl⟩ : ∃ j, k = j + 1 := ⟨k - 1, by omega⟩
          rw [show (((j + 1 : Nat) : Int) - 1) = (j : Int) by omega]
          have dk : (0 : Int) ≤ (j : Int) := by omega
          have dj : (j : Int) < (ds.length : Int) := by omega
          obtain ⟨x, hx⟩ : ∃ x, ds[j]? = some x := ⟨_, List.getElem?_eq_getElem (by omega)⟩
          have hBw : Below w.heap.size w wr := hB0.trans ((HB.out.trans (hBx.mono HB.out.size)).mono (by omega))
          obtain ⟨hx16, bd, rfl, hxc⟩ := (HR'.out.below hBw).2 j x hx
          have hxo := H2.out x (List.mem_of_getElem? hx)
          have hst := idxM_step m x ds j hx
          have hl1 : ∀ n, (loadRow 47 (.pointer (some (bd.add (j * 18))))).run Tryd.prog (wr.drewN n) = .ok (.agg (memRow x).toArray) (wr.drewN n) := fun n =>
            run_load_at (wr.drewN n) 47 (bd.add (j * 18)) (memRow x) _ (fun l v hv => by rw [← add_add']; exact hxc _ v hv) Tryd.underlying47 rfl (by rw [memRow_length x hx16]; kernel_rfl)
          have hl2 : ∀ n, (loadRow 47 (.pointer (some (ad.add (i * 18))))).run Tryd.prog (wr.drewN n) = .ok (.agg (memRow m).toArray) (wr.drewN n) := fun n =>
            run_load_at (wr.drewN n) 47 (ad.add (i * 18)) (memRow m) _ (fun l v hv => by rw [← add_add']; exact cell_keep_b HBX.out (HCL.out _ v hv)) Tryd.underlying47 rfl (by rw [memRow_length m hp16]; kernel_rfl)
          have hl3 : (loadRow 47 (.pointer (some (bd.add (j * 18))))).run Tryd.prog wr.drew = .ok (.agg (memRow x).toArray) wr.drew := hl1 1
          have hl4 : (loadRow 47 (.pointer (some (ad.add (i * 18))))).run Tryd.prog wr.drew = .ok (.agg (memRow m).toArray) wr.drew := hl2 1
          have hj1 : IntKind.i64.wrap ((j : Int) - 1) = (j : Int) - 1 := by rw [IntKind.wrap_i64]; omega
          clear hxc hx hBx hBw
          by_cases hmx : m = x
          · rw [if_pos hmx] at hst
            have heq : ∀ W, (Op.equalIn 10000 47 (.agg (memRow x).toArray) (.agg (memRow m).toArray)).run Tryd.prog W = .ok true W := fun W => by
              rw [eq_mem x m W hx16 hp16 hxo.1 hmo.1 hxo.2 hmo.2, decide_eq_true hmx.symm]
            have HST := Lib.hid hst
            clear hst hmx
            go_upto_region 8 with fail
            go_quiet (fail)
            go_wp2_with fail
            go_roundw
            case rel => exact ⟨j, by omega, by go_num, by rw [HST.out], by have hq := HBX.out; (repeat (first | (with_reducible assumption) | (with_reducible exact Below.refl _ _) | (with_reducible refine bl_alloc ?_ _) | (with_reducible refine bl_drew ?_) | (with_reducible refine bl_drewN ?_ _) | (with_reducible refine bl_then (by assumption) ?_)))⟩
            case measure => simp [RowKit.intOf]
          · rw [if_neg hmx] at hst
            have heq : ∀ W, (Op.equalIn 10000 47 (.agg (memRow x).toArray) (.agg (memRow m).toArray)).run Tryd.prog W = .ok false W := fun W => by
              rw [eq_mem x m W hx16 hp16 hxo.1 hmo.1 hxo.2 hmo.2, decide_eq_false (fun e => hmx e.symm)]
            have HST := Lib.hid hst
            clear hst hmx
            go_upto_region 8 with fail
            go_quiet (fail)
            go_wp2_with fail
            go_roundw
            case rel => exact ⟨j, by omega, by go_num, by rw [HST.out], by have hq := HBX.out; (repeat (first | (with_reducible assumption) | (with_reducible exact Below.refl _ _) | (with_reducible refine bl_alloc ?_ _) | (with_reducible refine bl_drew ?_) | (with_reducible refine bl_drewN ?_ _) | (with_reducible refine bl_then (by assumption) ?_)))⟩
            case measure => simp [RowKit.intOf]
        · obtain rfl : k = 0 := by omega
          rw [List.drop_zero, show (((0 : Nat) : Int) - 1) = -1 by decide]
          have HB3 := Lib.hid (HB.out.trans (hBx.mono HB.out.size))
          have HO3 := Lib.hid (pw_own_below HOWN.out hBx)
          have hz3 := hBx.size
          clear hBx
          go_wp2_with (at_builtin; go_must (refine print_append_num (w0 := w0) (w0.heap.size) rfl (.tmp 36) (.tmp 38) 32 3 .i64 8 rfl Tryd.underlying32 infoI64 (by decide) _ (keptL (ms.take i) ds) _ rfl rfl HO3.out HB3.out (by omega) (by rw [hkl]; omega) ?_); intro v4 w4 hown4 hB4 hg4 hat4)
          rw [← HKS.out] at hown4
          have HO4 := Lib.hid hown4
          clear hown4
          go_roundw
          case rel => exact ⟨i + 1, by omega, by go_num, hB4, HO4.out⟩
          case measure => simp [RowKit.intOf]; omega
    · have d1 : decide ((i : Int) < ms.length) = false := decide_eq_false (by omega)
      obtain rfl : i = ms.length := by omega
      go_wp2_with fail
      go_ret
      refine ⟨_, rfl, ?_, hB0.trans (hB.mono (by omega))⟩
      rw [List.take_length] at hown
      exact own_mono hown (by omega)
end Go.Proofs.YtbgijijecipjeaaDoor
namespace Go.Proofs.YtbgijijecipjeaaDoor
open Go.RowKit

def lget {α : Type} : List α → Nat → Option α
  | [], _ => none
  | x :: _, 0 => some x
  | _ :: l, n + 1 => lget l n
theorem lget_eq {α : Type} (l : List α) (i : Nat) : l.toArray[i]? = lget l i := by
  rw [List.getElem?_toArray]
  induction l generalizing i with
  | nil => rfl
  | cons x l ih => cases i with
    | zero => rfl
    | succ i => simpa [lget] using ih i
theorem wpAnyH_more {P : Program} {md : Region.Mode} {ops : Array Oper} {Q : Exit → Act → World → Prop} {S S' : World → Prop} (hS : ∀ w, S' w → S w) : ∀ (fuel : Nat) (listed : Array Bool) (a : Act) (w : World), wpAnyH P md ops Q S' fuel listed a w → wpAnyH P md ops Q S fuel listed a w
  | 0, _, _, _, h => h
  | fuel + 1, _, _, _, h => ⟨h.1, fun i hi => wpOp_mono (fun a' w' h' => ⟨hS w' h'.1, wpAnyH_more hS fuel _ a' w' h'.2⟩) (h.2 i hi)⟩
/-- Behind a call the condition on the world grows. -/
theorem wpAnyH_grow {P : Program} {md : Region.Mode} {ops : Array Oper} {Q : Exit → Act → World → Prop} {S : World → Prop} (T : World → Prop) {fuel : Nat} {listed : Array Bool} {a : Act} {w : World} (h : wpAnyH P md ops Q (fun x => S x ∧ T x) fuel listed a w) : wpAnyH P md ops Q S fuel listed a w :=
  wpAnyH_more (fun _ h => h.1) fuel listed a w h
theorem wpAnyH_takeL {P : Program} {l : List Oper} {Q : Exit → Act → World → Prop} {md : Region.Mode} {S : World → Prop} {i : Nat} {oi : Oper} {v : Value} {fuel : Nat} {listed : Array Bool} {a : Act} {w : World} (hi : lget l i = some oi)
    (hs : Region.noSelect l.toArray = true) (hf : Region.free md l.toArray listed i = true) (hr : (Region.ready md l.toArray listed).contains i = true)
    (hQ : ∀ c a w, Q (.panic c) (a.put oi.dst v) w → Q (.panic c) a w) (hw : Region.wanted oi (yielded l.toArray a.tmps) = true) (hS : S w)
    (hy : ∀ w, S w → (execOp a.eval oi).run P w = .ok (.value v) w)
    (h : wpAnyH P md l.toArray Q S fuel (listed.setIfInBounds i true) (a.put oi.dst v) w) : wpAnyH P md l.toArray Q S (fuel + 1) listed a w :=
  wpAnyH_take ((lget_eq l i).trans hi) hs hf hr hQ (Or.inl ⟨hw, hy⟩) hS h
theorem wpAnyH_only {P : Program} {l : List Oper} {Q : Exit → Act → World → Prop} {md : Region.Mode} {S : World → Prop} {i : Nat} {o : Oper} {fuel : Nat} {listed : Array Bool} {a : Act} {w : World} (ho : lget l i = some o) (hr : Region.ready md l.toArray listed = [i])
    (h : ∀ K' : Act → World → Prop, Shut (∀ a w, S w → (S w → wpAnyH P md l.toArray Q S fuel (listed.setIfInBounds i true) a w) → K' a w) → if Region.wanted o (yielded l.toArray a.tmps) = true then Oper.wp P o a w K' Q else K' (a.put o.dst undef) w) :
    wpAnyH P md l.toArray Q S (fuel + 1) listed a w :=
  wpAnyH_ready hr (by simp) (AllReadyH.cons ((lget_eq l i).trans ho) h AllReadyH.nil)
end Go.Proofs.YtbgijijecipjeaaDoor
namespace Go.Proofs.YtbgijijecipjeaaDoor
open Go.RowKit Go.IntWalk Go.Proofs.YtbgijijecipjeaaDoorW.PrintWords

theorem rk_b' {W w1 : World} (hb : Below W.heap.size W w1) {p : Nat} {X : Array Value} (h : row? W p = some X) : row? w1 p = some X := (row_below hb p (row_lt h)).trans h
theorem rngk_alloc {W : World} {b o : Nat} {cs : List Value} (h : W.rangeAt b o cs) (x : Obj) : (W.alloc x).rangeAt b o cs := range_below ((Below.refl _ _).alloc (Nat.le_refl _) _) h
theorem rngk_drew {W : World} {b o : Nat} {cs : List Value} (h : W.rangeAt b o cs) : W.drew.rangeAt b o cs := h
theorem rngk_drewN {W : World} {b o : Nat} {cs : List Value} (h : W.rangeAt b o cs) (n : Nat) : (W.drewN n).rangeAt b o cs := h
theorem add_zero' (a : Addr) : a.add 0 = a := rfl
theorem add_lit (a : Addr) (k : Nat) (h : k ≠ 0) : a.add k = ⟨a.block, a.off + k, none⟩ := by unfold Addr.add; rw [if_neg h]
theorem addl_any (P : Program) (x y : List UInt8) (W : World) (h : x.length + y.length ≤ 9223372036854775807) : (Op.stringOp .add ⟨x.toArray⟩ ⟨y.toArray⟩).run P W = .ok (.string ⟨(x ++ y).toArray⟩) W := by
  rw [run_string_add_sum W _ _ (by simp [ByteArray.size]; omega), ByteArray.mk_append_mk]
theorem add_mid' (b o k : Nat) : (⟨b, o, none⟩ : Addr).add k = ⟨b, o + k, none⟩ := by
  unfold Addr.add; split
  · subst_vars; rfl
  · rfl
theorem baa_append (a b : List UInt8) : (⟨a.toArray⟩ : ByteArray) ++ ⟨b.toArray⟩ = ⟨(a ++ b).toArray⟩ := by
  apply bytes_ext
  simp

set_option maxRecDepth 100000 in
set_option maxHeartbeats 4000000 in
theorem renc_any (ep need : Int) (A : Option Addr) (c : Nat) (ms : List Mem) (w : World) (hr : ReadsMem w A ms.length ms) (h1 : in64 ep) (h2 : in64 need) (h3 : ∀ m ∈ ms, in64 m.ht) (hn : memsLen ms ≤ 17592186044416) :
    Calls Tryd.prog 19 #[cusV ep need A ms.length c] w fun e w' => e = .returned (.string ⟨(cusW ep need ms).toArray⟩) ∧ Below w.heap.size w w' := by
  have HR := Lib.hid hr
  have H3 := Lib.hid h3
  clear hr h3
  unfold cusV
  go_enter Tryd.func19, Tryd.ntmps19
  go_wp2_with fail
  obtain ⟨w0, hw0⟩ : ∃ w0, w0 = w.alloc (Obj.cells #[Value.int IntKind.i64 ep, Value.int IntKind.i64 need, Value.slice A ms.length c] 24) := ⟨_, rfl⟩
  have hz0 : w0.heap.size = w.heap.size + 1 := by rw [hw0, szA]
  have hB0 : Below w.heap.size w w0 := by rw [hw0]; exact (Below.refl _ _).alloc (Nat.le_refl _) _
  have hbx : w0.heap[w.heap.size]? = some (.cells #[Value.int IntKind.i64 ep, Value.int IntKind.i64 need, Value.slice A ms.length c] 24 (0, 0)) := by rw [hw0]; exact heap_alloc_new _ _
  rw [← hw0, ← hz0]
  clear hw0
  have hml := memsLen_len ms
  refine (rints_any (some ⟨w0.heap.size, 0, none⟩) 3 [ep, need, (ms.length : Int)] _ (reads3 (heap_alloc_new w0 _)) (by simp) (by simp) (by intro x hx; simp at hx; rcases hx with rfl | rfl | rfl <;> first | assumption | (constructor <;> omega))).mono ?_
  rintro e w1 ⟨v, rfl, hown, hB⟩
  have hB1 : Below w0.heap.size w0 w1 := by (repeat (first | (with_reducible assumption) | (with_reducible exact Below.refl _ _) | (with_reducible refine bl_alloc ?_ _) | (with_reducible refine bl_drew ?_) | (with_reducible refine bl_drewN ?_ _) | (with_reducible refine bl_then (by assumption) ?_)))
  have hz1 := hB1.size
  have hx1 : w1.cell? ⟨w.heap.size, 2, none⟩ = some (.slice A ms.length c) := by rw [cell_of_row _ _ 2 _ _ _ ((hB1.block _ (show w.heap.size < w0.heap.size by omega)).trans hbx)]; rfl
  have hcv := own_string (P := Tryd.prog) Tryd.underlying56 Tryd.underlying5 Tryd.underlying9 hown
  rw [strOfNums_bi] at hcv
  have HB1 := Lib.hid hB1
  obtain ⟨P0, hP0⟩ : ∃ P0, P0 = wInts [ep, need, (ms.length : Int)] := ⟨_, rfl⟩
  rw [← hP0] at hcv hown
  have HP0 := Lib.hid hP0
  clear hown hB hB1 hP0
  go_wp2_with fail
  clear hcv
  go_loopw [3, 4] (fun v3 v4 wr => ∃ i : Nat, i ≤ ms.length ∧ v4 = .int .i64 i ∧ Below w0.heap.size w0 wr ∧ v3 = .string ⟨(P0 ++ memsW (ms.take i)).toArray⟩) (fun _ v4 _ => ms.length - (RowKit.intOf v4).toNat)
  case atStart => exact ⟨0, by omega, rfl, HB1.out, by rw [List.take_zero, show memsW [] = [] from rfl, List.append_nil]⟩
  case round =>
    obtain ⟨i, hi, rfl, hB, rfl⟩ := hrel
    have hz := hB.size
    have X2 : wr.cell? ⟨w.heap.size, 2, none⟩ = some (.slice A ms.length c) := by rw [cell_of_row _ _ 2 _ _ _ ((hB.block _ (show w.heap.size < w0.heap.size by omega)).trans hbx)]; rfl
    obtain ⟨pre, hpre⟩ : ∃ pre, pre = P0 ++ memsW (ms.take i) := ⟨_, rfl⟩
    rw [← hpre]
    have HPRE := Lib.hid hpre
    have HBX := Lib.hid hbx
    clear hpre hbx
    by_cases hlt : i < ms.length
    · have d1 : decide ((i : Int) < ms.length) = true := decide_eq_true (by omega)
      obtain ⟨m, hm⟩ : ∃ m, ms[i]? = some m := ⟨_, List.getElem?_eq_getElem hlt⟩
      obtain ⟨hp16, ad, rfl, hcell⟩ := (HR.out.below (hB0.trans (hB.mono (by omega)))).2 i m hm
      have hcl : ∀ k v, (memRow m)[k]? = some v → wr.cell? ((ad.add (i * 18)).add k) = some v := fun k v hv => by rw [← add_add']; exact hcell k v hv
      have c0 := hcl 0 (.string m.name) rfl
      rw [add_zero'] at c0
      have c17 := hcl 17 (.int .i64 m.ht) (by
        rw [memRow, List.getElem?_cons_succ, List.getElem?_append_right (by rw [Lib.byteCells_length, hp16]; decide), Lib.byteCells_length, hp16]; rfl)
      rw [add_lit _ 17 (by decide)] at c17
      have c1 : wr.rangeAt (ad.add (i * 18)).block ((ad.add (i * 18)).off + 1) (Lib.byteCells m.pub) := fun j v hv => by
        have hj : j < 16 := by
          have := (List.getElem?_eq_some_iff.1 hv).1
          rwa [Lib.byteCells_length, hp16] at this
        have := hcl (1 + j) v (by rw [memRow, Nat.add_comm 1 j, List.getElem?_cons_succ, List.getElem?_append_left (by rw [Lib.byteCells_length, hp16]; exact hj)]; exact hv)
        rw [add_lit _ (1 + j) (by omega)] at this
        rw [Nat.add_assoc]
        exact this
      have hns : m.name.size ≤ 35184372088832 := by
        have := memsLen_mem ms m (List.mem_of_getElem? hm); omega
      have hht := H3.out m (List.mem_of_getElem? hm)
      have hu36 := Tryd.underlying36
      have hi36 : (Tryd.prog.info? 36).map (·.size) = some (Lib.byteCells m.pub).length := by rw [Lib.byteCells_length, hp16]; kernel_rfl
      have i0 : (0 : Int) ≤ (i : Int) := by omega
      have i1 : (i : Int) < (ms.length : Int) := by omega
      have HM := Lib.hid hm
      have HB := Lib.hid hB
      have HX := Lib.hid (And.intro X2 (And.intro c0 (And.intro c1 c17)))
      clear hcell hcl hm hB
      go_upto_region 5 with fail
      obtain ⟨nb, hnb⟩ : ∃ nb, nb = wBytes m.name.data.toList := ⟨_, rfl⟩
      obtain ⟨hb, hhb⟩ : ∃ hb, hb = wInt m.ht := ⟨_, rfl⟩
      have hnl : nb.length ≤ m.name.size + 9 := by
        have := wBytes_length_le m.name.data.toList
        rwa [data_length, ← hnb] at this
      have hhl : hb.length ≤ 9 := by rw [hhb]; exact wInt_length_le _
      have hpl : pre.length ≤ 36 + memsLen ms := by
        have e1 := wInt_length_le (([ep, need, (ms.length : Int)] : List Int).length : Int)
        have e2 := wMany_length_le [ep, need, (ms.length : Int)]
        have e3 := memsW_length_le (ms.take i) (fun m hm => by
          obtain ⟨j, hj⟩ := List.getElem?_of_mem (List.mem_of_mem_take hm)
          exact (HR.out.2 j m hj).1)
        have e4 := memsLen_take ms i
        rw [HPRE.out, HP0.out, List.length_append, wInts, List.length_append]
        simp only [List.length_cons, List.length_nil] at e1 e2 ⊢
        omega
      have ha1 := fun W => addl_any Tryd.prog pre nb W (by omega)
      obtain ⟨x1, hx1⟩ : ∃ x1, x1 = pre ++ nb := ⟨_, rfl⟩
      have ha2 := fun W => addl_any Tryd.prog x1 m.pub W (by rw [hx1, List.length_append]; omega)
      obtain ⟨x2, hx2⟩ : ∃ x2, x2 = x1 ++ m.pub := ⟨_, rfl⟩
      have ha3 := fun W => addl_any Tryd.prog x2 hb W (by rw [hx2, hx1, List.length_append, List.length_append]; omega)
      obtain ⟨x3, hx3⟩ : ∃ x3, x3 = x2 ++ hb := ⟨_, rfl⟩
      rw [← hx1] at ha1
      rw [← hx2] at ha2
      rw [← hx3] at ha3
      have HNB := Lib.hid hnb
      have HHB := Lib.hid hhb
      have HX3 := Lib.hid (And.intro hx1 (And.intro hx2 hx3))
      have hR1 := rbytes_any m.name
      rw [← hnb] at hR1
      have hR2 := rint_any m.ht
      rw [← hhb] at hR2
      have HR1 := Lib.hid hR1
      have HR2 := Lib.hid hR2
      clear hx1 hx2 hx3 hnb hhb hR1 hR2
      have hld : ∀ W : World, W.rangeAt (ad.add (i * 18)).block ((ad.add (i * 18)).off + 1) (Lib.byteCells m.pub) → (loadRow 36 (.pointer (some ⟨(ad.add (i * 18)).block, (ad.add (i * 18)).off + 1, none⟩))).run Tryd.prog W = .ok (.agg (Lib.byteCells m.pub).toArray) W := fun W hW =>
        run_load_at W 36 _ (Lib.byteCells m.pub) _ (fun k v hv => by rw [add_mid']; exact hW k v hv) Tryd.underlying36 rfl hi36
      have HLD := Lib.hid hld
      clear hld
      refine wp_region_held_drew (S := fun w' => w'.cell? ⟨w.heap.size, 2, none⟩ = some (.slice (some ad) ms.length c) ∧ w'.cell? (ad.add (i * 18)) = some (.string m.name) ∧ w'.rangeAt (ad.add (i * 18)).block ((ad.add (i * 18)).off + 1) (Lib.byteCells m.pub) ∧ w'.cell? ⟨(ad.add (i * 18)).block, (ad.add (i * 18)).off + 17, none⟩ = some (.int .i64 m.ht)) (by kernel_rfl) ⟨X2, c0, c1, c17⟩ (fun hHeld => ?_)
      refine wpAnyH_takeL (i := 0) (v := ?vT640_0) rfl (by kernel_rfl) (by kernel_rfl) (by kernel_rfl) (fun _ _ _ h => h) rfl hHeld ?hyT640_0 ?restT640_0
      case hyT640_0 => (intro wz hz; (try dsimp only at hz); go_simp; (first | done | (with_reducible rfl)))
      (try simp only [Act.put, List.setIfInBounds_toArray, List.set_cons_zero, List.set_cons_succ])
      refine wpAnyH_takeL (i := 1) (v := ?vT640_1) rfl (by kernel_rfl) (by kernel_rfl) (by kernel_rfl) (fun _ _ _ h => h) rfl hHeld ?hyT640_1 ?restT640_1
      case hyT640_1 => (intro wz hz; (try dsimp only at hz); go_simp; (first | done | (with_reducible rfl)))
      (try simp only [Act.put, List.setIfInBounds_toArray, List.set_cons_zero, List.set_cons_succ])
      refine wpAnyH_takeL (i := 2) (v := ?vT640_2) rfl (by kernel_rfl) (by kernel_rfl) (by kernel_rfl) (fun _ _ _ h => h) rfl hHeld ?hyT640_2 ?restT640_2
      case hyT640_2 => (intro wz hz; (try dsimp only at hz); go_simp; (first | done | (with_reducible rfl)))
      (try simp only [Act.put, List.setIfInBounds_toArray, List.set_cons_zero, List.set_cons_succ])
      refine wpAnyH_takeL (i := 3) (v := ?vT640_3) rfl (by kernel_rfl) (by kernel_rfl) (by kernel_rfl) (fun _ _ _ h => h) rfl hHeld ?hyT640_3 ?restT640_3
      case hyT640_3 => (intro wz hz; (try dsimp only at hz); go_simp; (first | done | (with_reducible rfl)))
      (try simp only [Act.put, List.setIfInBounds_toArray, List.set_cons_zero, List.set_cons_succ])
      refine wpAnyH_takeL (i := 4) (v := ?vT640_4) rfl (by kernel_rfl) (by kernel_rfl) (by kernel_rfl) (fun _ _ _ h => h) rfl hHeld ?hyT640_4 ?restT640_4
      case hyT640_4 => (intro wz hz; (try dsimp only at hz); go_simp; (first | done | (with_reducible rfl)))
      (try simp only [Act.put, List.setIfInBounds_toArray, List.set_cons_zero, List.set_cons_succ])
      refine wpAnyH_takeL (i := 5) (v := ?vT640_5) rfl (by kernel_rfl) (by kernel_rfl) (by kernel_rfl) (fun _ _ _ h => h) rfl hHeld ?hyT640_5 ?restT640_5
      case hyT640_5 => (intro wz hz; (try dsimp only at hz); go_simp; (first | done | (with_reducible rfl)))
      (try simp only [Act.put, List.setIfInBounds_toArray, List.set_cons_zero, List.set_cons_succ])
      refine wpAnyH_takeL (i := 6) (v := ?vT640_6) rfl (by kernel_rfl) (by kernel_rfl) (by kernel_rfl) (fun _ _ _ h => h) rfl hHeld ?hyT640_6 ?restT640_6
      case hyT640_6 => (intro wz hz; (try dsimp only at hz); go_simp; (first | done | (with_reducible rfl)))
      (try simp only [Act.put, List.setIfInBounds_toArray, List.set_cons_zero, List.set_cons_succ])
      refine wpAnyH_takeL (i := 10) (v := ?vT640_10) rfl (by kernel_rfl) (by kernel_rfl) (by kernel_rfl) (fun _ _ _ h => h) rfl hHeld ?hyT640_10 ?restT640_10
      case hyT640_10 => (intro wz hz; (try dsimp only at hz); go_simp; (first | done | (with_reducible rfl)))
      (try simp only [Act.put, List.setIfInBounds_toArray, List.set_cons_zero, List.set_cons_succ])
      refine wpAnyH_takeL (i := 11) (v := ?vT640_11) rfl (by kernel_rfl) (by kernel_rfl) (by kernel_rfl) (fun _ _ _ h => h) rfl hHeld ?hyT640_11 ?restT640_11
      case hyT640_11 => (intro wz hz; (try dsimp only at hz); go_simp; (first | done | (with_reducible rfl)))
      (try simp only [Act.put, List.setIfInBounds_toArray, List.set_cons_zero, List.set_cons_succ])
      refine wpAnyH_takeL (i := 12) (v := ?vT640_12) rfl (by kernel_rfl) (by kernel_rfl) (by kernel_rfl) (fun _ _ _ h => h) rfl hHeld ?hyT640_12 ?restT640_12
      case hyT640_12 => (intro wz hz; (try dsimp only at hz); go_simp; (first | done | (with_reducible rfl)))
      (try simp only [Act.put, List.setIfInBounds_toArray, List.set_cons_zero, List.set_cons_succ])
      refine wpAnyH_takeL (i := 13) (v := ?vT640_13) rfl (by kernel_rfl) (by kernel_rfl) (by kernel_rfl) (fun _ _ _ h => h) rfl hHeld ?hyT640_13 ?restT640_13
      case hyT640_13 => (intro wz hz; (try dsimp only at hz); go_simp; (first | done | (with_reducible rfl)))
      (try simp only [Act.put, List.setIfInBounds_toArray, List.set_cons_zero, List.set_cons_succ])
      refine wpAnyH_takeL (i := 14) (v := ?vT640_14) rfl (by kernel_rfl) (by kernel_rfl) (by kernel_rfl) (fun _ _ _ h => h) rfl hHeld ?hyT640_14 ?restT640_14
      case hyT640_14 => (intro wz hz; (try dsimp only at hz); go_simp; (first | done | (with_reducible rfl)))
      (try simp only [Act.put, List.setIfInBounds_toArray, List.set_cons_zero, List.set_cons_succ])
      refine wpAnyH_takeL (i := 15) (v := ?vT641_15) rfl (by kernel_rfl) (by kernel_rfl) (by kernel_rfl) (fun _ _ _ h => h) rfl hHeld ?hyT641_15 ?restT641_15
      case hyT641_15 => (intro wz hz; (try dsimp only at hz); have hld1 := HLD.out wz hz.2.2.1; go_simp; (first | done | (with_reducible rfl)))
      (try simp only [Act.put, List.setIfInBounds_toArray, List.set_cons_zero, List.set_cons_succ])
      refine wpAnyH_takeL (i := 18) (v := ?vT642_18) rfl (by kernel_rfl) (by kernel_rfl) (by kernel_rfl) (fun _ _ _ h => h) rfl hHeld ?hyT642_18 ?restT642_18
      case hyT642_18 => (intro wz hz; (try dsimp only at hz); go_simp; (first | done | (with_reducible rfl)))
      (try simp only [Act.put, List.setIfInBounds_toArray, List.set_cons_zero, List.set_cons_succ])
      refine wpAnyH_takeL (i := 19) (v := ?vT642_19) rfl (by kernel_rfl) (by kernel_rfl) (by kernel_rfl) (fun _ _ _ h => h) rfl hHeld ?hyT642_19 ?restT642_19
      case hyT642_19 => (intro wz hz; (try dsimp only at hz); go_simp; (first | done | (with_reducible rfl)))
      (try simp only [Act.put, List.setIfInBounds_toArray, List.set_cons_zero, List.set_cons_succ])
      refine wpAnyH_takeL (i := 20) (v := ?vT642_20) rfl (by kernel_rfl) (by kernel_rfl) (by kernel_rfl) (fun _ _ _ h => h) rfl hHeld ?hyT642_20 ?restT642_20
      case hyT642_20 => (intro wz hz; (try dsimp only at hz); go_simp; (first | done | (with_reducible rfl)))
      (try simp only [Act.put, List.setIfInBounds_toArray, List.set_cons_zero, List.set_cons_succ])
      refine wpAnyH_takeL (i := 21) (v := ?vT642_21) rfl (by kernel_rfl) (by kernel_rfl) (by kernel_rfl) (fun _ _ _ h => h) rfl hHeld ?hyT642_21 ?restT642_21
      case hyT642_21 => (intro wz hz; (try dsimp only at hz); go_simp; (first | done | (with_reducible rfl)))
      (try simp only [Act.put, List.setIfInBounds_toArray, List.set_cons_zero, List.set_cons_succ])
      refine wpAnyH_takeL (i := 22) (v := ?vT642_22) rfl (by kernel_rfl) (by kernel_rfl) (by kernel_rfl) (fun _ _ _ h => h) rfl hHeld ?hyT642_22 ?restT642_22
      case hyT642_22 => (intro wz hz; (try dsimp only at hz); go_simp; (first | done | (with_reducible rfl)))
      (try simp only [Act.put, List.setIfInBounds_toArray, List.set_cons_zero, List.set_cons_succ])
      refine wpAnyH_takeL (i := 23) (v := ?vT642_23) rfl (by kernel_rfl) (by kernel_rfl) (by kernel_rfl) (fun _ _ _ h => h) rfl hHeld ?hyT642_23 ?restT642_23
      case hyT642_23 => (intro wz hz; (try dsimp only at hz); go_simp; (first | done | (with_reducible rfl)))
      (try simp only [Act.put, List.setIfInBounds_toArray, List.set_cons_zero, List.set_cons_succ])
      refine wpAnyH_only (i := 7) rfl (by kernel_rfl) (fun K hK => ?_)
      go_simp
      refine (HR1.out wr.drew hns).mono ?_
      rintro e w3 ⟨v3, rfl, hown3, hB3⟩
      have hcv3 := own_string (P := Tryd.prog) Tryd.underlying56 Tryd.underlying5 Tryd.underlying9 hown3
      rw [strOfNums_bi] at hcv3
      go_wp2_with fail
      refine hK.out _ _ ⟨cell_keep_b hB3 hHeld.1, cell_keep_b hB3 hHeld.2.1, rng_keep_bV hB3 hHeld.2.2.1, cell_keep_b hB3 hHeld.2.2.2⟩ (fun hHeld => ?_)
      clear hK K
      refine wpAnyH_grow (fun x => (convert 56 9 v3).run Tryd.prog x = .ok (.string ⟨nb.toArray⟩) x) ?_
      replace hHeld := And.intro hHeld hcv3
      clear hcv3
      (try simp only [Act.put, List.setIfInBounds_toArray, List.set_cons_zero, List.set_cons_succ])
      refine wpAnyH_takeL (i := 8) (v := ?vT655_8) rfl (by kernel_rfl) (by kernel_rfl) (by kernel_rfl) (fun _ _ _ h => h) rfl hHeld ?hyT655_8 ?restT655_8
      case hyT655_8 => (intro wz hz; (try dsimp only at hz); go_simp; (first | done | (with_reducible rfl)))
      (try simp only [Act.put, List.setIfInBounds_toArray, List.set_cons_zero, List.set_cons_succ])
      refine wpAnyH_takeL (i := 9) (v := ?vT655_9) rfl (by kernel_rfl) (by kernel_rfl) (by kernel_rfl) (fun _ _ _ h => h) rfl hHeld ?hyT655_9 ?restT655_9
      case hyT655_9 => (intro wz hz; (try dsimp only at hz); go_simp; (first | done | (with_reducible rfl)))
      (try simp only [Act.put, List.setIfInBounds_toArray, List.set_cons_zero, List.set_cons_succ])
      refine wpAnyH_only (i := 16) rfl (by kernel_rfl) (fun K hK => ?_)
      go_simp
      refine (text_any m.pub w3 hp16).mono ?_
      rintro e w4 ⟨rfl, hB4⟩
      have hown4 := pw_own_below hown3 hB4
      have hcv4 := own_string (P := Tryd.prog) Tryd.underlying56 Tryd.underlying5 Tryd.underlying9 hown4
      rw [strOfNums_bi] at hcv4
      go_wp2_with fail
      refine hK.out _ _ ⟨⟨cell_keep_b hB4 hHeld.1.1, cell_keep_b hB4 hHeld.1.2.1, rng_keep_bV hB4 hHeld.1.2.2.1, cell_keep_b hB4 hHeld.1.2.2.2⟩, hcv4⟩ (fun hHeld => ?_)
      clear hK K hcv4
      (try simp only [Act.put, List.setIfInBounds_toArray, List.set_cons_zero, List.set_cons_succ])
      refine wpAnyH_takeL (i := 17) (v := ?vT666_17) rfl (by kernel_rfl) (by kernel_rfl) (by kernel_rfl) (fun _ _ _ h => h) rfl hHeld ?hyT666_17 ?restT666_17
      case hyT666_17 => (intro wz hz; (try dsimp only at hz); go_simp; (first | done | (with_reducible rfl)))
      (try simp only [Act.put, List.setIfInBounds_toArray, List.set_cons_zero, List.set_cons_succ])
      refine wpAnyH_only (i := 24) rfl (by kernel_rfl) (fun K hK => ?_)
      go_simp
      refine (HR2.out w4 hht.1 hht.2).mono ?_
      rintro e w5 ⟨v5, rfl, hown5, hB5⟩
      have hcv5 := own_string (P := Tryd.prog) Tryd.underlying56 Tryd.underlying5 Tryd.underlying9 hown5
      rw [strOfNums_bi] at hcv5
      have hown6 := pw_own_below hown4 hB5
      have hcv6 := own_string (P := Tryd.prog) Tryd.underlying56 Tryd.underlying5 Tryd.underlying9 hown6
      rw [strOfNums_bi] at hcv6
      go_wp2_with fail
      refine hK.out _ _ ⟨⟨cell_keep_b hB5 hHeld.1.1, cell_keep_b hB5 hHeld.1.2.1, rng_keep_bV hB5 hHeld.1.2.2.1, cell_keep_b hB5 hHeld.1.2.2.2⟩, hcv6⟩ (fun hHeld => ?_)
      clear hK K hcv6
      refine wpAnyH_grow (fun x => (convert 56 9 v5).run Tryd.prog x = .ok (.string ⟨hb.toArray⟩) x) ?_
      replace hHeld := And.intro hHeld hcv5
      clear hcv5
      (try simp only [Act.put, List.setIfInBounds_toArray, List.set_cons_zero, List.set_cons_succ])
      refine wpAnyH_takeL (i := 25) (v := ?vT682_25) rfl (by kernel_rfl) (by kernel_rfl) (by kernel_rfl) (fun _ _ _ h => h) rfl hHeld ?hyT682_25 ?restT682_25
      case hyT682_25 => (intro wz hz; (try dsimp only at hz); go_simp; (first | done | (with_reducible rfl)))
      (try simp only [Act.put, List.setIfInBounds_toArray, List.set_cons_zero, List.set_cons_succ])
      refine wpAnyH_takeL (i := 26) (v := ?vT682_26) rfl (by kernel_rfl) (by kernel_rfl) (by kernel_rfl) (fun _ _ _ h => h) rfl hHeld ?hyT682_26 ?restT682_26
      case hyT682_26 => (intro wz hz; (try dsimp only at hz); go_simp; (first | done | (with_reducible rfl)))
      (try simp only [Act.put, List.setIfInBounds_toArray, List.set_cons_zero, List.set_cons_succ])
      refine wpAnyH_takeL (i := 27) (v := ?vT682_27) rfl (by kernel_rfl) (by kernel_rfl) (by kernel_rfl) (fun _ _ _ h => h) rfl hHeld ?hyT682_27 ?restT682_27
      case hyT682_27 => (intro wz hz; (try dsimp only at hz); go_simp; (first | done | (with_reducible rfl)))
      (try simp only [Act.put, List.setIfInBounds_toArray, List.set_cons_zero, List.set_cons_succ])
      refine wpAnyH_done (by kernel_rfl) ?_ _
      clear hHeld
      go_wp2_with fail
      go_roundw
      case rel =>
        have hb1 := HB.out.drew.trans (hB3.mono hz)
        have hz3 := hb1.size
        have hb2 := hb1.trans (hB4.mono hz3)
        refine ⟨i + 1, by omega, by go_num, hb2.trans (hB5.mono hb2.size), ?_⟩
        obtain ⟨e1, e2, e3⟩ := HX3.out
        rw [take_succ_some ms i m HM.out, memsW_snoc, memW, e3, e2, e1, HPRE.out, HNB.out, HHB.out]
        simp
      case measure => simp [RowKit.intOf]; omega
    · have d1 : decide ((i : Int) < ms.length) = false := decide_eq_false (by omega)
      obtain rfl : i = ms.length := by omega
      have hcu : cusW ep need ms = pre := by rw [HPRE.out, List.take_length, HP0.out, cusW]
      have HCU := Lib.hid hcu
      clear hcu
      go_wp2_with fail
      go_ret
      exact ⟨by rw [HCU.out]; rfl, hB0.trans (hB.mono (by omega))⟩

set_option maxRecDepth 100000 in
set_option maxHeartbeats 4000000 in
theorem rdig_any (ep need : Int) (A : Option Addr) (c : Nat) (ms : List Mem) (w : World) (hT : TabR w) (hr : ReadsMem w A ms.length ms) (h1 : in64 ep) (h2 : in64 need) (h3 : ∀ m ∈ ms, in64 m.ht) (hn : memsLen ms ≤ 17592186044416) :
    Calls Tryd.prog 21 #[cusV ep need A ms.length c] w fun e w' => e = .returned (.agg (Lib.byteCells (hOf 12 [cusW ep need ms])).toArray) ∧ Below w.heap.size w w' := by
  have HR := Lib.hid hr
  have H3 := Lib.hid h3
  clear hr h3
  obtain ⟨ec, hec⟩ : ∃ ec, ec = cusW ep need ms := ⟨_, rfl⟩
  have hel : ec.length ≤ 36 + memsLen ms := by
    have e1 := wInt_length_le (([ep, need, (ms.length : Int)] : List Int).length : Int)
    have e2 := wMany_length_le [ep, need, (ms.length : Int)]
    have e3 := memsW_length_le ms (fun m hm => by
      obtain ⟨j, hj⟩ := List.getElem?_of_mem hm
      exact (HR.out.2 j m hj).1)
    rw [hec, cusW, List.length_append, wInts, List.length_append]
    simp only [List.length_cons, List.length_nil] at e1 e2 ⊢
    omega
  have henc := fun W hW => renc_any ep need A c ms W hW h1 h2 H3.out hn
  rw [← hec] at henc ⊢
  have HENC := Lib.hid henc
  clear hec henc
  unfold cusV at HENC ⊢
  go_enter Tryd.func21, Tryd.ntmps21
  go_wp2_with fail
  refine (HENC.out _ (HR.out.below (((Below.refl _ _).alloc (Nat.le_refl _) _).alloc (by simp) _))).mono ?_
  rintro e w1 ⟨rfl, hB1⟩
  have hb1 : Below w.heap.size w w1 := by (repeat (first | (with_reducible assumption) | (with_reducible exact Below.refl _ _) | (with_reducible refine bl_alloc ?_ _) | (with_reducible refine bl_drew ?_) | (with_reducible refine bl_drewN ?_ _) | (with_reducible refine bl_then (by assumption) ?_)))
  have hr1 : row? w1 (w.heap.size + 1) = some (Lib.byteCells (List.replicate 16 0)).toArray := by
    rw [row_below hB1 _ (by simp)]
    exact row_of (heap_alloc2_new _ _ _)
  have hl1 := row_lt hr1
  go_wp2_with fail
  have hst : ReadsStr (w1.alloc (Obj.cells #[Value.string { data := ec.toArray }] 9)) (some ⟨w1.heap.size, 0, none⟩) ([(⟨ec.toArray⟩ : ByteArray)] : List ByteArray).length [(⟨ec.toArray⟩ : ByteArray)] := by
    refine ⟨rfl, fun _ => ⟨_, rfl, fun j hj => ?_⟩⟩
    obtain rfl : j = 0 := by simp at hj; omega
    rw [add_plain, cell_of_row _ _ _ _ _ _ (heap_alloc_new _ _)]; rfl
  have htx : texts [(⟨ec.toArray⟩ : ByteArray)] = [ec] := by simp [texts]
  refine (rof_any 12 (by decide) (some ⟨w1.heap.size, 0, none⟩) 1 [(⟨ec.toArray⟩ : ByteArray)] _ (hT.below (by (repeat (first | (with_reducible assumption) | (with_reducible exact Below.refl _ _) | (with_reducible refine bl_alloc ?_ _) | (with_reducible refine bl_drew ?_) | (with_reducible refine bl_drewN ?_ _) | (with_reducible refine bl_then (by assumption) ?_))))) hst (by rw [htx]; simp [partsLen]; omega)).mono ?_
  rintro e w2 ⟨rfl, hB2⟩
  rw [htx]
  have hb2 : Below w.heap.size w w2 := by (repeat (first | (with_reducible assumption) | (with_reducible exact Below.refl _ _) | (with_reducible refine bl_alloc ?_ _) | (with_reducible refine bl_drew ?_) | (with_reducible refine bl_drewN ?_ _) | (with_reducible refine bl_then (by assumption) ?_)))
  have hr2 : row? w2 (w.heap.size + 1) = some (Lib.byteCells (List.replicate 16 0)).toArray := by
    rw [row_below hB2 _ (by rw [szA]; omega), row_alloc_lt _ _ _ hl1]; exact hr1
  have h16 : (Lib.byteCells (hOf 12 [ec])).length = 16 := by rw [Lib.byteCells, List.length_map]; exact hOf_length 12 [ec]
  have hts := storeRowK_some Tryd.prog 36 16 (w.heap.size + 1) (Lib.byteCells (hOf 12 [ec])).toArray w2 (Lib.byteCells (List.replicate 16 0)).toArray (by simp [Lib.byteCells]) (by simpa using h16) (byteCells_all _)
  have hrf : row? (w2.setRow (w.heap.size + 1) (Lib.byteCells (hOf 12 [ec])).toArray) (w.heap.size + 1) = some (Lib.byteCells (hOf 12 [ec])).toArray := by
    rw [row_setRow, if_pos rfl, hr2]; rfl
  rw [show (List.replicate 16 (0 : UInt8)) = [0, 0, 0, 0, 0, 0, 0, 0, 0, 0, 0, 0, 0, 0, 0, 0] from rfl] at hts
  have HH16 := Lib.hid h16
  have HRF := Lib.hid hrf
  clear hrf
  go_wp2_with fail
  obtain ⟨tf, hhf⟩ := row_heap HRF.out
  refine bodyPost_ret (v := .agg (Lib.byteCells (hOf 12 [ec])).toArray) (results_cell_row rfl _ _ (w.heap.size + 1) tf _ (0, 0) _ rfl hhf Tryd.underlying36 rfl (by rw [List.size_toArray, HH16.out]; kernel_rfl)) rfl ⟨rfl, ?_⟩
  exact below_setRow hb2 (by omega) _
end Go.Proofs.YtbgijijecipjeaaDoor
namespace Go.Proofs.YtbgijijecipjeaaDoor
open Go.RowKit Go.IntWalk Go.Proofs.YtbgijijecipjeaaDoorW.PrintWords

set_option maxRecDepth 100000 in
/-- Members appended to nothing. -/
theorem app_mem (A : Option Addr) (c : Nat) (ms : List Mem) (w : World) (ty : TypeId) (hr : ReadsMem w A ms.length ms) (hn : ms.length ≤ 1099511627776) :
    ∃ B d w1, (Builtin.append_ #[22, 22] ty #[.slice none 0 0, .slice A ms.length c]).run Tryd.prog w = .ok (.slice B ms.length d) w1 ∧ ReadsMem w1 B ms.length ms ∧ (ms = [] ∨ ∃ ad, B = some ad ∧ w.heap.size ≤ ad.block) ∧ Below w.heap.size w w1 := by
  obtain ⟨i, hi, hz⟩ := Option.map_eq_some_iff.1 (show (Tryd.prog.info? 47).map (fun i => (i.size, i.bytes, i.zero.isSome)) = some (18, 40, true) by kernel_rfl)
  simp only [Prod.mk.injEq] at hz
  obtain ⟨hz1, hz2, hz3⟩ := hz
  obtain ⟨z, hzz⟩ := Option.isSome_iff_exists.1 hz3
  by_cases h0 : ms = []
  · subst h0
    refine ⟨none, 0, w, ?_, ⟨rfl, fun j m hm => by simp at hm⟩, .inl rfl, Below.refl _ _⟩
    rcases A with _ | ad
    · exact run_append_nothing w 22 22 ty 47 i Tryd.underlying22 hi none 0 0 (Nat.le_refl _) _ (Src.ofNil w Tryd.underlying22 c)
    · exact run_append_nothing w 22 22 ty 47 i Tryd.underlying22 hi none 0 0 (Nat.le_refl _) _ (Src.ofSlice w Tryd.underlying22 ad 0 c [] (by simp) (by intro j u h; simp at h) (by intro u h; cases h))
  · have hpos : 0 < ms.length := List.length_pos_iff.2 h0
    have hpub : ∀ m ∈ ms, m.pub.length = 16 := fun m hm => by
      obtain ⟨j, hj⟩ := List.getElem?_of_mem hm
      exact (hr.2 j m hj).1
    obtain ⟨x, hx⟩ : ∃ x, ms[0]? = some x := ⟨_, List.getElem?_eq_getElem hpos⟩
    obtain ⟨-, ad, rfl, -⟩ := hr.2 0 x hx
    have hcells : ∀ j v, ((ms.map memRow).flatten)[j]? = some v → w.cell? (ad.add j) = some v := by
      intro j v hj
      obtain ⟨i, k, m, e1, e2, rfl⟩ := flat_split ms hpub j v hj
      obtain ⟨-, ad', e, hc⟩ := hr.2 i m e1
      injection e with e; subst e
      exact hc k v e2
    have hlen : ((ms.map memRow).flatten).length = ms.length * i.size := by rw [hz1]; exact flat_len ms hpub
    have hrun := run_append_nil (P := Tryd.prog) w 22 ty 47 i z Tryd.underlying22 hi hzz ad ms.length c ((ms.map memRow).flatten) hlen hcells hpos (by omega) (by rw [hz2]; omega)
    refine ⟨_, _, _, hrun, ⟨rfl, fun j m hm => ⟨hpub m (List.mem_of_getElem? hm), _, rfl, fun k v hv => ?_⟩⟩, .inr ⟨_, rfl, Nat.le_refl _⟩, ((Below.refl _ _).drew).alloc (Nat.le_refl _) _⟩
    have hjk := flat_get ms hpub j m k v hm hv
    rw [add_plain]
    refine (cell_of_row _ _ _ _ _ _ (heap_alloc_new w.drew _)).trans ?_
    rw [Array.getElem?_append_left (by rw [List.size_toArray]; exact (List.getElem?_eq_some_iff.1 hjk).1), List.getElem?_toArray]
    exact hjk

set_option maxRecDepth 100000 in
set_option maxHeartbeats 4000000 in
theorem rrepl_any (ep nd need : Int) (A B : Option Addr) (c d : Nat) (ms ls : List Mem) (w : World) (hr : ReadsMem w A ms.length ms) (hr2 : ReadsMem w B ls.length ls) (h4 : okMems ms) (h5 : okMems ls) (hn : ms.length ≤ 1099511627776) (hm : ls.length ≤ 1099511627776) :
    Calls Tryd.prog 11 #[cusV ep nd A ms.length c, .int .i64 need, .slice B ls.length d] w fun e w' => Below w.heap.size w w' ∧
      ((replOk ep nd need ms ls = false ∧ e = .returned (.tuple #[cusV 0 0 none 0 0, .int .i64 1])) ∨
        (replOk ep nd need ms ls = true ∧ ∃ B' d', e = .returned (.tuple #[cusV (ep + 1) need B' ls.length d', .int .i64 0]) ∧ ReadsMem w' B' ls.length ls)) := by
  have HR := Lib.hid hr
  have HR2 := Lib.hid hr2
  have H4 := Lib.hid h4
  have H5 := Lib.hid h5
  clear hr hr2 h4 h5
  unfold cusV
  go_enter Tryd.func11, Tryd.ntmps11
  go_wp2_with fail
  obtain ⟨w0, hw0⟩ : ∃ w0, w0 = (w.alloc (Obj.cells #[Value.int IntKind.i64 ep, Value.int IntKind.i64 nd, Value.slice A ms.length c] 24)).alloc (Obj.cells #[Value.int IntKind.i64 0, Value.int IntKind.i64 0, Value.slice none 0 0] 24) := ⟨_, rfl⟩
  have hr0 : row? w0 w.heap.size = some #[Value.int IntKind.i64 ep, Value.int IntKind.i64 nd, Value.slice A ms.length c] := by rw [hw0]; exact row_of (heap_alloc2_old _ _ _)
  have hr1 : row? w0 (w.heap.size + 1) = some #[Value.int IntKind.i64 0, Value.int IntKind.i64 0, Value.slice none 0 0] := by rw [hw0]; exact row_of (heap_alloc2_new _ _ _)
  have hB0 : Below w.heap.size w w0 := by rw [hw0]; exact ((Below.refl _ _).alloc (Nat.le_refl _) _).alloc (by simp) _
  have hz0 : w0.heap.size = w.heap.size + 2 := by rw [hw0]; simp
  rw [← hw0]
  clear hw0
  refine (rvalid_any ep nd A c ms _ (HR.out.below hB0) H4.out hn).mono ?_
  rintro e w1 ⟨rfl, hB1⟩
  replace hr0 := rk_b' hB1 hr0
  replace hr1 := rk_b' hB1 hr1
  have hB := hB0.trans (hB1.mono (by omega))
  have hz1 := hB1.size
  clear hB0 hB1
  have hzz : ∀ (W : World) (g : Nat) (X : Array Value) (Y : Array Value), X.size = 3 → oneAll X = true → Y.size = 3 → storeRowK Tryd.prog 24 3 g X W (some Y) = .ok () (W.setRow g X) := fun W g X Y h0 h1 h2 => storeRowK_some _ _ _ _ _ _ _ h2 h0 h1
  have hz0' : ∀ (W : World) (g : Nat), storeRowK Tryd.prog 24 3 g #[Value.int IntKind.i64 0, Value.int IntKind.i64 0, Value.slice none 0 0] W (some #[Value.int IntKind.i64 0, Value.int IntKind.i64 0, Value.slice none 0 0]) = .ok () (W.setRow g #[Value.int IntKind.i64 0, Value.int IntKind.i64 0, Value.slice none 0 0]) := fun W g => hzz _ _ _ _ rfl (by simp [oneAll, Value.oneCell']) rfl
  rcases Bool.eq_false_or_eq_true (validB ep nd ms) with hv | hv
  · have hvp := validP_of hv
    have hep : IntKind.i64.wrap (ep + 1) = ep + 1 := by
      obtain ⟨-, -, -, -, -, -, e1, e2⟩ := hvp
      simp [IntKind.wrap, IntKind.bits, IntKind.signed]; omega
    rw [hv]
    have HV := Lib.hid hv
    clear hv hvp
    obtain ⟨B1, d1, w2, hrun, hR1, hf1, hB2⟩ := app_mem B d ls w1 22 (HR2.out.below hB) hm
    have hz1' : ∀ (W : World) (g : Nat), storeRowK Tryd.prog 24 3 g #[Value.int IntKind.i64 (ep + 1), Value.int IntKind.i64 need, Value.slice B1 ls.length d1] W (some #[Value.int IntKind.i64 0, Value.int IntKind.i64 0, Value.slice none 0 0]) = .ok () (W.setRow g #[Value.int IntKind.i64 (ep + 1), Value.int IntKind.i64 need, Value.slice B1 ls.length d1]) := fun W g => hzz _ _ _ _ rfl (by simp [oneAll, Value.oneCell']) rfl
    have hr02 := rk_b' hB2 hr0
    have hr12 := rk_b' hB2 hr1
    have x0 : w2.cell? ⟨w.heap.size, 0, none⟩ = some (.int .i64 ep) := by rw [row_cell hr02]; rfl
    have HRUN := Lib.hid hrun
    have HB := Lib.hid (hB.trans (hB2.mono hB.size))
    have hl02 := row_lt hr12
    have HR1 := Lib.hid hR1
    have HF1 := Lib.hid hf1
    clear hf1
    clear hrun hR1 hB hB2 hr0 hr1 hr02 hzz
    go_wp2_with ((with_reducible show wpList _ _ _ (⟨some 19, _, _, _, _, _⟩ :: _) _ _); go_must (refine Lib.wpList_append_run _ rfl (.tmp 17) (.tmp 18) 22 22 rfl _ _ rfl rfl _ _ HRUN.out ?_))
    refine (rvalid_any (ep + 1) need B1 d1 ls _ (HR1.out.below ((Below.refl _ _).alloc (Nat.le_refl _) _)) H5.out hm).mono ?_
    rintro e w3 ⟨rfl, hB3⟩
    have hz3 := hB3.size
    have hB3' : Below w2.heap.size w2 w3 := ((Below.refl _ _).alloc (Nat.le_refl _) _).trans (hB3.mono (by simp))
    have hr13 := rk_b' hB3' hr12
    have hr23 : row? w3 w2.heap.size = some #[Value.int IntKind.i64 (ep + 1), Value.int IntKind.i64 need, Value.slice B1 ls.length d1] := rk_b' hB3 (row_of (heap_alloc_new _ _))
    have HB3 := Lib.hid (HB.out.trans (hB3'.mono HB.out.size))
    have HR3 := Lib.hid (HR1.out.below hB3')
    have hne : w2.heap.size ≠ w.heap.size + 1 := by omega
    clear hB3 hB3' hr12 x0
    rcases Bool.eq_false_or_eq_true (validB (ep + 1) need ls) with hv2 | hv2
    · rw [hv2]
      have HV2 := Lib.hid hv2
      clear hv2
      go_wp2_with fail
      have hrf : row? (w3.setRow (w.heap.size + 1) #[Value.int IntKind.i64 (ep + 1), Value.int IntKind.i64 need, Value.slice B1 ls.length d1]) (w.heap.size + 1) = some #[Value.int IntKind.i64 (ep + 1), Value.int IntKind.i64 need, Value.slice B1 ls.length d1] := by rw [row_setRow, if_pos rfl, hr13]; rfl
      obtain ⟨tf, hhf⟩ := row_heap hrf
      refine bodyPost_ret (v := .tuple #[cusV (ep + 1) need B1 ls.length d1, .int .i64 0]) (results_cell_tmp_row rfl _ _ (w.heap.size + 1) tf _ (0, 0) _ _ rfl rfl hhf Tryd.underlying24 rfl (by kernel_rfl)) rfl ⟨below_setRow HB3.out (by omega) _, .inr ⟨by rw [replOk, HV.out, HV2.out]; rfl, B1, d1, rfl, ?_⟩⟩
      refine HR3.out.setRow _ _ ?_
      rcases HF1.out with h | ⟨ad, e, hb⟩
      · exact .inl h
      · exact .inr ⟨ad, e, by omega⟩
    · rw [hv2]
      have HV2 := Lib.hid hv2
      clear hv2
      go_wp2_with fail
      have hrf : row? (w3.setRow (w.heap.size + 1) #[Value.int IntKind.i64 0, Value.int IntKind.i64 0, Value.slice none 0 0]) (w.heap.size + 1) = some #[Value.int IntKind.i64 0, Value.int IntKind.i64 0, Value.slice none 0 0] := by rw [row_setRow, if_pos rfl, hr13]; rfl
      obtain ⟨tf, hhf⟩ := row_heap hrf
      refine bodyPost_ret (v := .tuple #[cusV 0 0 none 0 0, .int .i64 1]) (results_cell_tmp_row rfl _ _ (w.heap.size + 1) tf _ (0, 0) _ _ rfl rfl hhf Tryd.underlying24 rfl (by kernel_rfl)) rfl ⟨below_setRow HB3.out (by omega) _, .inl ⟨?_, rfl⟩⟩
      rw [replOk, HV.out, HV2.out]; rfl
  · rw [hv]
    have HV := Lib.hid hv
    have HB := Lib.hid hB
    clear hv hB
    go_wp2_with fail
    have hrf : row? (w1.setRow (w.heap.size + 1) #[Value.int IntKind.i64 0, Value.int IntKind.i64 0, Value.slice none 0 0]) (w.heap.size + 1) = some #[Value.int IntKind.i64 0, Value.int IntKind.i64 0, Value.slice none 0 0] := by rw [row_setRow, if_pos rfl, hr1]; rfl
    obtain ⟨tf, hhf⟩ := row_heap hrf
    refine bodyPost_ret (v := .tuple #[cusV 0 0 none 0 0, .int .i64 1]) (results_cell_tmp_row rfl _ _ (w.heap.size + 1) tf _ (0, 0) _ _ rfl rfl hhf Tryd.underlying24 rfl (by kernel_rfl)) rfl ⟨below_setRow HB.out (by omega) _, .inl ⟨?_, rfl⟩⟩
    rw [replOk, HV.out]; rfl
end Go.Proofs.YtbgijijecipjeaaDoor
