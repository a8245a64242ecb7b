/- Contract of custodylaw30.CustodianReplaced. -/
import Derived.Test.YtbgijijecipjeaaDoorSan
import Derived.Test.YtbgijijecipjeaaDoorFew
import Derived.BigQuiet
namespace Go.Proofs.YtbgijijecipjeaaDoor
open Go.RowKit Go.IntWalk Go.Proofs.YtbgijijecipjeaaDoorW.PrintWords

/-- A place found holds the member; a place not found means that it is not there. -/
theorem idxM_spec (m : Mem) : ∀ (ls : List Mem) (k : Nat), (m ∈ ls ∧ ∃ j, idxM m ls k = ((k + j : Nat) : Int) ∧ ls[j]? = some m) ∨ (m ∉ ls ∧ idxM m ls k = -1)
  | [], k => Or.inr ⟨by simp, rfl⟩
  | x :: r, k => by
    unfold idxM
    by_cases h : m = x
    · rw [if_pos h]
      exact Or.inl ⟨by rw [h]; exact List.mem_cons_self .., 0, by rw [Nat.add_zero], by rw [h]; rfl⟩
    · rw [if_neg h]
      rcases idxM_spec m r (k + 1) with ⟨h1, j, h2, h3⟩ | ⟨h1, h2⟩
      · exact Or.inl ⟨List.mem_cons_of_mem _ h1, j + 1, by rw [h2]; congr 1; omega, by simpa using h3⟩
      · exact Or.inr ⟨by simp [h, h1], h2⟩
theorem keptL_at (ms ls : List Mem) (i : Nat) (m : Mem) (h : ms[i]? = some m) : (nums .i64 (keptL ms ls))[i]? = some (.int .i64 (idxM m ls 0)) := by
  simp [nums, keptL, h]
/-- Members of valid custodians stand at one place alone. -/
theorem valid_inj {ep need : Int} {ms : List Mem} (hv : validP ep need ms) {i k : Nat} {m : Mem} (hi : ms[i]? = some m) (hk : ms[k]? = some m) : i = k := by
  have hnd := hv.2.1
  have h1 : (nameK ms)[i]? = some m.name.data.toList := by simp [nameK, hi]
  have h2 : (nameK ms)[k]? = some m.name.data.toList := by simp [nameK, hk]
  obtain ⟨l1, e1⟩ := List.getElem?_eq_some_iff.1 h1
  exact (List.getElem?_inj l1 hnd).1 (h1.trans h2.symm)
/-- Two places that are kept are different ones. -/
theorem idxM_ne {ep need : Int} {ms ls : List Mem} (hv : validP ep need ms) {i k : Nat} {m x : Mem} (hi : ms[i]? = some m) (hk : ms[k]? = some x) (hlt : k < i) (hm : m ∈ ls) : ¬ idxM x ls 0 = idxM m ls 0 := by
  intro h
  rcases idxM_spec m ls 0 with ⟨-, j, h2, h3⟩ | ⟨h1, -⟩
  · rcases idxM_spec x ls 0 with ⟨-, j', h4, h5⟩ | ⟨-, h5⟩
    · rw [h2, h4] at h
      obtain rfl : j' = j := by omega
      rw [h3] at h5
      obtain rfl : m = x := Option.some.inj h5
      have := valid_inj hv hi hk
      omega
    · rw [h2, h5] at h; omega
  · exact h1 hm

theorem valid_of_repl {ep nd need : Int} {ms ls : List Mem} (h : replOk ep nd need ms ls = true) : validP ep nd ms ∧ validB (ep + 1) need ls = true := by
  unfold replOk at h
  rw [Bool.and_eq_true] at h
  exact ⟨validP_of h.1, h.2⟩

set_option maxRecDepth 100000 in
set_option maxHeartbeats 8000000 in
theorem lawR_any (ep nd need : Int) (A B : Option Addr) (c d : Nat) (ms ls : List Mem) (w : World) (hr : ReadsMem w A ms.length ms) (hr2 : ReadsMem w B ls.length ls) (h4 : okMems ms) (h5 : okMems ls) (hn : ms.length ≤ 9223372036854775807) (hm : ls.length ≤ 9223372036854775807) (hT : TabK w) :
    Calls Tryd.prog 6 #[cusV ep nd A ms.length c, .int .i64 need, .slice B ls.length d] w fun e w' => e = .returned (.bool true) ∧ Below w.heap.size w w' := by
  have HR := Lib.hid hr
  have HR2 := Lib.hid hr2
  have H4 := Lib.hid h4
  have H5 := Lib.hid h5
  have HT := Lib.hid hT
  clear hr hr2 h4 h5 hT
  unfold cusV
  have hts : ∀ (W : World) (g n' d' : Nat) (x y : Int) (B' : Option Addr), storeRowK Tryd.prog 24 3 g #[Value.int IntKind.i64 x, Value.int IntKind.i64 y, Value.slice B' n' d'] W (some #[Value.int IntKind.i64 0, Value.int IntKind.i64 0, Value.slice none 0 0]) = .ok () (W.setRow g #[Value.int IntKind.i64 x, Value.int IntKind.i64 y, Value.slice B' n' d']) := fun W g n' d' x y B' => storeRowK_some _ _ _ _ _ _ _ rfl rfl (by simp [oneAll, Value.oneCell'])
  go_enter Tryd.func6, Tryd.ntmps6
  go_wp2_with fail
  obtain ⟨w0, hw0⟩ : ∃ w0, w0 = w.alloc (Obj.cells #[Value.int IntKind.i64 ep, Value.int IntKind.i64 nd, Value.slice A ms.length c] 24) := ⟨_, rfl⟩
  have hg0 : w0.heap[w.heap.size]? = some (.cells #[Value.int IntKind.i64 ep, Value.int IntKind.i64 nd, Value.slice A ms.length c] 24 (0, 0)) := by rw [hw0]; exact heap_alloc_new _ _
  have hB0 : Below w.heap.size w w0 := by rw [hw0]; exact (Below.refl _ _).alloc (Nat.le_refl _) _
  have hz0 : w0.heap.size = w.heap.size + 1 := by rw [hw0, szA]
  have hrx : row? w0 w.heap.size = some (cusRow ep nd A ms.length c) := row_of hg0
  rw [← hw0]
  clear hw0 hg0
  obtain ⟨p, hp⟩ : ∃ p, p = w.heap.size := ⟨_, rfl⟩
  rw [← hp] at hrx ⊢
  have HP := Lib.hid hp
  clear hp
  have HB0 := Lib.hid hB0
  refine (few_any ep nd A c ms w0 (HR.out.below hB0) (fun x hx => (H4.out x hx).1) hn).mono ?_
  rintro e w1 ⟨rfl, hB1⟩
  replace hrx := rk_b hB1 hrx
  have HB1 := Lib.hid (HB0.out.trans (hB1.mono HB0.out.size))
  clear hB0 hB1 HB0
  have HRX := Lib.hid hrx
  go_wp2_with fail
  refine (few_any 0 0 B d ls w1 (HR2.out.below HB1.out) (fun x hx => (H5.out x hx).1) hm).mono ?_
  rintro e w2 ⟨rfl, hB2⟩
  replace hrx := rk_b hB2 hrx
  have HB2 := Lib.hid (HB1.out.trans (hB2.mono HB1.out.size))
  have HT2 := Lib.hid (HT.out.below HB2.out)
  clear hB2 HB1 HRX
  by_cases hff : fewB ms = true ∧ fewB ls = true
  case neg =>
    cases hf1 : fewB ms <;> cases hf2 : fewB ls
    case true.true => exact absurd ⟨hf1, hf2⟩ hff
    all_goals
      clear hff hf1 hf2
      go_wp2_with fail
      refine (sanity_any w2 HT2.out).mono ?_
      rintro e w3 ⟨rfl, hB3⟩
      have HB3 := Lib.hid (HB2.out.trans (hB3.mono HB2.out.size))
      clear hB3
      go_wp2_with fail
      go_ret
      exact ⟨rfl, HB3.out⟩
  case pos =>
    obtain ⟨hf1, hf2⟩ := hff
    replace hn : ms.length ≤ 1099511627776 := Nat.le_trans (few_len hf1) (by decide)
    replace hm : ls.length ≤ 1099511627776 := Nat.le_trans (few_len hf2) (by decide)
    rw [hf1, hf2]
    clear hf1 hf2
    have HRX := Lib.hid hrx
    unfold cusRow at hrx
    go_wp2_with fail
    refine (repl_any ep nd need A B c d ms ls w2 (HR.out.below HB2.out) (HR2.out.below HB2.out) H4.out H5.out hn hm).mono ?_
    rintro e w3 ⟨hB3, hcase⟩
    have hrx := rk_b hB3 HRX.out
    have HB3 := Lib.hid (HB2.out.trans (hB3.mono HB2.out.size))
    have HT3 := Lib.hid (HT.out.below HB3.out)
    clear hB3 HRX HB2 HT2
    rcases hcase with ⟨-, rfl⟩ | ⟨hok, B', d', rfl, hrd, -⟩
    · unfold cusV
      have HRX := Lib.hid hrx
      go_upto_region 6 with fail
      obtain ⟨q, hq⟩ : ∃ q, q = w3.heap.size := ⟨_, rfl⟩
      obtain ⟨w4, hw4⟩ : ∃ w4, w4 = w3.alloc (.cells #[Value.int .i64 0, Value.int .i64 0, Value.slice none 0 0] 24) := ⟨_, rfl⟩
      have hB4 : Below w3.heap.size w3 w4 := by rw [hw4]; exact (Below.refl _ _).alloc (Nat.le_refl _) _
      have hrq : row? w4 q = some #[Value.int .i64 0, Value.int .i64 0, Value.slice none 0 0] := by rw [hw4, hq]; exact row_of (heap_alloc_new _ _)
      have hrq2 : w4.cell? ⟨q, 2, none⟩ = some (.slice none 0 0) := by rw [row_cell hrq]; rfl
      have HB4 := Lib.hid (HB3.out.trans (hB4.mono HB3.out.size))
      have HT4 := Lib.hid (HT.out.below HB4.out)
      rw [← hq, ← hw4]
      clear hq hw4 hB4 HT3 HB3
      go_wp2_with fail
      refine (sanity_any w4 HT4.out).mono ?_
      rintro e w5 ⟨rfl, hB5⟩
      replace hrq2 := cell_keep_b hB5 hrq2
      have HB5 := Lib.hid (HB4.out.trans (hB5.mono HB4.out.size))
      clear hB5 HB4 hrx hrq
      go_wp2_with fail
      go_ret
      exact ⟨rfl, HB5.out⟩
    · obtain ⟨hv, hv2⟩ := valid_of_repl hok
      have hwr : IntKind.i64.wrap (ep + 1) = ep + 1 := wrap_small _ (by have := hv.2.2.2.2.2.2; omega) (by have := hv.2.2.2.2.2.2; omega)
      unfold cusV
      have HRX := Lib.hid hrx
      go_upto_region 6 with fail
      obtain ⟨q, hq⟩ : ∃ q, q = w3.heap.size := ⟨_, rfl⟩
      obtain ⟨w4, hw4⟩ : ∃ w4, w4 = w3.alloc (.cells #[Value.int .i64 (ep + 1), Value.int .i64 need, Value.slice B' ls.length d'] 24) := ⟨_, rfl⟩
      have hB4 : Below w3.heap.size w3 w4 := by rw [hw4]; exact (Below.refl _ _).alloc (Nat.le_refl _) _
      have hrq : row? w4 q = some #[Value.int .i64 (ep + 1), Value.int .i64 need, Value.slice B' ls.length d'] := by rw [hw4, hq]; exact row_of (heap_alloc_new _ _)
      have HB4 := Lib.hid (HB3.out.trans (hB4.mono HB3.out.size))
      have HT4 := Lib.hid (HT.out.below HB4.out)
      have hrx4 := rk_b hB4 HRX.out
      have hrd4 := hrd.below hB4
      rw [← hq, ← hw4]
      clear hq hw4 hB4 HT3 HB3 HRX hrx hrd
      have HRX := Lib.hid hrx4
      have HRQ := Lib.hid hrq
      have HRD := Lib.hid hrd4
      unfold cusRow at hrx4
      clear hrd4
      go_wp2_with fail
      refine (kept_any ep nd (ep + 1) need A B' c d' ms ls w4 (HR.out.below HB4.out) HRD.out H4.out H5.out hn hm).mono ?_
      rintro e w5 ⟨kv, rfl, hown, hB5⟩
      obtain ⟨K, kc, rfl, hk⟩ := own_reads hown
      clear hown
      have hkl : (keptL ms ls).length = ms.length := by simp [keptL]
      rw [hkl] at hk ⊢
      have hx := rk_b hB5 HRX.out
      have hq := rk_b hB5 HRQ.out
      have HRD5 := Lib.hid (HRD.out.below hB5)
      have HB5 := Lib.hid (HB4.out.trans (hB5.mono HB4.out.size))
      have HT5 := Lib.hid (HT.out.below HB5.out)
      have HR5 := Lib.hid (HR.out.below HB5.out)
      have HS5 := Lib.hid (HR2.out.below HB5.out)
      have x0 : w5.cell? ⟨p, 0, none⟩ = some (.int .i64 ep) := by rw [row_cell hx]; rfl
      have x2 : w5.cell? ⟨p, 2, none⟩ = some (.slice A ms.length c) := by rw [row_cell hx]; rfl
      have q0 : w5.cell? ⟨q, 0, none⟩ = some (.int .i64 (ep + 1)) := by rw [row_cell hq]; rfl
      have q1 : w5.cell? ⟨q, 1, none⟩ = some (.int .i64 need) := by rw [row_cell hq]; rfl
      have q2 : w5.cell? ⟨q, 2, none⟩ = some (.slice B' ls.length d') := by rw [row_cell hq]; rfl
      have HK := Lib.hid hk
      have HV := Lib.hid hv
      have HV2 := Lib.hid hv2
      have HQ := Lib.hid hq
      clear hB5 HB4 HT4 HRX HRQ HRD hrx4 hrq hx hk hok hv hv2 hq hrx
      go_wp2_with fail
      go_loopw [12] (fun v12 wr => ∃ i : Nat, i ≤ ms.length ∧ v12 = .int .i64 i ∧ Below w5.heap.size w5 wr) (fun v12 _ => ms.length - (RowKit.intOf v12).toNat)
      case atStart => exact ⟨0, by omega, rfl, Below.refl _ _⟩
      case round =>
        obtain ⟨i, hi, rfl, hB⟩ := hrel
        have X2 := cell_keep_b hB x2
        have Q2 := cell_keep_b hB q2
        by_cases hlt : i < ms.length
        · have d1 : decide ((i : Int) < ms.length) = true := decide_eq_true (by omega)
          obtain ⟨m, hm'⟩ : ∃ m, ms[i]? = some m := ⟨_, List.getElem?_eq_getElem hlt⟩
          obtain ⟨hp16, ad, rfl, hcell⟩ := HR5.out.2 i m hm'
          have hmo := H4.out m (List.mem_of_getElem? hm')
          have i0 : (0 : Int) ≤ (i : Int) := by omega
          have i1 : (i : Int) < (ms.length : Int) := by omega
          have HM := Lib.hid hm'
          have HCL := Lib.hid hcell
          clear hm' hcell
          obtain ⟨wo, rfl⟩ : ∃ wo : World, wo = wr := ⟨_, rfl⟩
          go_wp2_with fail
          go_loopw [13, 14] (fun v13 v14 wr => ∃ k : Nat, k ≤ ls.length ∧ v14 = .int .i64 k ∧ v13 = .bool (decide (m ∈ ls.take k)) ∧ Below w5.heap.size w5 wr) (fun _ v14 _ => ls.length - (RowKit.intOf v14).toNat)
          case atStart => exact ⟨0, by omega, rfl, by simp, hB⟩
          case round =>
            obtain ⟨k, hk, rfl, rfl, hBk⟩ := hrel
            clear X2 Q2
            have X2 := cell_keep_b hBk x2
            have Q2 := cell_keep_b hBk q2
            have HBk := Lib.hid hBk
            by_cases hkt : k < ls.length
            · have dk : decide ((k : Int) < ls.length) = true := decide_eq_true (by omega)
              obtain ⟨x, hx⟩ : ∃ x, ls[k]? = some x := ⟨_, List.getElem?_eq_getElem hkt⟩
              obtain ⟨hx16, bd, rfl, hxc⟩ := HS5.out.2 k x hx
              have hxo := H5.out x (List.mem_of_getElem? hx)
              have k0 : (0 : Int) ≤ (k : Int) := by omega
              have k1 : (k : Int) < (ls.length : Int) := by omega
              have HTK := Lib.hid (take_succ_some ls k x hx)
              go_upto_region 18 with fail
              have hl1 : ∀ n, (loadRow 47 (.pointer (some (bd.add (k * 18))))).run Tryd.prog (wr.drewN n) = .ok (.agg (memRow x).toArray) (wr.drewN n) := fun n =>
                run_load_at (wr.drewN n) 47 (bd.add (k * 18)) (memRow x) _ (fun j v hv => by rw [← add_add']; exact cell_keep_b HBk.out (hxc _ v hv)) Tryd.underlying47 rfl (by rw [memRow_length x hx16]; kernel_rfl)
              have hl2 : ∀ n, (loadRow 47 (.pointer (some (ad.add (i * 18))))).run Tryd.prog (wr.drewN n) = .ok (.agg (memRow m).toArray) (wr.drewN n) := fun n =>
                run_load_at (wr.drewN n) 47 (ad.add (i * 18)) (memRow m) _ (fun j v hv => by rw [← add_add']; exact cell_keep_b HBk.out (HCL.out _ v hv)) Tryd.underlying47 rfl (by rw [memRow_length m hp16]; kernel_rfl)
              have hl3 : (loadRow 47 (.pointer (some (bd.add (k * 18))))).run Tryd.prog wr.drew = .ok (.agg (memRow x).toArray) wr.drew := hl1 1
              have hl4 : (loadRow 47 (.pointer (some (ad.add (i * 18))))).run Tryd.prog wr.drew = .ok (.agg (memRow m).toArray) wr.drew := hl2 1
              clear hBk hxc hx
              by_cases hin : m ∈ ls.take k
              · have hin2 : m ∈ ls.take (k + 1) := by rw [HTK.out]; exact List.mem_append_left _ hin
                rw [decide_eq_true hin]
                have HIN := Lib.hid hin2
                clear hin hin2
                go_quiet (fail)
                go_wp2_with fail
                go_roundw
                case rel => exact ⟨k + 1, by omega, by go_num, by rw [decide_eq_true HIN.out], by have hq := HBk.out; (repeat (first | (with_reducible assumption) | (with_reducible exact Below.refl _ _) | (with_reducible refine bl_alloc ?_ _) | (with_reducible refine bl_drew ?_) | (with_reducible refine bl_drewN ?_ _) | (with_reducible refine bl_then (by assumption) ?_)))⟩
                case measure => simp [RowKit.intOf]; omega
              · rw [decide_eq_false hin]
                obtain ⟨bb, hbb⟩ : ∃ bb, bb = decide (x = m) := ⟨_, rfl⟩
                have heq : ∀ W, (Op.equalIn 10000 47 (.agg (memRow x).toArray) (.agg (memRow m).toArray)).run Tryd.prog W = .ok bb W := fun W => by
                  rw [eq_mem x m W hx16 hp16 hxo.1 hmo.1 hxo.2 hmo.2, hbb]
                have hin2 : decide (m ∈ ls.take (k + 1)) = bb := by
                  rw [HTK.out, hbb]
                  simp only [List.mem_append, hin, List.mem_singleton, false_or, decide_eq_decide]
                  exact eq_comm
                have HIN := Lib.hid hin2
                clear hin hin2 hbb
                go_quiet (fail)
                go_wp2_with fail
                go_roundw
                case rel => exact ⟨k + 1, by omega, by go_num, by rw [HIN.out], by have hq := HBk.out; (repeat (first | (with_reducible assumption) | (with_reducible exact Below.refl _ _) | (with_reducible refine bl_alloc ?_ _) | (with_reducible refine bl_drew ?_) | (with_reducible refine bl_drewN ?_ _) | (with_reducible refine bl_then (by assumption) ?_)))⟩
                case measure => simp [RowKit.intOf]; omega
            · have dk : decide ((k : Int) < ls.length) = false := decide_eq_false (by omega)
              obtain rfl : k = ls.length := by omega
              rw [List.take_length]
              obtain ⟨ka, rfl, hkc⟩ := HK.out.2.2 (by omega)
              have hkv : wr.cell? (ka.add i) = some (.int .i64 (idxM m ls 0)) := cell_keep_b HBk.out (by rw [hkc i hlt]; simp [keptL, HM.out])
              clear hBk
              rcases idxM_spec m ls 0 with ⟨hin, j, hj, hjx⟩ | ⟨hin, hj⟩
              · rw [Nat.zero_add] at hj
                rw [hj] at hkv
                rw [decide_eq_true hin]
                have hjl : j < ls.length := (List.getElem?_eq_some_iff.1 hjx).1
                have g1 : ¬ ((ls.length : Int) ≤ (j : Int)) := by omega
                have g2 : (0 : Int) ≤ (j : Int) := by omega
                have g3 : (j : Int) < (ls.length : Int) := by omega
                have HIN := Lib.hid hin
                have HJ := Lib.hid hj
                have HJX := Lib.hid hjx
                clear hin hj hjx
                go_upto_region 21 with fail
                obtain ⟨-, ed, rfl, hec⟩ := HRD5.out.2 j m HJX.out
                have hl1 : ∀ n, (loadRow 47 (.pointer (some (ed.add (j * 18))))).run Tryd.prog (wr.drewN n) = .ok (.agg (memRow m).toArray) (wr.drewN n) := fun n =>
                  run_load_at (wr.drewN n) 47 (ed.add (j * 18)) (memRow m) _ (fun l v hv => by rw [← add_add']; exact cell_keep_b HBk.out (hec _ v hv)) Tryd.underlying47 rfl (by rw [memRow_length m hp16]; kernel_rfl)
                have hl2 : ∀ n, (loadRow 47 (.pointer (some (ad.add (i * 18))))).run Tryd.prog (wr.drewN n) = .ok (.agg (memRow m).toArray) (wr.drewN n) := fun n =>
                  run_load_at (wr.drewN n) 47 (ad.add (i * 18)) (memRow m) _ (fun l v hv => by rw [← add_add']; exact cell_keep_b HBk.out (HCL.out _ v hv)) Tryd.underlying47 rfl (by rw [memRow_length m hp16]; kernel_rfl)
                have hl3 : (loadRow 47 (.pointer (some (ed.add (j * 18))))).run Tryd.prog wr.drew = .ok (.agg (memRow m).toArray) wr.drew := hl1 1
                have hl4 : (loadRow 47 (.pointer (some (ad.add (i * 18))))).run Tryd.prog wr.drew = .ok (.agg (memRow m).toArray) wr.drew := hl2 1
                have heq : ∀ W, (Op.equalIn 10000 47 (.agg (memRow m).toArray) (.agg (memRow m).toArray)).run Tryd.prog W = .ok true W := fun W => by
                  rw [eq_mem m m W hp16 hp16 hmo.1 hmo.1 hmo.2 hmo.2, decide_eq_true rfl]
                clear hec
                go_quiet (fail)
                clear hl1 hl2 hl3 hl4 heq
                obtain ⟨wq, rfl⟩ : ∃ wq : World, wq = wr := ⟨_, rfl⟩
                go_wp2_with fail
                go_loopw [15] (fun v15 wx => ∃ k : Nat, k ≤ i ∧ v15 = .int .i64 k ∧ Below w5.heap.size w5 wx) (fun v15 _ => i - (RowKit.intOf v15).toNat)
                case atStart => exact ⟨0, by omega, rfl, by have hq := HBk.out; (repeat (first | (with_reducible assumption) | (with_reducible exact Below.refl _ _) | (with_reducible refine bl_alloc ?_ _) | (with_reducible refine bl_drew ?_) | (with_reducible refine bl_drewN ?_ _) | (with_reducible refine bl_then (by assumption) ?_)))⟩
                case round =>
                  obtain ⟨k, hk, rfl, hBx⟩ := hrel
                  have HBx := Lib.hid hBx
                  by_cases hki : k < i
                  · have dk : decide ((k : Int) < (i : Int)) = true := decide_eq_true (by omega)
                    obtain ⟨x, hx⟩ : ∃ x, ms[k]? = some x := ⟨_, List.getElem?_eq_getElem (by omega)⟩
                    obtain ⟨z, hz⟩ : ∃ z, z = idxM x ls 0 := ⟨_, rfl⟩
                    have hkk : wr.cell? (ka.add k) = some (.int .i64 z) := cell_keep_b hBx (by rw [hkc k (by omega), hz]; simp [keptL, hx])
                    have hki2 : wr.cell? (ka.add i) = some (.int .i64 (j : Int)) := cell_keep_b hBx (by rw [hkc i hlt, ← HJ.out]; simp [keptL, HM.out])
                    have hne : ¬ z = (j : Int) := by rw [hz, ← HJ.out]; exact idxM_ne HV.out HM.out hx hki HIN.out
                    have hne2 : (z == (j : Int)) = false := beq_eq_false_iff_ne.2 hne
                    have k0 : (0 : Int) ≤ (k : Int) := by omega
                    have k1 : (k : Int) < (ms.length : Int) := by omega
                    clear hx hz hBx
                    go_upto_region 26 with fail
                    go_quiet (fail)
                    go_wp2_with fail
                    go_roundw
                    case rel => exact ⟨k + 1, by omega, by go_num, by have hq := HBx.out; (repeat (first | (with_reducible assumption) | (with_reducible exact Below.refl _ _) | (with_reducible refine bl_alloc ?_ _) | (with_reducible refine bl_drew ?_) | (with_reducible refine bl_drewN ?_ _) | (with_reducible refine bl_then (by assumption) ?_)))⟩
                    case measure => simp [RowKit.intOf]; omega
                  · have dk : decide ((k : Int) < (i : Int)) = false := decide_eq_false (by omega)
                    go_wp2_with fail
                    go_roundw
                    case rel => exact ⟨i + 1, by omega, by go_num, HBx.out⟩
                    case measure => simp [RowKit.intOf]; omega
              · rw [hj] at hkv
                rw [decide_eq_false hin]
                have g1 : ¬ ((ls.length : Int) ≤ (-1 : Int)) := by omega
                clear hj
                go_upto_region 21 with fail
                go_quiet (fail)
                obtain ⟨wq, rfl⟩ : ∃ wq : World, wq = wr := ⟨_, rfl⟩
                go_wp2_with fail
                go_loopw [15] (fun v15 wx => ∃ k : Nat, k ≤ i ∧ v15 = .int .i64 k ∧ Below w5.heap.size w5 wx) (fun v15 _ => i - (RowKit.intOf v15).toNat)
                case atStart => exact ⟨0, by omega, rfl, by have hq := HBk.out; (repeat (first | (with_reducible assumption) | (with_reducible exact Below.refl _ _) | (with_reducible refine bl_alloc ?_ _) | (with_reducible refine bl_drew ?_) | (with_reducible refine bl_drewN ?_ _) | (with_reducible refine bl_then (by assumption) ?_)))⟩
                case round =>
                  obtain ⟨k, hk, rfl, hBx⟩ := hrel
                  have HBx := Lib.hid hBx
                  by_cases hki : k < i
                  · have dk : decide ((k : Int) < (i : Int)) = true := decide_eq_true (by omega)
                    go_upto_region 26 with fail
                    go_quiet (fail)
                    go_wp2_with fail
                    go_roundw
                    case rel => exact ⟨k + 1, by omega, by go_num, by have hq := HBx.out; (repeat (first | (with_reducible assumption) | (with_reducible exact Below.refl _ _) | (with_reducible refine bl_alloc ?_ _) | (with_reducible refine bl_drew ?_) | (with_reducible refine bl_drewN ?_ _) | (with_reducible refine bl_then (by assumption) ?_)))⟩
                    case measure => simp [RowKit.intOf]; omega
                  · have dk : decide ((k : Int) < (i : Int)) = false := decide_eq_false (by omega)
                    go_wp2_with fail
                    go_roundw
                    case rel => exact ⟨i + 1, by omega, by go_num, HBx.out⟩
                    case measure => simp [RowKit.intOf]; omega
        · have d1 : decide ((i : Int) < ms.length) = false := decide_eq_false (by omega)
          have HBn := Lib.hid hB
          have HTn := Lib.hid (HT5.out.below hB)
          have HRDn := Lib.hid (HRD5.out.below hB)
          have hrq := rk_b hB HQ.out
          clear hB
          have HRQ := Lib.hid hrq
          go_wp2_with fail
          refine (sanity_any wr HTn.out).mono ?_
          rintro e w6 ⟨rfl, hB6⟩
          clear hrq
          have hrq := rk_b hB6 HRQ.out
          have HB6 := Lib.hid (HBn.out.trans (hB6.mono HBn.out.size))
          have HRD6 := Lib.hid (HRD5.out.below HB6.out)
          have hv2 := HV2.out
          clear hB6 HBn HTn HRDn HRQ
          go_wp2_with fail
          refine (valid_any (ep + 1) need B' d' ls w6 HRD6.out H5.out hm).mono ?_
          rintro e w7 ⟨rfl, hB7⟩
          rw [hv2]
          have HB7 := Lib.hid (HB5.out.trans ((HB6.out.trans (hB7.mono HB6.out.size)).mono HB5.out.size))
          clear hB7
          go_wp2_with fail
          go_ret
          exact ⟨rfl, HB7.out⟩
end Go.Proofs.YtbgijijecipjeaaDoor
