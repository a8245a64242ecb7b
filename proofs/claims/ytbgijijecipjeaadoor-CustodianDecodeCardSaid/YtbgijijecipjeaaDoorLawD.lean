/- Contract of custodylaw30.CustodianDecode. -/
import Derived.Test.YtbgijijecipjeaaDoorSan
import Derived.Test.YtbgijijecipjeaaDoorRDec
import Derived.BigQuiet
namespace Go.Proofs.YtbgijijecipjeaaDoor
open Go.RowKit Go.IntWalk Go.Proofs.YtbgijijecipjeaaDoorW.PrintWords

theorem gMems_okM (b : List UInt8) (n : Nat) : ∀ acc off, (∀ x ∈ acc, x.name.size ≤ b.length ∧ in64 x.ht) → ∀ x ∈ (gMems b n acc off).1, x.name.size ≤ b.length ∧ in64 x.ht := by
  induction n with
  | zero => intro acc off h; exact h
  | succ n ih =>
    intro acc off h
    unfold gMems
    split
    · intro x hx; simp at hx
    · refine ih _ _ fun x hx => ?_
      rcases List.mem_append.1 hx with hx | hx
      · exact h x hx
      · rw [List.mem_singleton.1 hx]
        have := gMem_ok (b.drop off)
        rw [List.length_drop] at this
        exact ⟨by omega, this.2⟩
theorem gDec_okM (b : List UInt8) : (∀ x ∈ (gDec b).2.2.1, x.name.size ≤ b.length ∧ in64 x.ht) ∧ in64 (gDec b).1 ∧ in64 (gDec b).2.1 ∧ (gDec b).2.2.1.length ≤ 16 := by
  have h0 : (∀ x ∈ ([] : List Mem), x.name.size ≤ b.length ∧ in64 x.ht) ∧ in64 0 ∧ in64 0 ∧ ([] : List Mem).length ≤ 16 := ⟨fun x hx => by simp at hx, by unfold in64; omega, by unfold in64; omega, by simp⟩
  unfold gDec
  split
  · exact h0
  · split
    · exact h0
    · split
      · exact h0
      · split
        · exact h0
        · rename_i hv
          have hv2 : validB ((gInts b).1.getD 0 0) ((gInts b).1.getD 1 0) (gMems b ((gInts b).1.getD 2 0).toNat [] (gInts b).2.1).1 = true := by
            rcases Bool.eq_false_or_eq_true (validB ((gInts b).1.getD 0 0) ((gInts b).1.getD 1 0) (gMems b ((gInts b).1.getD 2 0).toNat [] (gInts b).2.1).1) with h | h
            · exact h
            · exact absurd (Or.inr h) hv
          have hp := validP_of hv2
          obtain ⟨-, -, -, a1, a2, a3, a4, a5⟩ := hp
          refine ⟨gMems_okM _ _ _ _ (fun x hx => by simp at hx), ?_, ?_, ?_⟩
          · unfold in64; dsimp only; omega
          · unfold in64; dsimp only; omega
          · dsimp only; omega
theorem memsLen_le (ms : List Mem) (k : Nat) (h : ∀ x ∈ ms, x.name.size ≤ k) : memsLen ms ≤ (k + 40) * ms.length := by
  induction ms with
  | nil => simp [memsLen]
  | cons x ms ih =>
    have e1 := h x (List.mem_cons_self ..)
    have e2 := ih fun y hy => h y (List.mem_cons_of_mem _ hy)
    simp only [memsLen, List.map_cons, List.sum_cons, List.length_cons, Nat.mul_succ] at e2 ⊢; omega

theorem memsLen_fewD {ms : List Mem} (h : fewB ms = true) : memsLen ms ≤ 1800 := by
  have h2 := few_len h
  unfold fewB at h; rw [Bool.and_eq_true, List.all_eq_true] at h
  have h1 : ∀ x ∈ ms, x.name.size ≤ 50 := fun x hx => of_decide_eq_true (h.1 x hx)
  have h3 : memsLen ms ≤ 90 * ms.length := by
    clear h h2
    induction ms with
    | nil => simp [memsLen]
    | cons x ms ih =>
      have e1 := h1 x (List.mem_cons_self ..)
      have e2 := ih fun y hy => h1 y (List.mem_cons_of_mem _ hy)
      simp [memsLen] at e2 ⊢; omega
  omega


set_option maxRecDepth 100000 in
set_option maxHeartbeats 8000000 in
theorem lawD_any (s : ByteArray) (ep nd : Int) (A : Option Addr) (c : Nat) (ms : List Mem) (w : World) (hs : s.size ≤ maxLen) (i1 : in64 ep) (i2 : in64 nd) (hr : ReadsMem w A ms.length ms) (h4 : okMems ms) (hn : ms.length ≤ 9223372036854775807) (hT : TabK w) :
    Calls Tryd.prog 7 #[.string s, cusV ep nd A ms.length c] w fun e w' => e = .returned (.bool true) ∧ Below w.heap.size w w' := by
  have HR := Lib.hid hr
  have H4 := Lib.hid h4
  have HT := Lib.hid hT
  clear hr h4 hT
  have hts : ∀ (W : World) (g n' d' : Nat) (x y : Int) (B' : Option Addr), storeRowK Tryd.prog 24 3 g #[Value.int IntKind.i64 x, Value.int IntKind.i64 y, Value.slice B' n' d'] W (some #[Value.int IntKind.i64 0, Value.int IntKind.i64 0, Value.slice none 0 0]) = .ok () (W.setRow g #[Value.int IntKind.i64 x, Value.int IntKind.i64 y, Value.slice B' n' d']) := fun W g n' d' x y B' => storeRowK_some _ _ _ _ _ _ _ rfl rfl (by simp [oneAll, Value.oneCell'])
  unfold cusV
  go_enter Tryd.func7, Tryd.ntmps7
  go_wp2_with fail
  obtain ⟨w0, hw0⟩ : ∃ w0, w0 = w.alloc (Obj.cells #[Value.int IntKind.i64 ep, Value.int IntKind.i64 nd, Value.slice A ms.length c] 24) := ⟨_, rfl⟩
  have hB0 : Below w.heap.size w w0 := by rw [hw0]; exact (Below.refl _ _).alloc (Nat.le_refl _) _
  have hrx : row? w0 w.heap.size = some (cusRow ep nd A ms.length c) := by rw [hw0]; exact row_of (heap_alloc_new _ _)
  rw [← hw0]
  clear hw0
  obtain ⟨p, hp⟩ : ∃ p, p = w.heap.size := ⟨_, rfl⟩
  rw [← hp] at hrx ⊢
  have HP := Lib.hid hp
  clear hp
  have HB0 := Lib.hid hB0
  refine (few_any ep nd A c ms w0 (HR.out.below hB0) (fun x hx => (H4.out x hx).1) hn).mono ?_
  rintro e w1 ⟨rfl, hB1⟩
  replace hrx := rk_b hB1 hrx
  have HB1 := Lib.hid (HB0.out.trans (hB1.mono HB0.out.size))
  have HT1 := Lib.hid (HT.out.below HB1.out)
  clear hB0 hB1 HB0
  by_cases hff : fewB ms = true ∧ s.size ≤ 1000
  case neg =>
    have HRX := Lib.hid hrx
    rcases (show fewB ms = false ∨ (fewB ms = true ∧ (1000 : Int) < s.size) by
      cases hf : fewB ms with
      | false => exact .inl rfl
      | true => exact .inr ⟨rfl, by have := Nat.lt_of_not_le (fun h => hff ⟨hf, h⟩); omega⟩) with hf | ⟨hf, hl⟩
    all_goals
      rw [hf]
      clear hff hf hrx
      go_wp2_with fail
      refine (sanity_any w1 HT1.out).mono ?_
      rintro e w3 ⟨rfl, hB3⟩
      have HB3 := Lib.hid (HB1.out.trans (hB3.mono HB1.out.size))
      clear hB3
      go_wp2_with fail
      go_ret
      exact ⟨rfl, HB3.out⟩
  case pos =>
    obtain ⟨hf1, hl⟩ := hff
    have hl2 : ¬ (1000 : Int) < s.size := by omega
    replace hn : ms.length ≤ 1099511627776 := Nat.le_trans (few_len hf1) (by decide)
    have hml := memsLen_fewD hf1
    have hnames : ∀ x ∈ ms, x.name.size ≤ 50 := by
      unfold fewB at hf1; rw [Bool.and_eq_true, List.all_eq_true] at hf1
      exact fun x hx => of_decide_eq_true (hf1.1 x hx)
    rw [hf1]
    clear hf1
    have hdec := fun W => decode_any s W (by omega)
    have hrdec := fun W => rdecode_any s W (by omega)
    have hok := gDec_okM s.data.toList
    have hinv := gDec_inv s.data.toList
    obtain ⟨⟨x, y, l, er⟩, hG⟩ : ∃ G, G = gDec s.data.toList := ⟨_, rfl⟩
    rw [← hG] at hdec hrdec hok hinv
    simp only [] at hdec hrdec hok hinv
    obtain ⟨hokl, j1, j2, hll⟩ := hok
    have hokl2 : okMems l := fun z hz => ⟨Nat.le_trans (hokl z hz).1 (by rw [data_length]; exact hs), (hokl z hz).2⟩
    have hmll : memsLen l ≤ 1040 * 16 := by
      have := memsLen_le l 1000 (fun z hz => by have := (hokl z hz).1; rw [data_length] at this; omega)
      have h16 : 1040 * l.length ≤ 1040 * 16 := Nat.mul_le_mul_left _ hll
      omega
    have hll2 : l.length ≤ 1099511627776 := by omega
    have hsm := fun (B1 B2 : Option Addr) (d1 d2 : Nat) W h1 h2 => same_any x y x y B1 B2 d1 d2 l l W h1 h2 hokl2 hokl2 hll2 hll2
    have hdt : decide (x = x ∧ y = y ∧ l = l) = true := decide_eq_true ⟨rfl, rfl, rfl⟩
    rw [hdt] at hsm
    have henc := fun (B1 : Option Addr) (d1 : Nat) W h => enc_any x y B1 d1 l W h j1 j2 (fun m hm => (hokl2 m hm).2) (by omega)
    have henc2 : er = 0 → (⟨(cusW x y l).toArray⟩ : ByteArray) = s := fun h => by rw [hinv h]
    have HDEC := Lib.hid hdec
    have HRDEC := Lib.hid hrdec
    have HSM := Lib.hid hsm
    have HENC := Lib.hid henc
    have HENC2 := Lib.hid henc2
    have HOKL := Lib.hid hokl2
    have HNAMES := Lib.hid hnames
    clear hG hdec hrdec hsm hdt henc henc2 hokl2 hinv hokl hnames
    unfold cusV at HDEC HRDEC HSM HENC
    have HRX := Lib.hid hrx
    unfold cusRow at hrx
    go_wp2_with fail
    refine (HDEC.out w1).mono ?_
    rintro e w2 ⟨hB2, B1, d1, rfl, hr1⟩
    replace hrx := rk_b hB2 HRX.out
    have HB2 := Lib.hid (HB1.out.trans (hB2.mono HB1.out.size))
    clear hB2 HRX HB1 HT1
    have HRX := Lib.hid hrx
    clear hrx
    go_upto_region 5 with fail
    obtain ⟨q, hq⟩ : ∃ q, q = w2.heap.size := ⟨_, rfl⟩
    obtain ⟨w3, hw3⟩ : ∃ w3, w3 = w2.alloc (.cells #[Value.int .i64 x, Value.int .i64 y, Value.slice B1 l.length d1] 24) := ⟨_, rfl⟩
    have hB3 : Below w2.heap.size w2 w3 := by rw [hw3]; exact (Below.refl _ _).alloc (Nat.le_refl _) _
    have hrq : row? w3 q = some #[Value.int .i64 x, Value.int .i64 y, Value.slice B1 l.length d1] := by rw [hw3, hq]; exact row_of (heap_alloc_new _ _)
    have hrx := rk_b hB3 HRX.out
    have hr1' := hr1.below hB3
    have HB3 := Lib.hid (HB2.out.trans (hB3.mono HB2.out.size))
    rw [← hq, ← hw3]
    clear hq hw3 hB3 hr1 HRX HB2
    have HRX := Lib.hid hrx
    have HRQ := Lib.hid hrq
    have HR1 := Lib.hid hr1'
    clear hrx hr1'
    go_wp2_with fail
    refine (HRDEC.out w3).mono ?_
    rintro e w4 ⟨hB4, B2, d2, rfl, hr2⟩
    replace hrq := rk_b hB4 HRQ.out
    have hrx := rk_b hB4 HRX.out
    have hr1 := HR1.out.below hB4
    have HB4 := Lib.hid (HB3.out.trans (hB4.mono HB3.out.size))
    clear hB4 HRQ HRX HR1 HB3
    go_upto_region 6 with fail
    obtain ⟨q2, hq2⟩ : ∃ q, q = w4.heap.size := ⟨_, rfl⟩
    obtain ⟨w5, hw5⟩ : ∃ w5, w5 = w4.alloc (.cells #[Value.int .i64 x, Value.int .i64 y, Value.slice B2 l.length d2] 24) := ⟨_, rfl⟩
    have hB5 : Below w4.heap.size w4 w5 := by rw [hw5]; exact (Below.refl _ _).alloc (Nat.le_refl _) _
    have hrq2 : row? w5 q2 = some #[Value.int .i64 x, Value.int .i64 y, Value.slice B2 l.length d2] := by rw [hw5, hq2]; exact row_of (heap_alloc_new _ _)
    replace hrq := rk_b hB5 hrq
    replace hrx := rk_b hB5 hrx
    replace hr1 := hr1.below hB5
    replace hr2 := hr2.below hB5
    have HB5 := Lib.hid (HB4.out.trans (hB5.mono HB4.out.size))
    rw [← hq2, ← hw5]
    have HR1 := Lib.hid hr1
    have HR2' := Lib.hid hr2
    have HRX := Lib.hid hrx
    have HRQ := Lib.hid hrq
    clear hq2 hw5 hB5 HB4 hr1 hr2
    have hBw5 : Below w.heap.size w w5 := HB5.out
    clear hBw5
    go_cut [50] (fun v50 wx => v50 = .bool false ∧ Below w.heap.size w wx ∧ row? wx p = some (cusRow ep nd A ms.length c))
    case first =>
      go_wp2_with fail
      refine (HSM.out B1 B2 d1 d2 w5 HR1.out HR2'.out).mono ?_
      rintro e w6 ⟨rfl, hB6⟩
      replace hrq := rk_b hB6 HRQ.out
      have hr1 := HR1.out.below hB6
      have HR16 := Lib.hid hr1
      have HB6 := Lib.hid (HB5.out.trans (hB6.mono HB5.out.size))
      replace hrx := rk_b hB6 HRX.out
      clear hB6 hrq2 HRQ HR1 HR2' HRX HB5 hr1
      have HRX := Lib.hid hrx
      by_cases her : er = 0
      · subst her
        have he := HENC2.out rfl
        have henc := HENC.out B1 d1 w6 HR16.out
        rw [he] at henc
        have HE := Lib.hid henc
        clear henc he
        go_wp2_with fail
        refine HE.out.mono ?_
        rintro e w7 ⟨rfl, hB7⟩
        have HB7 := Lib.hid (HB6.out.trans (hB7.mono HB6.out.size))
        have HRX7 := Lib.hid (rk_b hB7 HRX.out)
        clear hB7
        go_wp2_with fail
        go_meet
        exact ⟨rfl, HB7.out, HRX7.out⟩
      · have her2 : (er == 0) = false := by simpa using her
        clear her
        go_wp2_with fail
        go_meet
        exact ⟨rfl, HB6.out, HRX.out⟩
    case rest =>
      obtain ⟨rfl, hBw, hrx⟩ := hcut
      have hpub : ∀ m ∈ ms, m.pub.length = 16 := fun m hm => by
        obtain ⟨j, hj⟩ := List.getElem?_of_mem hm
        exact (HR.out.2 j m hj).1
      have hms := memsW_length_le ms hpub
      have hcl : (cusW ep nd ms).length ≤ 2000 := by
        have e1 := wInt_length_le ep
        have e2 := wInt_length_le nd
        have e3 := wInt_length_le (ms.length : Int)
        have e4 := wInt_length_le (((0 + 1 + 1 + 1 : Nat)) : Int)
        simp only [cusW, wInts, wMany, List.map_cons, List.map_nil, List.flatten_cons, List.flatten_nil, List.length_append, List.length_nil, List.length_cons]
        omega
      have hdc := fun W => decode_any ⟨(cusW ep nd ms).toArray⟩ W (by show (cusW ep nd ms).toArray.size ≤ _; rw [List.size_toArray]; omega)
      have hgd := gDec_cusW ep nd ms i1 i2 (fun m hm => ⟨hpub m hm, by have := HNAMES.out m hm; omega, (H4.out m hm).2⟩) hn
      have hgl : (⟨(cusW ep nd ms).toArray⟩ : ByteArray).data.toList = cusW ep nd ms := rfl
      rw [hgl, hgd] at hdc
      have HE := Lib.hid (enc_any ep nd A c ms wc (HR.out.below hBw) i1 i2 (fun m hm => (H4.out m hm).2) (by omega))
      have hva := fun W h => valid_any ep nd A c ms W h H4.out hn
      have hdt : decide (ep = ep ∧ nd = nd ∧ ms = ms) = true := decide_eq_true ⟨rfl, rfl, rfl⟩
      have hsm := fun (B2 : Option Addr) (d2 : Nat) W h1 h2 => same_any ep nd ep nd A B2 c d2 ms ms W h1 h2 H4.out H4.out hn hn
      rw [hdt] at hsm
      unfold cusV at HE hva hsm hdc
      have HV := Lib.hid hva
      have HSM2 := Lib.hid hsm
      clear hgd hgl hdt hsm hva hpub hms hcl HSM HENC HENC2 HDEC HRDEC HOKL
      unfold cusRow at hrx
      have HRX := Lib.hid hrx
      cases hvb : validB ep nd ms with
      | false =>
        rw [hvb] at hdc HV
        simp only [Bool.false_eq_true, if_false] at hdc
        have HD := Lib.hid hdc
        clear hdc hvb
        go_wp2_with fail
        refine HE.out.mono ?_
        rintro e w7 ⟨rfl, hB7⟩
        have HB7 := Lib.hid (hBw.trans (hB7.mono hBw.size))
        replace hrx := rk_b hB7 HRX.out
        clear hB7 HRX HE
        have HRX := Lib.hid hrx
        go_wp2_with fail
        refine (HD.out w7).mono ?_
        rintro e w8 ⟨hB8, B3, d3, rfl, hr3⟩
        replace hrx := rk_b hB8 HRX.out
        have HB8 := Lib.hid (HB7.out.trans (hB8.mono HB7.out.size))
        clear hB8 HRX HB7 HD hr3
        have HRX := Lib.hid hrx
        clear hrx
        go_upto_region 9 with fail
        obtain ⟨q3, hq3⟩ : ∃ q, q = w8.heap.size := ⟨_, rfl⟩
        obtain ⟨w9, hw9⟩ : ∃ w9, w9 = w8.alloc (.cells #[Value.int .i64 0, Value.int .i64 0, Value.slice B3 0 d3] 24) := ⟨_, rfl⟩
        have hB9 : Below w8.heap.size w8 w9 := by rw [hw9]; exact (Below.refl _ _).alloc (Nat.le_refl _) _
        rw [← hq3, ← hw9]
        replace hrx := rk_b hB9 HRX.out
        have HB9 := Lib.hid (HB8.out.trans (hB9.mono HB8.out.size))
        clear hq3 hw9 hB9 HB8 HRX
        have HRX := Lib.hid hrx
        go_wp2_with fail
        refine (HV.out w9 (HR.out.below HB9.out)).mono ?_
        rintro e w10 ⟨rfl, hB10⟩
        have HB10 := Lib.hid (HB9.out.trans (hB10.mono HB9.out.size))
        clear hB10
        go_wp2_with fail
        refine (sanity_any w10 (HT.out.below HB10.out)).mono ?_
        rintro e w11 ⟨rfl, hB11⟩
        have HB11 := Lib.hid (HB10.out.trans (hB11.mono HB10.out.size))
        clear hB11
        go_wp2_with fail
        go_ret
        exact ⟨rfl, HB11.out⟩
      | true =>
        rw [hvb] at hdc HV
        simp only [if_true] at hdc
        have HD := Lib.hid hdc
        clear hdc hvb
        go_wp2_with fail
        refine HE.out.mono ?_
        rintro e w7 ⟨rfl, hB7⟩
        have HB7 := Lib.hid (hBw.trans (hB7.mono hBw.size))
        replace hrx := rk_b hB7 HRX.out
        clear hB7 HRX HE
        have HRX := Lib.hid hrx
        go_wp2_with fail
        refine (HD.out w7).mono ?_
        rintro e w8 ⟨hB8, B3, d3, rfl, hr3⟩
        replace hrx := rk_b hB8 HRX.out
        have HB8 := Lib.hid (HB7.out.trans (hB8.mono HB7.out.size))
        clear hB8 HRX HB7 HD
        have HRX := Lib.hid hrx
        clear hrx
        go_upto_region 9 with fail
        obtain ⟨q3, hq3⟩ : ∃ q, q = w8.heap.size := ⟨_, rfl⟩
        obtain ⟨w9, hw9⟩ : ∃ w9, w9 = w8.alloc (.cells #[Value.int .i64 ep, Value.int .i64 nd, Value.slice B3 ms.length d3] 24) := ⟨_, rfl⟩
        have hB9 : Below w8.heap.size w8 w9 := by rw [hw9]; exact (Below.refl _ _).alloc (Nat.le_refl _) _
        have hrq3 : row? w9 q3 = some #[Value.int .i64 ep, Value.int .i64 nd, Value.slice B3 ms.length d3] := by rw [hw9, hq3]; exact row_of (heap_alloc_new _ _)
        rw [← hq3, ← hw9]
        replace hrx := rk_b hB9 HRX.out
        have HR3 := Lib.hid (hr3.below hB9)
        have HB9 := Lib.hid (HB8.out.trans (hB9.mono HB8.out.size))
        clear hq3 hw9 hB9 HB8 HRX hr3
        have HRX := Lib.hid hrx
        have HRQ3 := Lib.hid hrq3
        go_wp2_with fail
        refine (HV.out w9 (HR.out.below HB9.out)).mono ?_
        rintro e w10 ⟨rfl, hB10⟩
        have HRX10 := Lib.hid (rk_b hB10 HRX.out)
        have HRQ10 := Lib.hid (rk_b hB10 HRQ3.out)
        have HR10 := Lib.hid (HR3.out.below hB10)
        have HB10 := Lib.hid (HB9.out.trans (hB10.mono HB9.out.size))
        clear hB10 hrq3 hrx
        go_wp2_with fail
        refine (sanity_any w10 (HT.out.below HB10.out)).mono ?_
        rintro e w11 ⟨rfl, hB11⟩
        have hrx := rk_b hB11 HRX10.out
        have hrq3 := rk_b hB11 HRQ10.out
        have HR11 := Lib.hid (HR10.out.below hB11)
        have HB11 := Lib.hid (HB10.out.trans (hB11.mono HB10.out.size))
        clear hB11
        go_wp2_with fail
        refine (HSM2.out B3 d3 w11 (HR.out.below HB11.out) HR11.out).mono ?_
        rintro e w12 ⟨rfl, hB12⟩
        have HB12 := Lib.hid (HB11.out.trans (hB12.mono HB11.out.size))
        clear hB12
        go_wp2_with fail
        go_ret
        exact ⟨rfl, HB12.out⟩
end Go.Proofs.YtbgijijecipjeaaDoor
