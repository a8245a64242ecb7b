/- Contract of custodylaw30.CustodianMatchesSpec. -/
import Derived.Test.YtbgijijecipjeaaDoorSan
import Derived.Test.YtbgijijecipjeaaDoorRCus
import Derived.Test.YtbgijijecipjeaaDoorDig
namespace Go.Proofs.YtbgijijecipjeaaDoor
open Go.RowKit Go.IntWalk Go.Proofs.YtbgijijecipjeaaDoorW.PrintWords

/-- What replacing gives. -/
noncomputable def replF (ep nd need : Int) (ms ls : List Mem) : Int × Int × Int × List Mem := if replOk ep nd need ms ls = true then (ep + 1, need, 0, ls) else (0, 0, 1, [])
def ReplPost (x y er : Int) (l : List Mem) (w : World) (e : Ending) (w' : World) : Prop := Below w.heap.size w w' ∧ ∃ B d, e = .returned (.tuple #[cusV x y B l.length d, .int .i64 er]) ∧ ReadsMem w' B l.length l
theorem repl2_any (ep nd need : Int) (A B : Option Addr) (c d : Nat) (ms ls : List Mem) (w : World) (hr : ReadsMem w A ms.length ms) (hr2 : ReadsMem w B ls.length ls) (h4 : okMems ms) (h5 : okMems ls) (hn : ms.length ≤ 1099511627776) (hm : ls.length ≤ 1099511627776) :
    Calls Tryd.prog 10 #[cusV ep nd A ms.length c, .int .i64 need, .slice B ls.length d] w (ReplPost (replF ep nd need ms ls).1 (replF ep nd need ms ls).2.1 (replF ep nd need ms ls).2.2.1 (replF ep nd need ms ls).2.2.2 w) := by
  refine (repl_any ep nd need A B c d ms ls w hr hr2 h4 h5 hn hm).mono fun e w' h => ?_
  obtain ⟨hb, h⟩ := h
  unfold replF ReplPost
  rcases h with ⟨hk, rfl⟩ | ⟨hk, B', d', rfl, hr, -⟩
  · rw [hk]; exact ⟨hb, none, 0, rfl, ⟨rfl, fun j m hm => by simp at hm⟩⟩
  · rw [hk]; exact ⟨hb, B', d', rfl, hr⟩
theorem rrepl2_any (ep nd need : Int) (A B : Option Addr) (c d : Nat) (ms ls : List Mem) (w : World) (hr : ReadsMem w A ms.length ms) (hr2 : ReadsMem w B ls.length ls) (h4 : okMems ms) (h5 : okMems ls) (hn : ms.length ≤ 1099511627776) (hm : ls.length ≤ 1099511627776) :
    Calls Tryd.prog 11 #[cusV ep nd A ms.length c, .int .i64 need, .slice B ls.length d] w (ReplPost (replF ep nd need ms ls).1 (replF ep nd need ms ls).2.1 (replF ep nd need ms ls).2.2.1 (replF ep nd need ms ls).2.2.2 w) := by
  refine (rrepl_any ep nd need A B c d ms ls w hr hr2 h4 h5 hn hm).mono fun e w' h => ?_
  obtain ⟨hb, h⟩ := h
  unfold replF ReplPost
  rcases h with ⟨hk, rfl⟩ | ⟨hk, B', d', rfl, hr⟩
  · rw [hk]; exact ⟨hb, none, 0, rfl, ⟨rfl, fun j m hm => by simp at hm⟩⟩
  · rw [hk]; exact ⟨hb, B', d', rfl, hr⟩
theorem replF_ok (ep nd need : Int) (ms ls : List Mem) (h : okMems ls) (hm : ls.length ≤ 1099511627776) : okMems (replF ep nd need ms ls).2.2.2 ∧ (replF ep nd need ms ls).2.2.2.length ≤ 1099511627776 := by
  unfold replF; split
  · exact ⟨h, hm⟩
  · exact ⟨fun x hx => by simp at hx, by simp⟩
theorem memsLen_few {ms : List Mem} (h : fewB ms = true) : memsLen ms ≤ 1800 := by
  have h2 := few_len h
  unfold fewB at h; rw [Bool.and_eq_true, List.all_eq_true] at h
  have h1 : ∀ x ∈ ms, x.name.size ≤ 50 := fun x hx => of_decide_eq_true (h.1 x hx)
  have h3 : memsLen ms ≤ 90 * ms.length := by
    clear h h2
    induction ms with
    | nil => simp [memsLen]
    | cons x ms ih =>
      have e1 := h1 x (List.mem_cons_self ..)
      have e2 := ih fun y hy => h1 y (List.mem_cons_of_mem _ hy)
      simp [memsLen] at e2 ⊢; omega
  omega

/-- What holds all through the statement's last line. -/
def SM (p q q2 : Nat) (R1 R2 R3 R4 : Array Value) (w6 w' : World) : Prop := (row? w' p = some R1 ∧ row? w' (p + 1) = some R2 ∧ row? w' q = some R3 ∧ row? w' q2 = some R4) ∧ Hid (Below w6.heap.size w6 w')
theorem SM.keep {p q q2 : Nat} {R1 R2 R3 R4 : Array Value} {w6 W w1 : World} (h : SM p q q2 R1 R2 R3 R4 w6 W) (hb : Below W.heap.size W w1) : SM p q q2 R1 R2 R3 R4 w6 w1 :=
  ⟨⟨rk_b hb h.1.1, rk_b hb h.1.2.1, rk_b hb h.1.2.2.1, rk_b hb h.1.2.2.2⟩, Lib.hid (h.2.out.trans (hb.mono h.2.out.size))⟩
set_option maxRecDepth 100000 in
set_option maxHeartbeats 8000000 in
theorem lawM_any (ep nd need ep' nd' : Int) (A B : Option Addr) (c d : Nat) (ms ls : List Mem) (w : World) (i1 : in64 ep) (i2 : in64 nd) (hr : ReadsMem w A ms.length ms) (hr2 : ReadsMem w B ls.length ls) (h4 : okMems ms) (h5 : okMems ls) (hn : ms.length ≤ 9223372036854775807) (hm : ls.length ≤ 9223372036854775807) (hT : TabK w) (hTR : TabR w) :
    Calls Tryd.prog 3 #[cusV ep nd A ms.length c, .int .i64 need, cusV ep' nd' B ls.length d] w fun e w' => e = .returned (.bool true) ∧ Below w.heap.size w w' := by
  have HR := Lib.hid hr
  have HR2 := Lib.hid hr2
  have H4 := Lib.hid h4
  have H5 := Lib.hid h5
  have HT := Lib.hid hT
  have HTR := Lib.hid hTR
  clear hr hr2 h4 h5 hT hTR
  unfold cusV
  have hts : ∀ (W : World) (g n' d' : Nat) (x y : Int) (B' : Option Addr), storeRowK Tryd.prog 24 3 g #[Value.int IntKind.i64 x, Value.int IntKind.i64 y, Value.slice B' n' d'] W (some #[Value.int IntKind.i64 0, Value.int IntKind.i64 0, Value.slice none 0 0]) = .ok () (W.setRow g #[Value.int IntKind.i64 x, Value.int IntKind.i64 y, Value.slice B' n' d']) := fun W g n' d' x y B' => storeRowK_some _ _ _ _ _ _ _ rfl rfl (by simp [oneAll, Value.oneCell'])
  go_enter Tryd.func3, Tryd.ntmps3
  go_wp2_with fail
  obtain ⟨w0, hw0⟩ : ∃ w0, w0 = (w.alloc (Obj.cells #[Value.int IntKind.i64 ep, Value.int IntKind.i64 nd, Value.slice A ms.length c] 24)).alloc (Obj.cells #[Value.int IntKind.i64 ep', Value.int IntKind.i64 nd', Value.slice B ls.length d] 24) := ⟨_, rfl⟩
  have hB0 : Below w.heap.size w w0 := by rw [hw0]; exact ((Below.refl _ _).alloc (Nat.le_refl _) _).alloc (by simp) _
  have hz0 : w0.heap.size = w.heap.size + 2 := by rw [hw0]; simp
  have hrx : row? w0 w.heap.size = some (cusRow ep nd A ms.length c) := by rw [hw0]; exact row_of (heap_alloc2_old _ _ _)
  have hry : row? w0 (w.heap.size + 1) = some (cusRow ep' nd' B ls.length d) := by rw [hw0]; exact row_of (heap_alloc2_new _ _ _)
  rw [← hw0]
  clear hw0
  obtain ⟨p, hp⟩ : ∃ p, p = w.heap.size := ⟨_, rfl⟩
  rw [← hp] at hrx hry ⊢
  have HP := Lib.hid hp
  clear hp
  have HB0 := Lib.hid hB0
  refine (few_any ep nd A c ms w0 (HR.out.below hB0) (fun x hx => (H4.out x hx).1) hn).mono ?_
  rintro e w1 ⟨rfl, hB1⟩
  replace hrx := rk_b hB1 hrx
  replace hry := rk_b hB1 hry
  have HB1 := Lib.hid (HB0.out.trans (hB1.mono HB0.out.size))
  clear hB0 hB1 HB0
  have HRX := Lib.hid hrx
  have HRY := Lib.hid hry
  unfold cusRow at hry
  go_wp2_with fail
  refine (few_any ep' nd' B d ls w1 (HR2.out.below HB1.out) (fun x hx => (H5.out x hx).1) hm).mono ?_
  rintro e w2 ⟨rfl, hB2⟩
  replace hrx := rk_b hB2 HRX.out
  replace hry := rk_b hB2 HRY.out
  have HB2 := Lib.hid (HB1.out.trans (hB2.mono HB1.out.size))
  have HT2 := Lib.hid (HT.out.below HB2.out)
  clear hB2 HB1 HRX HRY
  by_cases hff : fewB ms = true ∧ fewB ls = true
  case neg =>
    cases hf1 : fewB ms <;> cases hf2 : fewB ls
    case true.true => exact absurd ⟨hf1, hf2⟩ hff
    all_goals
      clear hff hf1 hf2
      go_wp2_with fail
      refine (sanity_any w2 HT2.out).mono ?_
      rintro e w3 ⟨rfl, hB3⟩
      have HB3 := Lib.hid (HB2.out.trans (hB3.mono HB2.out.size))
      clear hB3
      go_wp2_with fail
      go_ret
      exact ⟨rfl, HB3.out⟩
  case pos =>
    obtain ⟨hf1, hf2⟩ := hff
    replace hn : ms.length ≤ 1099511627776 := Nat.le_trans (few_len hf1) (by decide)
    replace hm : ls.length ≤ 1099511627776 := Nat.le_trans (few_len hf2) (by decide)
    have hml := memsLen_few hf1
    rw [hf1, hf2]
    clear hf1 hf2
    have HRX := Lib.hid hrx
    have HRY := Lib.hid hry
    have y2 : w2.cell? ⟨p + 1, 2, none⟩ = some (.slice B ls.length d) := by rw [row_cell hry]; rfl
    unfold cusRow at hrx
    obtain ⟨hokl, hll⟩ := replF_ok ep nd need ms ls H5.out hm
    have hrp := fun W h1 h2 => repl2_any ep nd need A B c d ms ls W h1 h2 H4.out H5.out hn hm
    have hrq := fun W h1 h2 => rrepl2_any ep nd need A B c d ms ls W h1 h2 H4.out H5.out hn hm
    obtain ⟨⟨x, y, er, l⟩, hF⟩ : ∃ F, F = replF ep nd need ms ls := ⟨_, rfl⟩
    rw [← hF] at hokl hll hrp hrq
    simp only [] at hokl hll hrp hrq
    have HRP := Lib.hid hrp
    have HRQ := Lib.hid hrq
    have HOKL := Lib.hid hokl
    clear hF hrp hrq hokl
    go_wp2_with fail
    refine (HRP.out w2 (HR.out.below HB2.out) (HR2.out.below HB2.out)).mono ?_
    rintro e w3 ⟨hB3, B1, d1, rfl, hr1⟩
    have hz3 := hB3.size
    replace hrx := rk_b hB3 HRX.out
    have hry := rk_b hB3 HRY.out
    have HB3 := Lib.hid (HB2.out.trans (hB3.mono HB2.out.size))
    clear hB3 HRX HRY HB2 HT2 y2
    unfold cusV
    go_upto_region 6 with fail
    obtain ⟨q, hq⟩ : ∃ q, q = w3.heap.size := ⟨_, rfl⟩
    obtain ⟨w4, hw4⟩ : ∃ w4, w4 = w3.alloc (.cells #[Value.int .i64 x, Value.int .i64 y, Value.slice B1 l.length d1] 24) := ⟨_, rfl⟩
    have hB4 : Below w3.heap.size w3 w4 := by rw [hw4]; exact (Below.refl _ _).alloc (Nat.le_refl _) _
    have hrq : row? w4 q = some #[Value.int .i64 x, Value.int .i64 y, Value.slice B1 l.length d1] := by rw [hw4, hq]; exact row_of (heap_alloc_new _ _)
    replace hrx := rk_b hB4 hrx
    replace hry := rk_b hB4 hry
    replace hr1 := hr1.below hB4
    have HB4 := Lib.hid (HB3.out.trans (hB4.mono HB3.out.size))
    have y2 : w4.cell? ⟨p + 1, 2, none⟩ = some (.slice B ls.length d) := by rw [row_cell hry]; rfl
    have HRX := Lib.hid hrx
    have HRY := Lib.hid hry
    have HRQ2 := Lib.hid hrq
    have HR1 := Lib.hid hr1
    unfold cusRow at hrx
    rw [← hq, ← hw4]
    clear hq hw4 hB4 HB3 hry hr1 hrq
    go_wp2_with fail
    refine (HRQ.out w4 (HR.out.below HB4.out) (HR2.out.below HB4.out)).mono ?_
    rintro e w5 ⟨hB5, B2, d2, rfl, hr2⟩
    have hz5 := hB5.size
    have hrx := rk_b hB5 HRX.out
    have hry := rk_b hB5 HRY.out
    have hrq := rk_b hB5 HRQ2.out
    have hr1 := HR1.out.below hB5
    have HB5 := Lib.hid (HB4.out.trans (hB5.mono HB4.out.size))
    clear hB5 HRX HRY HB4 y2 HRQ2 HR1
    unfold cusV
    go_upto_region 7 with fail
    obtain ⟨q2, hq2⟩ : ∃ q, q = w5.heap.size := ⟨_, rfl⟩
    obtain ⟨w6, hw6⟩ : ∃ w6, w6 = w5.alloc (.cells #[Value.int .i64 x, Value.int .i64 y, Value.slice B2 l.length d2] 24) := ⟨_, rfl⟩
    have hB6 : Below w5.heap.size w5 w6 := by rw [hw6]; exact (Below.refl _ _).alloc (Nat.le_refl _) _
    have hrq2 : row? w6 q2 = some #[Value.int .i64 x, Value.int .i64 y, Value.slice B2 l.length d2] := by rw [hw6, hq2]; exact row_of (heap_alloc_new _ _)
    replace hrx := rk_b hB6 hrx
    replace hry := rk_b hB6 hry
    replace hrq := rk_b hB6 hrq
    replace hr1 := hr1.below hB6
    replace hr2 := hr2.below hB6
    have HB6 := Lib.hid (HB5.out.trans (hB6.mono HB5.out.size))
    have HR1 := Lib.hid hr1
    have HR2' := Lib.hid hr2
    unfold cusRow at hrx hry
    rw [← hq2, ← hw6]
    have hs3 : (#[Value.int .i64 x, Value.int .i64 y, Value.slice B2 l.length d2] : Array Value).size = 3 := rfl
    clear hq2 hw6 hB6 HB5 hr1 hr2 hs3
    obtain ⟨ec, hec⟩ : ∃ ec, ec = cusW ep nd ms := ⟨_, rfl⟩
    obtain ⟨D, hD⟩ : ∃ D, D = hOf 12 [cusW ep nd ms] := ⟨_, rfl⟩
    have hDl : D.length = 16 := by rw [hD]; exact hOf_length _ _
    have heq : ∀ W, (Op.equalIn 10000 36 (.agg (Lib.byteCells D).toArray) (.agg (Lib.byteCells D).toArray)).run Tryd.prog W = .ok true W := fun W => by
      rw [eq_dig D D W hDl hDl, decide_eq_true rfl]
    have hv1 := fun W h => valid_any ep nd A c ms W h H4.out hn
    have hv2 := fun W h => rvalid_any ep nd A c ms W h H4.out hn
    obtain ⟨vb, hvb⟩ : ∃ b, b = validB ep nd ms := ⟨_, rfl⟩
    rw [← hvb] at hv1 hv2
    have hsm := fun W h1 h2 => same_any x y x y B1 B2 d1 d2 l l W h1 h2 HOKL.out HOKL.out hll hll
    have hdt : decide (x = x ∧ y = y ∧ l = l) = true := decide_eq_true ⟨rfl, rfl, rfl⟩
    rw [hdt] at hsm
    have hk1 := fun W h1 h2 => kept_any ep nd ep' nd' A B c d ms ls W h1 h2 H4.out H5.out hn hm
    have hk2 := fun W h1 h2 => rkept_any ep nd ep' nd' A B c d ms ls W h1 h2 H4.out H5.out hn hm
    obtain ⟨kl, hkl⟩ : ∃ kl, kl = keptL ms ls := ⟨_, rfl⟩
    have hkll : kl.length ≤ 1099511627776 := by rw [hkl]; simp [keptL]; omega
    rw [← hkl] at hk1 hk2
    have hsi := fun (A' B' : Option Addr) (c' d' : Nat) W h1 h2 => sameInts_any A' B' c' d' kl kl W h1 h2 hkll hkll
    have hdk : decide (kl = kl) = true := decide_eq_true rfl
    rw [hdk] at hsi
    have he1 := fun W h => enc_any ep nd A c ms W h i1 i2 (fun m hm => (H4.out m hm).2) (by omega)
    have he2 := fun W h => renc_any ep nd A c ms W h i1 i2 (fun m hm => (H4.out m hm).2) (by omega)
    rw [← hec] at he1 he2
    have hg1 := fun W hT h => dig_any ep nd A c ms W hT h i1 i2 (fun m hm => (H4.out m hm).2) (by omega)
    have hg2 := fun W hT h => rdig_any ep nd A c ms W hT h i1 i2 (fun m hm => (H4.out m hm).2) (by omega)
    rw [← hD] at hg1 hg2
    have HALL := Lib.hid (And.intro hv1 (And.intro hv2 (And.intro hsm (And.intro hk1 (And.intro hk2 (And.intro hsi (And.intro he1 (And.intro he2 (And.intro hg1 hg2)))))))))
    unfold cusV at HALL
    clear hv1 hv2 hsm hk1 hk2 hsi he1 he2 hg1 hg2 hvb hkl hec hD hdt hdk
    refine wp_region_held_drew (S := SM p q q2 #[Value.int .i64 ep, Value.int .i64 nd, Value.slice A ms.length c] #[Value.int .i64 ep', Value.int .i64 nd', Value.slice B ls.length d] #[Value.int .i64 x, Value.int .i64 y, Value.slice B1 l.length d1] #[Value.int .i64 x, Value.int .i64 y, Value.slice B2 l.length d2] w6) (by kernel_rfl) ⟨⟨hrx, hry, hrq, hrq2⟩, Lib.hid ((Below.refl _ _).drew)⟩ (fun hHeld => ?_)
    have hBC : ∀ W, Below w6.heap.size w6 W → Below w.heap.size w W := fun W h => HB6.out.trans (h.mono HB6.out.size)
    clear hrx hry hrq hrq2
    refine wpAnyH_only (i := 0) rfl (by kernel_rfl) (fun K hK => ?_)
    go_simp
    refine (sanity_any w6.drew (HT.out.below (hBC _ hHeld.2.out))).mono ?_
    rintro e w7 ⟨rfl, hB7⟩
    go_wp2_with fail
    refine hK.out _ _ (hHeld.keep hB7) (fun hHeld => ?_)
    clear hK K
    (try simp only [Act.put, List.setIfInBounds_toArray, List.set_cons_zero, List.set_cons_succ])
    refine wpAnyH_takeL (i := 1) (v := ?vT218_1) rfl (by kernel_rfl) (by kernel_rfl) (by kernel_rfl) (fun _ _ _ h => h) rfl hHeld ?hyT218_1 ?restT218_1
    case hyT218_1 => (intro wz hz; (try dsimp only at hz); go_simp; (first | done | (with_reducible rfl)))
    (try simp only [Act.put, List.setIfInBounds_toArray, List.set_cons_zero, List.set_cons_succ])
    refine wpAnyH_takeL (i := 2) (v := ?vT219_2) rfl (by kernel_rfl) (by kernel_rfl) (by kernel_rfl) (fun _ _ _ h => h) rfl hHeld ?hyT219_2 ?restT219_2
    case hyT219_2 => (intro wz hz; (try dsimp only at hz); obtain ⟨⟨hz1, hz2, hz3, hz4⟩, -⟩ := hz; go_simp; (first | done | (with_reducible rfl)))
    (try simp only [Act.put, List.setIfInBounds_toArray, List.set_cons_zero, List.set_cons_succ])
    refine wpAnyH_takeL (i := 4) (v := ?vT219_4) rfl (by kernel_rfl) (by kernel_rfl) (by kernel_rfl) (fun _ _ _ h => h) rfl hHeld ?hyT219_4 ?restT219_4
    case hyT219_4 => (intro wz hz; (try dsimp only at hz); obtain ⟨⟨hz1, hz2, hz3, hz4⟩, -⟩ := hz; go_simp; (first | done | (with_reducible rfl)))
    (try simp only [Act.put, List.setIfInBounds_toArray, List.set_cons_zero, List.set_cons_succ])
    refine wpAnyH_only (i := 3) rfl (by kernel_rfl) (fun K hK => ?_)
    go_simp
    refine (HALL.out.1 w7 (HR.out.below (hBC _ hHeld.2.out))).mono ?_
    rintro e w8 ⟨rfl, hB8⟩
    go_wp2_with fail
    refine hK.out _ _ (hHeld.keep hB8) (fun hHeld => ?_)
    clear hK K
    (try simp only [Act.put, List.setIfInBounds_toArray, List.set_cons_zero, List.set_cons_succ])
    refine wpAnyH_only (i := 5) rfl (by kernel_rfl) (fun K hK => ?_)
    go_simp
    refine (HALL.out.2.1 w8 (HR.out.below (hBC _ hHeld.2.out))).mono ?_
    rintro e w9 ⟨rfl, hB9⟩
    go_wp2_with fail
    refine hK.out _ _ (hHeld.keep hB9) (fun hHeld => ?_)
    clear hK K
    (try simp only [Act.put, List.setIfInBounds_toArray, List.set_cons_zero, List.set_cons_succ])
    refine wpAnyH_takeL (i := 6) (v := ?vT228_6) rfl (by kernel_rfl) (by kernel_rfl) (by kernel_rfl) (fun _ _ _ h => h) rfl hHeld ?hyT228_6 ?restT228_6
    case hyT228_6 => (intro wz hz; (try dsimp only at hz); go_simp; (first | done | (with_reducible rfl)))
    (try simp only [Act.put, List.setIfInBounds_toArray, List.set_cons_zero, List.set_cons_succ])
    refine wpAnyH_takeL (i := 7) (v := ?vT228_7) rfl (by kernel_rfl) (by kernel_rfl) (by kernel_rfl) (fun _ _ _ h => h) rfl hHeld ?hyT228_7 ?restT228_7
    case hyT228_7 => (intro wz hz; (try dsimp only at hz); go_simp; (first | done | (with_reducible rfl)))
    (try simp only [Act.put, List.setIfInBounds_toArray, List.set_cons_zero, List.set_cons_succ])
    refine wpAnyH_takeL (i := 8) (v := ?vT228_8) rfl (by kernel_rfl) (by kernel_rfl) (by kernel_rfl) (fun _ _ _ h => h) rfl hHeld ?hyT228_8 ?restT228_8
    case hyT228_8 => (intro wz hz; (try dsimp only at hz); go_simp; (first | done | (with_reducible rfl)))
    (try simp only [Act.put, List.setIfInBounds_toArray, List.set_cons_zero, List.set_cons_succ])
    refine wpAnyH_takeL (i := 9) (v := ?vT229_9) rfl (by kernel_rfl) (by kernel_rfl) (by kernel_rfl) (fun _ _ _ h => h) rfl hHeld ?hyT229_9 ?restT229_9
    case hyT229_9 => (intro wz hz; (try dsimp only at hz); obtain ⟨⟨hz1, hz2, hz3, hz4⟩, -⟩ := hz; go_simp; (first | done | (with_reducible rfl)))
    (try simp only [Act.put, List.setIfInBounds_toArray, List.set_cons_zero, List.set_cons_succ])
    refine wpAnyH_takeL (i := 10) (v := ?vT229_10) rfl (by kernel_rfl) (by kernel_rfl) (by kernel_rfl) (fun _ _ _ h => h) rfl hHeld ?hyT229_10 ?restT229_10
    case hyT229_10 => (intro wz hz; (try dsimp only at hz); obtain ⟨⟨hz1, hz2, hz3, hz4⟩, -⟩ := hz; go_simp; (first | done | (with_reducible rfl)))
    (try simp only [Act.put, List.setIfInBounds_toArray, List.set_cons_zero, List.set_cons_succ])
    refine wpAnyH_only (i := 11) rfl (by kernel_rfl) (fun K hK => ?_)
    go_simp
    refine (HALL.out.2.2.1 w9 (HR1.out.below hHeld.2.out) (HR2'.out.below hHeld.2.out)).mono ?_
    rintro e w10 ⟨rfl, hB10⟩
    go_wp2_with fail
    refine hK.out _ _ (hHeld.keep hB10) (fun hHeld => ?_)
    clear hK K
    (try simp only [Act.put, List.setIfInBounds_toArray, List.set_cons_zero, List.set_cons_succ])
    refine wpAnyH_takeL (i := 12) (v := ?vT234_12) rfl (by kernel_rfl) (by kernel_rfl) (by kernel_rfl) (fun _ _ _ h => h) rfl hHeld ?hyT234_12 ?restT234_12
    case hyT234_12 => (intro wz hz; (try dsimp only at hz); go_simp; (first | done | (with_reducible rfl)))
    (try simp only [Act.put, List.setIfInBounds_toArray, List.set_cons_zero, List.set_cons_succ])
    refine wpAnyH_takeL (i := 13) (v := ?vT234_13) rfl (by kernel_rfl) (by kernel_rfl) (by kernel_rfl) (fun _ _ _ h => h) rfl hHeld ?hyT234_13 ?restT234_13
    case hyT234_13 => (intro wz hz; (try dsimp only at hz); go_simp; (first | done | (with_reducible rfl)))
    (try simp only [Act.put, List.setIfInBounds_toArray, List.set_cons_zero, List.set_cons_succ])
    refine wpAnyH_takeL (i := 14) (v := ?vT234_14) rfl (by kernel_rfl) (by kernel_rfl) (by kernel_rfl) (fun _ _ _ h => h) rfl hHeld ?hyT234_14 ?restT234_14
    case hyT234_14 => (intro wz hz; (try dsimp only at hz); go_simp; (first | done | (with_reducible rfl)))
    (try simp only [Act.put, List.setIfInBounds_toArray, List.set_cons_zero, List.set_cons_succ])
    refine wpAnyH_takeL (i := 15) (v := ?vT234_15) rfl (by kernel_rfl) (by kernel_rfl) (by kernel_rfl) (fun _ _ _ h => h) rfl hHeld ?hyT234_15 ?restT234_15
    case hyT234_15 => (intro wz hz; (try dsimp only at hz); go_simp; (first | done | (with_reducible rfl)))
    (try simp only [Act.put, List.setIfInBounds_toArray, List.set_cons_zero, List.set_cons_succ])
    refine wpAnyH_takeL (i := 16) (v := ?vT234_16) rfl (by kernel_rfl) (by kernel_rfl) (by kernel_rfl) (fun _ _ _ h => h) rfl hHeld ?hyT234_16 ?restT234_16
    case hyT234_16 => (intro wz hz; (try dsimp only at hz); go_simp; (first | done | (with_reducible rfl)))
    (try simp only [Act.put, List.setIfInBounds_toArray, List.set_cons_zero, List.set_cons_succ])
    refine wpAnyH_takeL (i := 17) (v := ?vT234_17) rfl (by kernel_rfl) (by kernel_rfl) (by kernel_rfl) (fun _ _ _ h => h) rfl hHeld ?hyT234_17 ?restT234_17
    case hyT234_17 => (intro wz hz; (try dsimp only at hz); go_simp; (first | done | (with_reducible rfl)))
    (try simp only [Act.put, List.setIfInBounds_toArray, List.set_cons_zero, List.set_cons_succ])
    refine wpAnyH_takeL (i := 18) (v := ?vT234_18) rfl (by kernel_rfl) (by kernel_rfl) (by kernel_rfl) (fun _ _ _ h => h) rfl hHeld ?hyT234_18 ?restT234_18
    case hyT234_18 => (intro wz hz; (try dsimp only at hz); go_simp; (first | done | (with_reducible rfl)))
    (try simp only [Act.put, List.setIfInBounds_toArray, List.set_cons_zero, List.set_cons_succ])
    refine wpAnyH_takeL (i := 19) (v := ?vT235_19) rfl (by kernel_rfl) (by kernel_rfl) (by kernel_rfl) (fun _ _ _ h => h) rfl hHeld ?hyT235_19 ?restT235_19
    case hyT235_19 => (intro wz hz; (try dsimp only at hz); obtain ⟨⟨hz1, hz2, hz3, hz4⟩, -⟩ := hz; go_simp; (first | done | (with_reducible rfl)))
    (try simp only [Act.put, List.setIfInBounds_toArray, List.set_cons_zero, List.set_cons_succ])
    refine wpAnyH_takeL (i := 20) (v := ?vT235_20) rfl (by kernel_rfl) (by kernel_rfl) (by kernel_rfl) (fun _ _ _ h => h) rfl hHeld ?hyT235_20 ?restT235_20
    case hyT235_20 => (intro wz hz; (try dsimp only at hz); obtain ⟨⟨hz1, hz2, hz3, hz4⟩, -⟩ := hz; go_simp; (first | done | (with_reducible rfl)))
    (try simp only [Act.put, List.setIfInBounds_toArray, List.set_cons_zero, List.set_cons_succ])
    refine wpAnyH_takeL (i := 22) (v := ?vT235_22) rfl (by kernel_rfl) (by kernel_rfl) (by kernel_rfl) (fun _ _ _ h => h) rfl hHeld ?hyT235_22 ?restT235_22
    case hyT235_22 => (intro wz hz; (try dsimp only at hz); obtain ⟨⟨hz1, hz2, hz3, hz4⟩, -⟩ := hz; go_simp; (first | done | (with_reducible rfl)))
    (try simp only [Act.put, List.setIfInBounds_toArray, List.set_cons_zero, List.set_cons_succ])
    refine wpAnyH_takeL (i := 23) (v := ?vT235_23) rfl (by kernel_rfl) (by kernel_rfl) (by kernel_rfl) (fun _ _ _ h => h) rfl hHeld ?hyT235_23 ?restT235_23
    case hyT235_23 => (intro wz hz; (try dsimp only at hz); obtain ⟨⟨hz1, hz2, hz3, hz4⟩, -⟩ := hz; go_simp; (first | done | (with_reducible rfl)))
    (try simp only [Act.put, List.setIfInBounds_toArray, List.set_cons_zero, List.set_cons_succ])
    refine wpAnyH_only (i := 21) rfl (by kernel_rfl) (fun K hK => ?_)
    go_simp
    refine (HALL.out.2.2.2.1 w10 (HR.out.below (hBC _ hHeld.2.out)) (HR2.out.below (hBC _ hHeld.2.out))).mono ?_
    rintro e w11 ⟨v11, rfl, hown11, hB11⟩
    obtain ⟨A11, c11, rfl, hk11⟩ := own_reads hown11
    clear hown11
    go_wp2_with fail
    refine hK.out _ _ (hHeld.keep hB11) (fun hHeld => ?_)
    clear hK K
    (try simp only [Act.put, List.setIfInBounds_toArray, List.set_cons_zero, List.set_cons_succ])
    refine wpAnyH_only (i := 24) rfl (by kernel_rfl) (fun K hK => ?_)
    go_simp
    refine (HALL.out.2.2.2.2.1 w11 (HR.out.below (hBC _ hHeld.2.out)) (HR2.out.below (hBC _ hHeld.2.out))).mono ?_
    rintro e w12 ⟨v12, rfl, hown12, hB12⟩
    obtain ⟨A12, c12, rfl, hk12⟩ := own_reads hown12
    clear hown12
    go_wp2_with fail
    refine hK.out _ _ (hHeld.keep hB12) (fun hHeld => ?_)
    clear hK K
    (try simp only [Act.put, List.setIfInBounds_toArray, List.set_cons_zero, List.set_cons_succ])
    refine wpAnyH_only (i := 25) rfl (by kernel_rfl) (fun K hK => ?_)
    go_simp
    refine (HALL.out.2.2.2.2.2.1 A11 A12 c11 c12 w12 (hk11.below hB12) hk12).mono ?_
    rintro e w13 ⟨rfl, hB13⟩
    go_wp2_with fail
    refine hK.out _ _ (hHeld.keep hB13) (fun hHeld => ?_)
    clear hK K
    (try simp only [Act.put, List.setIfInBounds_toArray, List.set_cons_zero, List.set_cons_succ])
    refine wpAnyH_takeL (i := 26) (v := ?vT252_26) rfl (by kernel_rfl) (by kernel_rfl) (by kernel_rfl) (fun _ _ _ h => h) rfl hHeld ?hyT252_26 ?restT252_26
    case hyT252_26 => (intro wz hz; (try dsimp only at hz); go_simp; (first | done | (with_reducible rfl)))
    (try simp only [Act.put, List.setIfInBounds_toArray, List.set_cons_zero, List.set_cons_succ])
    refine wpAnyH_takeL (i := 27) (v := ?vT252_27) rfl (by kernel_rfl) (by kernel_rfl) (by kernel_rfl) (fun _ _ _ h => h) rfl hHeld ?hyT252_27 ?restT252_27
    case hyT252_27 => (intro wz hz; (try dsimp only at hz); go_simp; (first | done | (with_reducible rfl)))
    (try simp only [Act.put, List.setIfInBounds_toArray, List.set_cons_zero, List.set_cons_succ])
    refine wpAnyH_takeL (i := 28) (v := ?vT253_28) rfl (by kernel_rfl) (by kernel_rfl) (by kernel_rfl) (fun _ _ _ h => h) rfl hHeld ?hyT253_28 ?restT253_28
    case hyT253_28 => (intro wz hz; (try dsimp only at hz); obtain ⟨⟨hz1, hz2, hz3, hz4⟩, -⟩ := hz; go_simp; (first | done | (with_reducible rfl)))
    (try simp only [Act.put, List.setIfInBounds_toArray, List.set_cons_zero, List.set_cons_succ])
    refine wpAnyH_takeL (i := 30) (v := ?vT253_30) rfl (by kernel_rfl) (by kernel_rfl) (by kernel_rfl) (fun _ _ _ h => h) rfl hHeld ?hyT253_30 ?restT253_30
    case hyT253_30 => (intro wz hz; (try dsimp only at hz); obtain ⟨⟨hz1, hz2, hz3, hz4⟩, -⟩ := hz; go_simp; (first | done | (with_reducible rfl)))
    (try simp only [Act.put, List.setIfInBounds_toArray, List.set_cons_zero, List.set_cons_succ])
    refine wpAnyH_only (i := 29) rfl (by kernel_rfl) (fun K hK => ?_)
    go_simp
    refine (HALL.out.2.2.2.2.2.2.1 w13 (HR.out.below (hBC _ hHeld.2.out))).mono ?_
    rintro e w14 ⟨rfl, hB14⟩
    go_wp2_with fail
    refine hK.out _ _ (hHeld.keep hB14) (fun hHeld => ?_)
    clear hK K
    (try simp only [Act.put, List.setIfInBounds_toArray, List.set_cons_zero, List.set_cons_succ])
    refine wpAnyH_only (i := 31) rfl (by kernel_rfl) (fun K hK => ?_)
    go_simp
    refine (HALL.out.2.2.2.2.2.2.2.1 w14 (HR.out.below (hBC _ hHeld.2.out))).mono ?_
    rintro e w15 ⟨rfl, hB15⟩
    go_wp2_with fail
    refine hK.out _ _ (hHeld.keep hB15) (fun hHeld => ?_)
    clear hK K
    (try simp only [Act.put, List.setIfInBounds_toArray, List.set_cons_zero, List.set_cons_succ])
    refine wpAnyH_takeL (i := 32) (v := ?vT262_32) rfl (by kernel_rfl) (by kernel_rfl) (by kernel_rfl) (fun _ _ _ h => h) rfl hHeld ?hyT262_32 ?restT262_32
    case hyT262_32 => (intro wz hz; (try dsimp only at hz); go_simp; (first | done | (with_reducible rfl)))
    (try simp only [Act.put, List.setIfInBounds_toArray, List.set_cons_zero, List.set_cons_succ])
    refine wpAnyH_takeL (i := 33) (v := ?vT262_33) rfl (by kernel_rfl) (by kernel_rfl) (by kernel_rfl) (fun _ _ _ h => h) rfl hHeld ?hyT262_33 ?restT262_33
    case hyT262_33 => (intro wz hz; (try dsimp only at hz); go_simp; (first | done | (with_reducible rfl)))
    (try simp only [Act.put, List.setIfInBounds_toArray, List.set_cons_zero, List.set_cons_succ])
    refine wpAnyH_takeL (i := 34) (v := ?vT262_34) rfl (by kernel_rfl) (by kernel_rfl) (by kernel_rfl) (fun _ _ _ h => h) rfl hHeld ?hyT262_34 ?restT262_34
    case hyT262_34 => (intro wz hz; (try dsimp only at hz); go_simp; (first | done | (with_reducible rfl)))
    (try simp only [Act.put, List.setIfInBounds_toArray, List.set_cons_zero, List.set_cons_succ])
    refine wpAnyH_takeL (i := 35) (v := ?vT263_35) rfl (by kernel_rfl) (by kernel_rfl) (by kernel_rfl) (fun _ _ _ h => h) rfl hHeld ?hyT263_35 ?restT263_35
    case hyT263_35 => (intro wz hz; (try dsimp only at hz); obtain ⟨⟨hz1, hz2, hz3, hz4⟩, -⟩ := hz; go_simp; (first | done | (with_reducible rfl)))
    (try simp only [Act.put, List.setIfInBounds_toArray, List.set_cons_zero, List.set_cons_succ])
    refine wpAnyH_takeL (i := 37) (v := ?vT263_37) rfl (by kernel_rfl) (by kernel_rfl) (by kernel_rfl) (fun _ _ _ h => h) rfl hHeld ?hyT263_37 ?restT263_37
    case hyT263_37 => (intro wz hz; (try dsimp only at hz); obtain ⟨⟨hz1, hz2, hz3, hz4⟩, -⟩ := hz; go_simp; (first | done | (with_reducible rfl)))
    (try simp only [Act.put, List.setIfInBounds_toArray, List.set_cons_zero, List.set_cons_succ])
    refine wpAnyH_only (i := 36) rfl (by kernel_rfl) (fun K hK => ?_)
    go_simp
    refine (HALL.out.2.2.2.2.2.2.2.2.1 w15 (HT.out.below (hBC _ hHeld.2.out)) (HR.out.below (hBC _ hHeld.2.out))).mono ?_
    rintro e w16 ⟨rfl, hB16⟩
    go_wp2_with fail
    refine hK.out _ _ (hHeld.keep hB16) (fun hHeld => ?_)
    clear hK K
    (try simp only [Act.put, List.setIfInBounds_toArray, List.set_cons_zero, List.set_cons_succ])
    refine wpAnyH_only (i := 38) rfl (by kernel_rfl) (fun K hK => ?_)
    go_simp
    refine (HALL.out.2.2.2.2.2.2.2.2.2 w16 (HTR.out.below (hBC _ hHeld.2.out)) (HR.out.below (hBC _ hHeld.2.out))).mono ?_
    rintro e w17 ⟨rfl, hB17⟩
    go_wp2_with fail
    refine hK.out _ _ (hHeld.keep hB17) (fun hHeld => ?_)
    clear hK K
    (try simp only [Act.put, List.setIfInBounds_toArray, List.set_cons_zero, List.set_cons_succ])
    refine wpAnyH_takeL (i := 39) (v := ?vT272_39) rfl (by kernel_rfl) (by kernel_rfl) (by kernel_rfl) (fun _ _ _ h => h) rfl hHeld ?hyT272_39 ?restT272_39
    case hyT272_39 => (intro wz hz; (try dsimp only at hz); go_simp; (first | done | (with_reducible rfl)))
    (try simp only [Act.put, List.setIfInBounds_toArray, List.set_cons_zero, List.set_cons_succ])
    refine wpAnyH_takeL (i := 40) (v := ?vT272_40) rfl (by kernel_rfl) (by kernel_rfl) (by kernel_rfl) (fun _ _ _ h => h) rfl hHeld ?hyT272_40 ?restT272_40
    case hyT272_40 => (intro wz hz; (try dsimp only at hz); go_simp; (first | done | (with_reducible rfl)))
    (try simp only [Act.put, List.setIfInBounds_toArray, List.set_cons_zero, List.set_cons_succ])
    refine wpAnyH_takeL (i := 41) (v := ?vT272_41) rfl (by kernel_rfl) (by kernel_rfl) (by kernel_rfl) (fun _ _ _ h => h) rfl hHeld ?hyT272_41 ?restT272_41
    case hyT272_41 => (intro wz hz; (try dsimp only at hz); go_simp; (first | done | (with_reducible rfl)))
    (try simp only [Act.put, List.setIfInBounds_toArray, List.set_cons_zero, List.set_cons_succ])
    refine wpAnyH_done (by kernel_rfl) ?_ _
    have hBf := hBC _ hHeld.2.out
    clear hHeld
    go_wp2_with fail
    go_ret
    exact ⟨rfl, hBf⟩
end Go.Proofs.YtbgijijecipjeaaDoor
