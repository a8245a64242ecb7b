/- Contract of hash.compress. -/
import Derived.Test.YtbgijijecipjeaaDoorHash2
import Derived.Test.YtbgijijecipjeaaDoorPureA
import Derived.Test.YtbgijijecipjeaaDoorRow
import Derived.BigRegion
import Derived.Deep.DeepMust
import Derived.Deep.MidRow
import Derived.Deep.WholeRow
import Derived.Deep.DeepCutAuto
namespace Go.Proofs.YtbgijijecipjeaaDoor
open Go.RowKit

/-- The table of the round constants lies where the program's variable lies. -/
def TabK (w : World) : Prop := w.rangeAt 0 0 (w32 shaK).toList

theorem heap_alloc2_lt (w : World) (A B : Obj) {i : Nat} (h : i < w.heap.size) : ((w.alloc A).alloc B).heap[i]? = w.heap[i]? :=
  (heap_alloc_old (w.alloc A) B (by simp; omega)).trans (heap_alloc_old w A h)
theorem TabK.lt {w : World} (h : TabK w) : 0 < w.heap.size := World.block_lt_of_cell? w _ (h 0 (.int .u32 1116352408) (by rfl))
theorem TabK.below {w w' : World} (h : TabK w) (hb : Below w.heap.size w w') : TabK w' := fun j v hv => pw_cell hb (h j v hv)

/-- The state of the rounds: the words s that came in, the words v of the rounds, the schedule. -/
structure CompW (w : World) (s v : St) (sl ws : List Nat) (N p q : Nat) (wr : World) : Prop where
  low : Below w.heap.size w wr
  tab : TabK wr
  sb : wr.heap[w.heap.size]? = some (.cells (w32 sl) 83 (0, 0))
  rb : wr.heap[w.heap.size + 1]? = some (.cells (w32 (List.replicate 8 0)) 83 (0, 0))
  wb : wr.heap[N]? = some (.cells (w32 ws) 121 (0, 0))
  vb : wr.heap[p]? = some (.cells (w32 [v.a, v.b, v.c, v.d]) 123 (0, 0))
  eb : wr.heap[q]? = some (.cells (w32 [v.e, v.f, v.g, v.h]) 123 (0, 0))
  hN : w.heap.size + 2 ≤ N
  hp : N < p
  hq : N < q
  hpq : p ≠ q
  h0 : 0 < w.heap.size

theorem TabK.setRow {wr : World} (h : TabK wr) (q : Nat) (hq : 0 < q) (cs : Array Value) : TabK (wr.setRow q cs) := fun j v hv => by
  rw [cell_setRow_other _ _ _ _ (by simp; omega)]; exact h j v hv
theorem CompW.setE {w : World} {s v : St} {sl ws : List Nat} {N p q : Nat} {wr : World} (h : CompW w s v sl ws N p q wr) (a b c d : Nat) :
    CompW w s ⟨v.a, v.b, v.c, v.d, a, b, c, d⟩ sl ws N p q (wr.setRow q (w32 [a, b, c, d])) := by
  have h1 := h.hN; have h2 := h.hp; have h3 := h.hq; have h4 := h.hpq
  refine ⟨below_setRow h.low (by omega) _, h.tab.setRow q (by omega) _, ?_, ?_, ?_, ?_, setRow_heap _ _ _ _ _ _ h.eb, h1, h2, h3, h4, h.h0⟩
  · rw [setRow_other _ _ _ _ (by omega)]; exact h.sb
  · rw [setRow_other _ _ _ _ (by omega)]; exact h.rb
  · rw [setRow_other _ _ _ _ (by omega)]; exact h.wb
  · rw [setRow_other _ _ _ _ (by omega)]; exact h.vb
theorem CompW.setV {w : World} {s v : St} {sl ws : List Nat} {N p q : Nat} {wr : World} (h : CompW w s v sl ws N p q wr) (a b c d : Nat) :
    CompW w s ⟨a, b, c, d, v.e, v.f, v.g, v.h⟩ sl ws N p q (wr.setRow p (w32 [a, b, c, d])) := by
  have h1 := h.hN; have h2 := h.hp; have h3 := h.hq; have h4 := h.hpq
  refine ⟨below_setRow h.low (by omega) _, h.tab.setRow p (by omega) _, ?_, ?_, ?_, setRow_heap _ _ _ _ _ _ h.vb, ?_, h1, h2, h3, h4, h.h0⟩
  · rw [setRow_other _ _ _ _ (by omega)]; exact h.sb
  · rw [setRow_other _ _ _ _ (by omega)]; exact h.rb
  · rw [setRow_other _ _ _ _ (by omega)]; exact h.wb
  · rw [setRow_other _ _ _ _ (by omega)]; exact h.eb
theorem CompW.putS {w : World} {s v : St} {sl ws : List Nat} {N p q : Nat} {wr : World} (h : CompW w s v sl ws N p q wr) (i x : Nat) (y : Int) (hy : y = (x : Int)) :
    CompW w s v (sl.set i x) ws N p q (wr.setCell ⟨w.heap.size, i, none⟩ (.int .u32 y)).drew := by
  subst hy
  have h1 := h.hN; have h2 := h.hp; have h3 := h.hq; have h4 := h.hpq
  rw [setCell_eq_setRow _ _ _ _ _ _ _ h.sb, w32_set]
  refine ⟨(below_setRow h.low (by omega) _).drew, fun j v hv => ?_, setRow_heap _ _ _ _ _ _ h.sb, ?_, ?_, ?_, ?_, h1, h2, h3, h4, h.h0⟩
  · have h5 := h.h0
    exact (h.tab.setRow w.heap.size (by omega) _) j v hv
  · exact (setRow_other _ _ _ _ (by omega)).trans h.rb
  · exact (setRow_other _ _ _ _ (by omega)).trans h.wb
  · exact (setRow_other _ _ _ _ (by omega)).trans h.vb
  · exact (setRow_other _ _ _ _ (by omega)).trans h.eb
theorem u32cells (a b c d : Nat) (x : Int) (h : x = (a : Int)) : (#[Value.int .u32 x, Value.int .u32 (b : Int), Value.int .u32 (c : Int), Value.int .u32 (d : Int)] : Array Value) = w32 [a, b, c, d] := by
  subst h; rfl
theorem quietc {P : Program} {f : FuncId} {args : Array Value} {w : World} {n : Nat} {v : Value}
    (h : Calls P f args (w.drewN n) fun e w' => e = .returned v ∧ w.drewN n = w') : Calls P f args (w.drewN n) fun e w'' => e = .returned v ∧ ∃ m, w'' = w.drewN m :=
  h.mono fun _ _ ⟨he, hm⟩ => ⟨he, n, hm.symm⟩
theorem quietc2 {P : Program} {f : FuncId} {args : Array Value} {w W : World} {v : Value}
    (h : Calls P f args W fun e w' => e = .returned v ∧ W = w') (hW : ∃ m, W = w.drewN m) : Calls P f args W fun e w'' => e = .returned v ∧ ∃ m, w'' = w.drewN m :=
  h.mono fun _ _ ⟨he, hm⟩ => ⟨he, hm ▸ hW⟩
theorem mix_e (x : Nat) (w : World) (hx : x < 4294967296) : Calls Tryd.prog 87 #[.int .u32 x, .int .i64 6, .int .i64 11, .int .i64 25] w fun e w' => e = .returned (.int .u32 (mixN x 6 11 25)) ∧ w = w' :=
  mix_any x 6 11 25 w hx (by decide) (by decide) (by decide) (by decide) (by decide) (by decide)
theorem mix_a (x : Nat) (w : World) (hx : x < 4294967296) : Calls Tryd.prog 87 #[.int .u32 x, .int .i64 2, .int .i64 13, .int .i64 22] w fun e w' => e = .returned (.int .u32 (mixN x 2 13 22)) ∧ w = w' :=
  mix_any x 2 13 22 w hx (by decide) (by decide) (by decide) (by decide) (by decide) (by decide)

theorem not32 (x : Nat) (h : x < 4294967296) : bits BinOp.xor IntKind.u32 IntKind.u32.max (x : Int) = ((4294967295 - x : Nat) : Int) := by
  have hm : IntKind.u32.max = ((4294967295 : Nat) : Int) := by decide +kernel
  have hx : 4294967295 ^^^ x = 4294967295 - x := by
    have h1 : (BitVec.allOnes 32 ^^^ BitVec.ofNat 32 x).toNat = (~~~ (BitVec.ofNat 32 x)).toNat := by rw [BitVec.allOnes_xor]
    rw [BitVec.toNat_xor, BitVec.toNat_not, BitVec.toNat_allOnes, BitVec.toNat_ofNat, Nat.mod_eq_of_lt h] at h1
    simpa using h1
  rw [hm, xor32 _ _ (by decide) h, hx]
theorem ch_int (v : St) (h : v.Ok) : bits BinOp.xor IntKind.u32 (bits BinOp.and IntKind.u32 (v.e : Int) (v.f : Int)) (bits BinOp.and IntKind.u32 (bits BinOp.xor IntKind.u32 IntKind.u32.max (v.e : Int)) (v.g : Int)) = (((v.e &&& v.f) ^^^ ((4294967295 - v.e) &&& v.g) : Nat) : Int) := by
  rw [not32 _ h.e, and32 _ _ (by have := h.e; omega) h.g, and32 _ _ h.e h.f, xor32 _ _ (Nat.and_lt_two_pow (n := 32) _ h.f) (Nat.and_lt_two_pow (n := 32) _ h.g)]
theorem maj_int (v : St) (h : v.Ok) : bits BinOp.xor IntKind.u32 (bits BinOp.xor IntKind.u32 (bits BinOp.and IntKind.u32 (v.a : Int) (v.b : Int)) (bits BinOp.and IntKind.u32 (v.a : Int) (v.c : Int))) (bits BinOp.and IntKind.u32 (v.b : Int) (v.c : Int)) = (((v.a &&& v.b) ^^^ (v.a &&& v.c) ^^^ (v.b &&& v.c) : Nat) : Int) := by
  rw [and32 _ _ h.a h.b, and32 _ _ h.a h.c, and32 _ _ h.b h.c, xor32 _ _ (Nat.and_lt_two_pow (n := 32) _ h.b) (Nat.and_lt_two_pow (n := 32) _ h.c), xor32 _ _ (Nat.xor_lt_two_pow (n := 32) (Nat.and_lt_two_pow (n := 32) _ h.b) (Nat.and_lt_two_pow (n := 32) _ h.c)) (Nat.and_lt_two_pow (n := 32) _ h.c)]
/-- What the cells of the two rows and of the schedule hold. -/
structure CellsVE (v : St) (N p q t wt : Nat) (wr : World) : Prop where
  cw : wr.cell? ⟨N, t, none⟩ = some (.int .u32 (wt : Int))
  v0 : wr.cell? ⟨p, 0, none⟩ = some (.int .u32 v.a)
  v1 : wr.cell? ⟨p, 1, none⟩ = some (.int .u32 v.b)
  v2 : wr.cell? ⟨p, 2, none⟩ = some (.int .u32 v.c)
  v3 : wr.cell? ⟨p, 3, none⟩ = some (.int .u32 v.d)
  e0 : wr.cell? ⟨q, 0, none⟩ = some (.int .u32 v.e)
  e1 : wr.cell? ⟨q, 1, none⟩ = some (.int .u32 v.f)
  e2 : wr.cell? ⟨q, 2, none⟩ = some (.int .u32 v.g)
  e3 : wr.cell? ⟨q, 3, none⟩ = some (.int .u32 v.h)
theorem CompW.cells {w : World} {s v : St} {sl ws : List Nat} {N p q : Nat} {wr : World} (h : CompW w s v sl ws N p q wr) (t : Nat) (ht : t < ws.length) : CellsVE v N p q t (ws.getD t 0) wr where
  cw := by rw [cell_of_row _ _ _ _ _ _ h.wb, w32_at _ _ ht]
  v0 := by rw [cell_of_row _ _ _ _ _ _ h.vb]; rfl
  v1 := by rw [cell_of_row _ _ _ _ _ _ h.vb]; rfl
  v2 := by rw [cell_of_row _ _ _ _ _ _ h.vb]; rfl
  v3 := by rw [cell_of_row _ _ _ _ _ _ h.vb]; rfl
  e0 := by rw [cell_of_row _ _ _ _ _ _ h.eb]; rfl
  e1 := by rw [cell_of_row _ _ _ _ _ _ h.eb]; rfl
  e2 := by rw [cell_of_row _ _ _ _ _ _ h.eb]; rfl
  e3 := by rw [cell_of_row _ _ _ _ _ _ h.eb]; rfl
theorem CompW.drewN {w : World} {s v : St} {sl ws : List Nat} {N p q : Nat} {wr : World} (h : CompW w s v sl ws N p q wr) (n : Nat) : CompW w s v sl ws N p q (wr.drewN n) :=
  ⟨below_drewN h.low n, h.tab, h.sb, h.rb, h.wb, h.vb, h.eb, h.hN, h.hp, h.hq, h.hpq, h.h0⟩

set_option maxRecDepth 100000 in
set_option maxHeartbeats 400000 in
theorem compress_any (s : St) (hs : s.Ok) (b : List UInt8) (g o cap : Nat) (w : World) (hT : TabK w) (hb : b.length = 64) (hcap : 64 ≤ cap) (hc : ∀ j, j < 64 → w.cell? ⟨g, o + j, none⟩ = some (.int .u8 ((b.getD j 0).toNat : Int))) :
    Calls Tryd.prog 73 #[.agg #[.int .u32 s.a, .int .u32 s.b, .int .u32 s.c, .int .u32 s.d, .int .u32 s.e, .int .u32 s.f, .int .u32 s.g, .int .u32 s.h], .slice (some ⟨g, o, none⟩) 64 cap] w fun e w' => e = .returned (.agg (w32 (cmpN s b).list)) ∧ Below w.heap.size w w' := by
  have HC := Lib.hid hc
  clear hc
  go_enter Tryd.func73, Tryd.ntmps73
  go_wp2_with fail
  refine (schedule_any b g o cap _ hb hcap ?_).mono ?_
  · intro j hj
    have h := HC.out j hj
    have hl : g < w.heap.size := World.block_lt_of_cell? w _ h
    rw [World.cell?_alloc_lt _ _ _ (by simp; omega), World.cell?_alloc_lt _ _ _ hl]
    exact h
  · rintro e w1 ⟨rfl, hB1⟩
    have hz := hB1.size
    go_wp2_with ((with_reducible show wpList _ _ _ (⟨none, .store 121 _ _, _, _, _, _⟩ :: _) _ _); refine wpList_store_row rfl 121 (.tmp 5) (.tmp 14) rfl _ _ rfl rfl 121 _ (heap_alloc_new _ _) (by rw [w32_size, sched_length]; kernel_rfl) (by rw [w32_size, sched_length]; rfl) (w32_one _) ?_; rw [World.setRow_alloc_new]; simp only [Act.put])
    have hsb : w1.heap[w.heap.size]? = some (.cells #[.int .u32 s.a, .int .u32 s.b, .int .u32 s.c, .int .u32 s.d, .int .u32 s.e, .int .u32 s.f, .int .u32 s.g, .int .u32 s.h] 83 (0, 0)) := by
      rw [hB1.block _ (by simp <;> omega), heap_alloc2_old]
    have hrb : w1.heap[w.heap.size + 1]? = some (.cells (w32 (List.replicate 8 0)) 83 (0, 0)) := by
      rw [hB1.block _ (by simp <;> omega), heap_alloc2_new]; rfl
    have hz1 : w.heap.size + 2 ≤ w1.heap.size := by simpa using hz
    obtain ⟨w2, hw2⟩ : ∃ w2 : World, w2 = w1.alloc (Obj.cells (w32 (sched b 64)) 121) := ⟨_, rfl⟩
    have hB2 : Below w.heap.size w w2 := by
      rw [hw2]
      exact ((((Below.refl _ _).alloc (Nat.le_refl _) _).alloc (by simp) _).trans (hB1.mono (by simp; omega))).alloc (by omega) _
    have hsb2 : w2.heap[w.heap.size]? = some (.cells (w32 s.list) 83 (0, 0)) := by rw [hw2]; exact (heap_alloc_old _ _ (by omega)).trans hsb
    have hrb2 : w2.heap[w.heap.size + 1]? = some (.cells (w32 (List.replicate 8 0)) 83 (0, 0)) := by rw [hw2]; exact (heap_alloc_old _ _ (by omega)).trans hrb
    have hwb2 : w2.heap[w1.heap.size]? = some (.cells (w32 (sched b 64)) 121 (0, 0)) := by rw [hw2, heap_alloc_new]
    have hz2 : w2.heap.size = w1.heap.size + 1 := by rw [hw2]; simp
    obtain ⟨N, hN⟩ : ∃ N, N = w1.heap.size := ⟨_, rfl⟩
    rw [← hw2, ← hN]
    rw [← hN] at hwb2 hz2 hz1
    clear hB1 hz hsb hrb hw2 hN
    have c0 : w2.cell? ⟨w.heap.size, 0, none⟩ = some (.int .u32 s.a) := by rw [cell_of_row _ _ _ _ _ _ hsb2]; rfl
    have c1 : w2.cell? ⟨w.heap.size, 1, none⟩ = some (.int .u32 s.b) := by rw [cell_of_row _ _ _ _ _ _ hsb2]; rfl
    have c2 : w2.cell? ⟨w.heap.size, 2, none⟩ = some (.int .u32 s.c) := by rw [cell_of_row _ _ _ _ _ _ hsb2]; rfl
    have c3 : w2.cell? ⟨w.heap.size, 3, none⟩ = some (.int .u32 s.d) := by rw [cell_of_row _ _ _ _ _ _ hsb2]; rfl
    have c4 : w2.cell? ⟨w.heap.size, 4, none⟩ = some (.int .u32 s.e) := by rw [cell_of_row _ _ _ _ _ _ hsb2]; rfl
    have c5 : w2.cell? ⟨w.heap.size, 5, none⟩ = some (.int .u32 s.f) := by rw [cell_of_row _ _ _ _ _ _ hsb2]; rfl
    have c6 : w2.cell? ⟨w.heap.size, 6, none⟩ = some (.int .u32 s.g) := by rw [cell_of_row _ _ _ _ _ _ hsb2]; rfl
    have c7 : w2.cell? ⟨w.heap.size, 7, none⟩ = some (.int .u32 s.h) := by rw [cell_of_row _ _ _ _ _ _ hsb2]; rfl
    have hzlt : w.heap.size < w2.heap.size := by omega
    have HB2 := Lib.hid hB2
    have HSB2 := Lib.hid hsb2
    have HRB2 := Lib.hid hrb2
    have HWB2 := Lib.hid hwb2
    have HZ2 := Lib.hid hz2
    clear hB2 hsb2 hrb2 hwb2 hz2
    have ha4 : ∀ (a : Addr) (c : Nat) (wx : World), (Instr.arrayAt 123 (.slice (some a) 4 c)).run Tryd.prog wx = .ok (.pointer (some a)) wx := fun a c wx => by kernel_rfl
    go_upto_region 2 with fail
    go_cut [6, 7] (fun v6 v7 wx => ∃ p q : Nat, v6 = .pointer (some ⟨p, 0, none⟩) ∧ v7 = .pointer (some ⟨q, 0, none⟩) ∧ CompW w s s s.list (sched b 64) N p q wx)
    case first =>
      go_region
      · go_wp2_with fail
        go_meet
        refine ⟨_, _, rfl, rfl, ⟨((HB2.out.alloc (by omega) _).alloc (by simp; omega) _).drew, ?_, ?_, ?_, ?_, ?_, ?_, hz1, by have := HZ2.out; omega, by have := HZ2.out; omega, by omega, hT.lt⟩⟩
        · exact hT.below (((HB2.out.alloc (by omega) _).alloc (by simp; omega) _).drew)
        · exact (heap_alloc2_lt _ _ _ hzlt).trans HSB2.out
        · exact (heap_alloc2_lt _ _ _ (by have := HZ2.out; omega)).trans HRB2.out
        · exact (heap_alloc2_lt _ _ _ (by have := HZ2.out; omega)).trans HWB2.out
        · exact heap_alloc2_old _ _ _
        · exact heap_alloc2_new _ _ _
      · go_wp2_with fail
        go_meet
        refine ⟨_, _, rfl, rfl, ⟨((HB2.out.alloc (by omega) _).alloc (by simp; omega) _).drew, ?_, ?_, ?_, ?_, ?_, ?_, hz1, by have := HZ2.out; omega, by have := HZ2.out; omega, by omega, hT.lt⟩⟩
        · exact hT.below (((HB2.out.alloc (by omega) _).alloc (by simp; omega) _).drew)
        · exact (heap_alloc2_lt _ _ _ hzlt).trans HSB2.out
        · exact (heap_alloc2_lt _ _ _ (by have := HZ2.out; omega)).trans HRB2.out
        · exact (heap_alloc2_lt _ _ _ (by have := HZ2.out; omega)).trans HWB2.out
        · exact heap_alloc2_new _ _ _
        · exact heap_alloc2_old _ _ _
    case rest =>
      obtain ⟨p, q, rfl, rfl, hS⟩ := hcut
      clear HB2 HSB2 HRB2 HWB2 HZ2 c0 c1 c2 c3 c4 c5 c6 c7
      have hT3 := hS.tab
      unfold TabK at hT3
      go_wp2_with ((with_reducible show wpList _ _ _ (⟨some 21, _, _, _, _, _⟩ :: _) _ _); refine wpList_load_mid rfl 121 (.global 0) rfl 0 0 rfl (w32 shaK).toList _ hT3 Tryd.underlying121 rfl (by kernel_rfl) ?_; simp only [Act.put, List.setIfInBounds_toArray, List.set_cons_succ, List.set_cons_zero])
      go_loopw [22] (fun i wr => ∃ t : Nat, t ≤ 64 ∧ i = .int .i64 t ∧ CompW w s (rndsN s (sched b 64) t) s.list (sched b 64) N p q wr) (fun i _ => 64 - (intOf i).toNat)
      case atStart => exact ⟨0, by omega, rfl, hS⟩
      case round =>
        obtain ⟨t, ht, rfl, hR⟩ := hrel
        by_cases h64 : t < 64
        · have d64 : decide ((t : Int) < 64) = true := decide_eq_true (by omega)
          have hv := rndsN_ok hs (sched b 64) t
          obtain ⟨v, hvd⟩ : ∃ v, v = rndsN s (sched b 64) t := ⟨_, rfl⟩
          rw [← hvd] at hR hv
          obtain ⟨kt, hkt⟩ : ∃ k, k = shaK.getD t 0 := ⟨_, rfl⟩
          obtain ⟨wt, hwt⟩ : ∃ k, k = (sched b 64).getD t 0 := ⟨_, rfl⟩
          have hidx : ∀ wx : World, (Instr.index 121 (.agg (w32 shaK).toList.toArray) (.int .i64 (t : Int))).run Tryd.prog wx = .ok (.int .u32 (kt : Int)) wx := fun wx =>
            run_index_row wx 121 82 64 t _ .i64 .u32 _ Tryd.underlying121 Tryd.underlying82 (by kernel_rfl) h64 (by rw [hkt]; simpa using w32_at shaK t (by rw [shaK_length]; exact h64))
          obtain ⟨cw, v0, v1, v2, v3, e0, e1, e2, e3⟩ := hR.cells t (by rw [sched_length]; exact h64)
          rw [← hwt] at cw
          have HVD := Lib.hid hvd
          have HKT := Lib.hid hkt
          have HWT := Lib.hid hwt
          have HV := Lib.hid hv
          clear hvd hkt hwt hv hT3
          have hsg : IntKind.u32.signed = false := rfl
          go_upto_region 6 with fail
          go_cut [10] (fun v10 wx => v10 = .int .u32 (t1N v kt wt : Int) ∧ CompW w s v s.list (sched b 64) N p q wx)
          case first =>
            go_quiet ((go_at_call 87; exact quietc (mix_e _ _ HV.out.e)))
            go_wp2_with fail
            go_meet
            refine ⟨congrArg (Value.int .u32) ?_, hR.drewN _⟩
            rw [ch_int v HV.out]
            unfold t1N
            omega
          case rest =>
            obtain ⟨rfl, hR5⟩ := hcut
            have hx1 := t1N_lt v kt wt
            obtain ⟨x1, hx1e⟩ : ∃ x, x = t1N v kt wt := ⟨_, rfl⟩
            rw [← hx1e] at hx1 ⊢
            have HX1 := Lib.hid hx1e
            clear hx1e hR cw v0 v1 v2 v3 e0 e1 e2 e3
            obtain ⟨cw, v0, v1, v2, v3, e0, e1, e2, e3⟩ := hR5.cells t (by rw [sched_length]; exact h64)
            clear cw
            go_upto_region 7 with fail
            go_cut [11] (fun v11 wx => v11 = .int .u32 (t2N v : Int) ∧ CompW w s v s.list (sched b 64) N p q wx)
            case first =>
              go_quiet ((go_at_call 87; exact quietc (mix_a _ _ HV.out.a)))
              go_wp2_with fail
              go_meet
              refine ⟨congrArg (Value.int .u32) ?_, hR5.drewN _⟩
              rw [maj_int v HV.out]
              unfold t2N
              omega
            case rest =>
              obtain ⟨rfl, hR6⟩ := hcut
              have hx2 := t2N_lt v
              obtain ⟨x2, hx2e⟩ : ∃ x, x = t2N v := ⟨_, rfl⟩
              rw [← hx2e] at hx2 ⊢
              have HX2 := Lib.hid hx2e
              clear hx2e hR5 v0 v1 v2 v3 e0 e1 e2 e3
              obtain ⟨cw, v0, v1, v2, v3, e0, e1, e2, e3⟩ := hR6.cells t (by rw [sched_length]; exact h64)
              clear cw
              have heb := hR6.eb
              go_upto_region 8 with fail
              go_cut [] (fun wx => CompW w s ⟨v.a, v.b, v.c, v.d, (v.d + x1) % 4294967296, v.e, v.f, v.g⟩ s.list (sched b 64) N p q wx)
              case first =>
                go_wp2_with ((with_reducible show wpList _ _ _ (⟨none, .store 123 (.tmp 7) _, _, _, _, _⟩ :: _) _ _); go_must (refine wpList_store_row rfl 123 (.tmp 7) (.tmp 82) rfl q _ rfl rfl 123 _ heb (by kernel_rfl) rfl (by simp [Value.oneCell']) ?_); simp only [Act.put])
                go_meet
                rw [u32cells ((v.d + x1) % 4294967296) v.e v.f v.g _ (by omega)]
                exact hR6.setE _ _ _ _
              case rest =>
                have hR7 := hcut
                clear hcut hR6 heb v0 v1 v2 v3 e0 e1 e2 e3
                obtain ⟨cw, v0, v1, v2, v3, -, -, -, -⟩ := hR7.cells t (by rw [sched_length]; exact h64)
                clear cw
                have hvb := hR7.vb
                go_wp2_with ((with_reducible show wpList _ _ _ (⟨none, .store 123 (.tmp 6) _, _, _, _, _⟩ :: _) _ _); go_must (refine wpList_store_row rfl 123 (.tmp 6) (.tmp 92) rfl p _ rfl rfl 123 _ hvb (by kernel_rfl) rfl (by simp [Value.oneCell']) ?_); simp only [Act.put])
                go_roundw
                case rel => exact ⟨t + 1, by omega, by go_num, by
                  have : rndsN s (sched b 64) (t + 1) = rndN v kt wt := by rw [rndsN, HVD.out, HKT.out, HWT.out]
                  rw [this]
                  rw [u32cells ((x1 + x2) % 4294967296) v.a v.b v.c _ (by omega)]
                  have h8 := hR7.setV ((x1 + x2) % 4294967296) v.a v.b v.c
                  have he : rndN v kt wt = ⟨(x1 + x2) % 4294967296, v.a, v.b, v.c, (v.d + x1) % 4294967296, v.e, v.f, v.g⟩ := by
                    unfold rndN
                    rw [← HX1.out, ← HX2.out]
                  rw [he]
                  exact h8⟩
                case measure => simp [intOf]; omega
        · have d64 : decide ((t : Int) < 64) = false := decide_eq_false (by omega)
          obtain rfl : t = 64 := by omega
          go_wp2_with fail
          have hv := rndsN_ok hs (sched b 64) 64
          obtain ⟨v, hvd⟩ : ∃ v, v = rndsN s (sched b 64) 64 := ⟨_, rfl⟩
          rw [← hvd] at hR hv
          have HVD := Lib.hid hvd
          clear hvd hT3
          obtain ⟨wo, rfl⟩ : ∃ wo : World, wo = wr := ⟨_, rfl⟩
          go_loopw [94] (fun i w2 => ∃ k : Nat, k ≤ 4 ∧ i = .int .i64 k ∧ CompW w s v (addTo s v k) (sched b 64) N p q w2) (fun i _ => 4 - (intOf i).toNat)
          case atStart => exact ⟨0, by omega, rfl, by rw [addTo_zero]; exact hR⟩
          case round =>
            obtain ⟨k, hk, rfl, hA⟩ := hrel
            by_cases h4 : k < 4
            · have d4 : decide ((k : Int) < 4) = true := decide_eq_true (by omega)
              have hqN := hA.hN; have hq1 := hA.hq; have hp1 := hA.hp
              have nqB : q ≠ w.heap.size := by omega
              have npB : p ≠ w.heap.size := by omega
              have nqB' : w.heap.size ≠ q := by omega
              have npB' : w.heap.size ≠ p := by omega
              have s0 : wr.cell? ⟨w.heap.size, k, none⟩ = some (.int .u32 ((addTo s v k).getD k 0 : Nat)) := by rw [cell_of_row _ _ _ _ _ _ hA.sb, w32_at _ _ (by rw [addTo_length]; omega)]
              have s4 : wr.cell? ⟨w.heap.size, k + 4, none⟩ = some (.int .u32 ((addTo s v k).getD (k + 4) 0 : Nat)) := by rw [cell_of_row _ _ _ _ _ _ hA.sb, w32_at _ _ (by rw [addTo_length]; omega)]
              have vk : wr.cell? ⟨p, k, none⟩ = some (.int .u32 ([v.a, v.b, v.c, v.d].getD k 0 : Nat)) := by rw [cell_of_row _ _ _ _ _ _ hA.vb, w32_at _ _ (by simp; omega)]
              have ek : wr.cell? ⟨q, k, none⟩ = some (.int .u32 ([v.e, v.f, v.g, v.h].getD k 0 : Nat)) := by rw [cell_of_row _ _ _ _ _ _ hA.eb, w32_at _ _ (by simp; omega)]
              have f0 : wr.frozen? ⟨w.heap.size, k, none⟩ = false := frozen_of_row _ _ _ _ _ hA.sb
              have f4 : wr.frozen? ⟨w.heap.size, k + 4, none⟩ = false := frozen_of_row _ _ _ _ _ hA.sb
              obtain ⟨y0, hy0⟩ : ∃ y, y = (addTo s v k).getD k 0 := ⟨_, rfl⟩
              obtain ⟨y4, hy4⟩ : ∃ y, y = (addTo s v k).getD (k + 4) 0 := ⟨_, rfl⟩
              obtain ⟨z0, hz0⟩ : ∃ y, y = [v.a, v.b, v.c, v.d].getD k 0 := ⟨_, rfl⟩
              obtain ⟨z4, hz4⟩ : ∃ y, y = [v.e, v.f, v.g, v.h].getD k 0 := ⟨_, rfl⟩
              rw [← hy0] at s0
              rw [← hy4] at s4
              rw [← hz0] at vk
              rw [← hz4] at ek
              have HY0 := Lib.hid hy0
              have HY4 := Lib.hid hy4
              have HZ0 := Lib.hid hz0
              have HZ4 := Lib.hid hz4
              clear hy0 hy4 hz0 hz4
              go_wp2_with fail
              go_region
              go_wp2_with fail
              go_region
              go_wp2_with fail
              go_roundw
              case rel => exact ⟨k + 1, by omega, by go_num, by
                have h1 := hA.putS k ((y0 + z0) % 4294967296) (((y0 : Int) + z0) % 4294967296) (by omega)
                have h2 := h1.putS (k + 4) ((y4 + z4) % 4294967296) (((y4 : Int) + z4) % 4294967296) (by omega)
                rw [HY0.out, HY4.out, HZ0.out, HZ4.out, addTo_step s v k h4] at h2
                rw [HY0.out, HY4.out, HZ0.out, HZ4.out]
                exact h2⟩
              case measure => simp [intOf]; omega
            · have d4 : decide ((k : Int) < 4) = false := decide_eq_false (by omega)
              obtain rfl : k = 4 := by omega
              have hsb := hA.sb
              have hrb := hA.rb
              rw [addTo_four] at hsb
              have HAA := Lib.hid hA
              have HR0 := Lib.hid hR
              clear hA hR hS hT
              go_wp2_with (first
                | ((with_reducible show wpList _ _ _ (⟨some 115, _, _, _, _, _⟩ :: _) _ _); go_must (refine wpList_load_row rfl 83 (.tmp 2) rfl w.heap.size rfl 83 _ (0, 0) _ hsb Tryd.underlying83 rfl (by kernel_rfl) ?_))
                | ((with_reducible show wpList _ _ _ (⟨none, .store 83 _ _, _, _, _, _⟩ :: _) _ _); go_must (refine wpList_store_row rfl 83 (.tmp 4) (.tmp 115) rfl (w.heap.size + 1) _ rfl rfl 83 _ hrb (by kernel_rfl) rfl (w32_one _) ?_)))
              refine bodyPost_ret (v := .agg (w32 (addN s v).list)) (results_cell_row rfl _ _ (w.heap.size + 1) 83 _ (0, 0) _ rfl (setRow_heap _ _ _ _ _ _ hrb) Tryd.underlying83 rfl (by kernel_rfl)) rfl ⟨?_, ?_⟩
              · rw [cmpN, ← HVD.out]
              · exact below_setRow HAA.out.low (by omega) _
end Go.Proofs.YtbgijijecipjeaaDoor
