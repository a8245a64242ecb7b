/- Contract of hash.schedule. -/
import Derived.Test.YtbgijijecipjeaaDoorHash1
import Derived.Test.YtbgijijecipjeaaDoorPureA
import Derived.Deep.QuietTactic
import Derived.BigQuiet
import Derived.StillTailTactics
import Derived.Laws.CopyOwn
import Derived.KernelRfl
namespace Go.Proofs.YtbgijijecipjeaaDoor
open Go.RowKit

/-- The state of the loop over the words: the first t are made. -/
structure SchedW (w : World) (b : List UInt8) (t : Nat) (l : List Nat) (wr : World) : Prop where
  low : Below w.heap.size w wr
  res : wr.heap[w.heap.size]? = some (.cells (w32 (List.replicate 64 0)) 121 (0, 0))
  var : wr.heap[w.heap.size + 1]? = some (.cells (w32 l) 121 (0, 0))
theorem pw_cell {w w1 : World} (h : Below w.heap.size w w1) {a : Addr} {v : Value} (hc : w.cell? a = some v) : w1.cell? a = some v := (h.cell (World.block_lt_of_cell? w a hc)).trans hc
theorem SchedW.cell {w : World} {b : List UInt8} {t : Nat} {l : List Nat} {wr : World} (h : SchedW w b t l wr) (i : Nat) (hi : i < l.length) :
    wr.cell? ⟨w.heap.size + 1, i, none⟩ = some (.int .u32 (l.getD i 0 : Int)) ∧ wr.frozen? ⟨w.heap.size + 1, i, none⟩ = false := by
  rw [cell_of_row _ _ _ _ _ _ h.var]
  exact ⟨w32_at _ _ hi, frozen_of_row _ _ _ _ _ h.var⟩

theorem SchedW.put {w : World} {b : List UInt8} {t : Nat} {l : List Nat} {wr : World} (h : SchedW w b t l wr) (i x : Nat) (v : Int) (hv : v = (x : Int)) :
    SchedW w b t (l.set i x) (wr.setCell ⟨w.heap.size + 1, i, none⟩ (.int .u32 v)) := by
  subst hv
  refine ⟨h.low.setCell (by simp) _, ?_, ?_⟩
  · rw [heap_setCell_other _ _ _ _ (by simp)]; exact h.res
  · rw [setCell_eq_setRow _ _ _ _ _ _ _ h.var, setRow_heap _ _ _ _ _ _ h.var, w32_set]
theorem sig0_int (x : Nat) (hx : x < 4294967296) : bits BinOp.xor IntKind.u32 (bits BinOp.xor IntKind.u32 (rotlN x 25 : Int) (rotlN x 14 : Int)) ((x : Int) / 8) = (((rotlN x 25 ^^^ rotlN x 14) ^^^ x / 8 : Nat) : Int) := by
  have h2 : ((x : Int) / 8) = ((x / 8 : Nat) : Int) := by simp
  rw [h2, xor32 _ _ (rotlN_lt _ _ hx) (rotlN_lt _ _ hx), xor32 _ _ (Nat.xor_lt_two_pow (n := 32) (rotlN_lt _ _ hx) (rotlN_lt _ _ hx)) (Nat.lt_of_le_of_lt (Nat.div_le_self _ _) hx)]
theorem sig1_int (x : Nat) (hx : x < 4294967296) : bits BinOp.xor IntKind.u32 (bits BinOp.xor IntKind.u32 (rotlN x 15 : Int) (rotlN x 13 : Int)) ((x : Int) / 1024) = (((rotlN x 15 ^^^ rotlN x 13) ^^^ x / 1024 : Nat) : Int) := by
  have h2 : ((x : Int) / 1024) = ((x / 1024 : Nat) : Int) := by simp
  rw [h2, xor32 _ _ (rotlN_lt _ _ hx) (rotlN_lt _ _ hx), xor32 _ _ (Nat.xor_lt_two_pow (n := 32) (rotlN_lt _ _ hx) (rotlN_lt _ _ hx)) (Nat.lt_of_le_of_lt (Nat.div_le_self _ _) hx)]
theorem u32_or_step (x c : Nat) (hx : x < 16777216) (hc : c < 256) : bits BinOp.or IntKind.u32 ((x : Int) * 256) ((c : Int) % 4294967296) = ((x * 256 + c : Nat) : Int) := by
  have h1 : ((x : Int) * 256) = ((x * 256 % 4294967296 : Nat) : Int) := by omega
  have h2 : ((c : Int) % 4294967296) = ((c % 4294967296 : Nat) : Int) := by simp
  rw [h1, h2, or32 _ _ (Nat.mod_lt _ (by decide)) (Nat.mod_lt _ (by decide)), Nat.mod_eq_of_lt (show c < 4294967296 by omega), be_step x c hx hc]

set_option maxRecDepth 100000 in
set_option maxHeartbeats 400000 in
theorem schedule_any (b : List UInt8) (g o cap : Nat) (w : World) (hb : b.length = 64) (hcap : 64 ≤ cap) (hc : ∀ j, j < 64 → w.cell? ⟨g, o + j, none⟩ = some (.int .u8 ((b.getD j 0).toNat : Int))) :
    Calls Tryd.prog 86 #[.slice (some ⟨g, o, none⟩) 64 cap] w fun e w' => e = .returned (.agg (w32 (sched b 64))) ∧ Below w.heap.size w w' := by
  have HC := Lib.hid hc
  clear hc
  go_enter Tryd.func86, Tryd.ntmps86
  go_wp2_with fail
  go_loopw [11] (fun i wr => ∃ t : Nat, t ≤ 64 ∧ i = .int .i64 t ∧ SchedW w b t (sched b t ++ List.replicate (64 - t) 0) wr) (fun i _ => 64 - (intOf i).toNat)
  case atStart =>
    refine ⟨0, by omega, rfl, ⟨?_, ?_, ?_⟩⟩
    · exact (((Below.refl _ _).alloc (Nat.le_refl _) _).alloc (by simp) _)
    · rw [heap_alloc2_old]; rfl
    · rw [heap_alloc2_new]; rfl
  case round =>
    obtain ⟨t, ht, rfl, hS⟩ := hrel
    have hlen : (sched b t ++ List.replicate (64 - t) 0).length = 64 := by rw [List.length_append, sched_length, List.length_replicate]; omega
    have HL := Lib.hid hlen
    clear hlen
    by_cases h64 : t < 64
    · have d64 : decide ((t : Int) < 64) = true := decide_eq_true (by omega)
      by_cases h16 : t < 16
      · have d16 : decide ((t : Int) < 16) = true := decide_eq_true (by omega)
        go_wp2_with fail
        obtain ⟨wo, rfl⟩ : ∃ wo : World, wo = wr := ⟨_, rfl⟩
        go_loopw [24] (fun i w2 => ∃ k : Nat, k ≤ 4 ∧ i = .int .i64 k ∧ SchedW w b t ((sched b t ++ List.replicate (64 - t) 0).set t (be ((b.drop (4 * t)).take k))) w2) (fun i _ => 4 - (intOf i).toNat)
        case atStart => exact ⟨0, by omega, rfl, by rw [List.take_zero, show be [] = 0 from rfl, sched_set_zero b t h64]; exact hS⟩
        case round =>
          obtain ⟨k, hk, rfl, hS2⟩ := hrel
          by_cases h4 : k < 4
          · have d4 : decide ((k : Int) < 4) = true := decide_eq_true (by omega)
            obtain ⟨hcell, hfr⟩ := hS2.cell t (by rw [List.length_set, HL.out]; omega)
            have hb1 : wr.cell? ⟨g, o + 4 * t + k, none⟩ = some (.int .u8 ((b.getD (4 * t + k) 0).toNat : Int)) := by
              have h := HC.out (4 * t + k) (by omega)
              rw [← Nat.add_assoc] at h
              exact pw_cell hS2.low h
            have hk1 := be_take (b.drop (4 * t)) k (by rw [List.length_drop]; omega)
            have hk2 := be_small (b.drop (4 * t)) k h4
            have hk3 : (b.drop (4 * t)).getD k 0 = b.getD (4 * t + k) 0 := by simp [List.getD_eq_getElem?_getD]
            rw [set_getD_same _ _ _ (by rw [HL.out]; omega)] at hcell
            obtain ⟨X, hX⟩ : ∃ X, X = be ((b.drop (4 * t)).take k) := ⟨_, rfl⟩
            obtain ⟨c, hcc⟩ : ∃ c, c = b.getD (4 * t + k) 0 := ⟨_, rfl⟩
            rw [← hX] at hcell hk2
            rw [hk3, ← hX, ← hcc] at hk1
            rw [← hcc] at hb1
            have HX := Lib.hid hX
            have HK1 := Lib.hid hk1
            clear hX hk1 hk3 hcc
            go_wp2_with fail
            go_roundw
            case rel => exact ⟨k + 1, by omega, rfl, by
              have hp := hS2.put t (be ((b.drop (4 * t)).take (k + 1))) (bits BinOp.or IntKind.u32 ((X : Int) * 256) ((c.toNat : Int) % 4294967296)) (by rw [HK1.out]; exact u32_or_step X c.toNat hk2 c.toNat_lt)
              rw [List.set_set] at hp
              exact hp⟩
            case measure => simp [intOf]; omega
          · have d4 : decide ((k : Int) < 4) = false := decide_eq_false (by omega)
            go_wp2_with fail
            go_roundw
            case rel => exact ⟨t + 1, by omega, by go_num, by
              obtain rfl : k = 4 := by omega
              rw [← sched_next b t _ h64 (by unfold nextN; rw [if_pos h16])]
              exact ⟨hS2.low, hS2.res, hS2.var⟩⟩
            case measure => simp [intOf]; omega
      · have d16 : decide ((t : Int) < 16) = false := decide_eq_false (by omega)
        obtain ⟨c15, -⟩ := hS.cell (t - 15) (by rw [HL.out]; omega)
        obtain ⟨c2, -⟩ := hS.cell (t - 2) (by rw [HL.out]; omega)
        obtain ⟨c16, -⟩ := hS.cell (t - 16) (by rw [HL.out]; omega)
        obtain ⟨c7, -⟩ := hS.cell (t - 7) (by rw [HL.out]; omega)
        obtain ⟨ct, cf⟩ := hS.cell t (by rw [HL.out]; omega)
        rw [sched_old b t _ (by omega)] at c15 c2 c16 c7
        have hlt := sched_lt b t
        obtain ⟨x15, h15⟩ : ∃ x, x = (sched b t).getD (t - 15) 0 := ⟨_, rfl⟩
        obtain ⟨x2, h2⟩ : ∃ x, x = (sched b t).getD (t - 2) 0 := ⟨_, rfl⟩
        obtain ⟨x16, h16'⟩ : ∃ x, x = (sched b t).getD (t - 16) 0 := ⟨_, rfl⟩
        obtain ⟨x7, h7⟩ : ∃ x, x = (sched b t).getD (t - 7) 0 := ⟨_, rfl⟩
        have l15 : x15 < 4294967296 := h15 ▸ getD_lt hlt _
        have l2 : x2 < 4294967296 := h2 ▸ getD_lt hlt _
        have l16 : x16 < 4294967296 := h16' ▸ getD_lt hlt _
        have l7 : x7 < 4294967296 := h7 ▸ getD_lt hlt _
        rw [← h15] at c15
        rw [← h2] at c2
        rw [← h16'] at c16
        rw [← h7] at c7
        have H15 := Lib.hid h15
        have H2 := Lib.hid h2
        have H16 := Lib.hid h16'
        have H7 := Lib.hid h7
        clear h15 h2 h16' h7 hlt
        go_wp2_with fail
        go_quiet (fail)
        go_wp2_with fail
        refine (rotl_any x15 (-7) _ l15 25 (by decide) (by decide +kernel)).mono ?_
        rintro e w' ⟨rfl, rfl⟩
        go_wp2_with fail
        refine (rotl_any x15 (-18) _ l15 14 (by decide) (by decide +kernel)).mono ?_
        rintro e w' ⟨rfl, rfl⟩
        go_wp2_with fail
        refine (rotl_any x2 (-17) _ l2 15 (by decide) (by decide +kernel)).mono ?_
        rintro e w' ⟨rfl, rfl⟩
        go_wp2_with fail
        refine (rotl_any x2 (-19) _ l2 13 (by decide) (by decide +kernel)).mono ?_
        rintro e w' ⟨rfl, rfl⟩
        go_wp2_with fail
        rw [sig0_int x15 l15, sig1_int x2 l2]
        obtain ⟨s0, hs0⟩ : ∃ s, s = ((rotlN x15 25 ^^^ rotlN x15 14) ^^^ x15 / 8) := ⟨_, rfl⟩
        obtain ⟨s1, hs1⟩ : ∃ s, s = ((rotlN x2 15 ^^^ rotlN x2 13) ^^^ x2 / 1024) := ⟨_, rfl⟩
        rw [← hs0, ← hs1]
        have HS0 := Lib.hid hs0
        have HS1 := Lib.hid hs1
        clear hs0 hs1
        obtain ⟨w3, hw3⟩ : ∃ w3 : World, w3 = wr.drewN nq := ⟨_, rfl⟩
        rw [← hw3]
        have c16' : w3.cell? ⟨w.heap.size + 1, t - 16, none⟩ = some (.int .u32 x16) := by rw [hw3]; simpa using c16
        have c7' : w3.cell? ⟨w.heap.size + 1, t - 7, none⟩ = some (.int .u32 x7) := by rw [hw3]; simpa using c7
        have ct' : w3.cell? ⟨w.heap.size + 1, t, none⟩ = some (.int .u32 ((sched b t ++ List.replicate (64 - t) 0).getD t 0 : Nat)) := by rw [hw3]; simpa using ct
        have cf' : w3.frozen? ⟨w.heap.size + 1, t, none⟩ = false := by rw [hw3]; simpa using cf
        have hS3 : SchedW w b t (sched b t ++ List.replicate (64 - t) 0) w3 := by rw [hw3]; exact ⟨below_drewN hS.low _, hS.res, hS.var⟩
        have HW3 := Lib.hid hw3
        clear hw3 c15 c2 c16 c7 ct cf hS
        go_region
        all_goals
          go_wp2_with fail
          go_roundw
          case rel => exact ⟨t + 1, by omega, by go_num, by
            have hp := hS3.put t (nextN b (sched b t) t) (((x16 : Int) + s0 + x7 + s1) % 4294967296) (by
              unfold nextN
              rw [if_neg h16, ← H16.out, ← H15.out, ← H7.out, ← H2.out, ← HS0.out, ← HS1.out]
              omega)
            rw [sched_next b t _ h64 rfl] at hp
            exact ⟨hp.low.drew, hp.res, hp.var⟩⟩
          case measure => simp [intOf]; omega
    · have d64 : decide ((t : Int) < 64) = false := decide_eq_false (by omega)
      obtain rfl : t = 64 := by omega
      have hvar := hS.var
      have hres := hS.res
      have hlow := hS.low
      simp only [Nat.sub_self, List.replicate_zero, List.append_nil] at hvar
      have HS := Lib.hid hS
      clear hS
      go_wp2_with (first
        | ((with_reducible show wpList _ _ _ (⟨some 78, _, _, _, _, _⟩ :: _) _ _); refine wpList_load_row rfl 121 (.tmp 3) rfl (w.heap.size + 1) rfl 121 _ (0, 0) _ hvar Tryd.underlying121 rfl (by rw [w32_size, sched_length]; kernel_rfl) ?_)
        | ((with_reducible show wpList _ _ _ (⟨none, .store 121 _ _, _, _, _, _⟩ :: _) _ _); refine wpList_store_row rfl 121 (.tmp 2) (.tmp 78) rfl w.heap.size _ rfl rfl 121 _ hres (by rw [w32_size, sched_length]; kernel_rfl) (by rw [w32_size, w32_size, sched_length]; rfl) (w32_one _) ?_))
      refine bodyPost_ret (v := .agg (w32 (sched b 64))) (results_cell_row rfl _ _ w.heap.size 121 _ (0, 0) _ rfl (setRow_heap _ _ _ _ _ _ hres) Tryd.underlying121 rfl (by rw [w32_size, sched_length]; kernel_rfl)) rfl ⟨rfl, ?_⟩
      exact below_setRow hlow (Nat.le_refl _) _
end Go.Proofs.YtbgijijecipjeaaDoor
