/- Contract of treesig.Verify where the signature cannot be decoded. -/
import Derived.Test.YtbgijijecipjeaaDoorVer1
import Derived.Test.YtbgijijecipjeaaDoorGet4
namespace Go.Proofs.YtbgijijecipjeaaDoor
open Go.RowKit Go.IntWalk Go.Proofs.YtbgijijecipjeaaDoorW.PrintWords

/-- The state of a reader of treesig. -/
def TSt (w : World) (Bb Be : Nat) (e0 : Int) (l : List UInt8) : Prop := ∃ A c, TRd w Bb Be A l.length c e0 l ∧ ∀ ad, A = some ad → ad.block ≠ Bb ∧ ad.block ≠ Be
theorem TSt.drewN_ {w : World} {Bb Be : Nat} {e0 : Int} {l : List UInt8} (h : TSt w Bb Be e0 l) (nq : Nat) : TSt (w.drewN nq) Bb Be e0 l := by
  obtain ⟨A, c, h1, h2⟩ := h
  exact ⟨A, c, h1.drew_ nq, h2⟩
theorem TSt.below_ {w w' : World} {Bb Be : Nat} {e0 : Int} {l : List UInt8} (h : TSt w Bb Be e0 l) (hb : Below w.heap.size w w') : TSt w' Bb Be e0 l := by
  obtain ⟨A, c, h1, h2⟩ := h
  exact ⟨A, c, ⟨(hb.block _ (hp_lt h1.boxb)).trans h1.boxb, (hb.block _ (hp_lt h1.boxe)).trans h1.boxe, h1.ne, h1.reads.below hb, h1.len, h1.cap, h1.few⟩, h2⟩
theorem skip_st (Bb Be n : Nat) (e0 er : Int) (l : List UInt8) (w : World) (h : TSt w Bb Be e0 l) (hn : errAfter e0 er = 0 → n ≤ l.length) :
    Calls Tryd.prog 75 #[.int .i64 (n : Int), .int .i64 er, .pointer (some ⟨Be, 0, none⟩), .pointer (some ⟨Bb, 0, none⟩)] w fun e w' => e = .returned (.tuple #[]) ∧ KeepRM w w' Bb Be ∧ TSt w' Bb Be (errAfter e0 er) (if errAfter e0 er = 0 then l.drop n else l) := by
  obtain ⟨A, c, h1, h2⟩ := h
  refine (skip_any Bb Be A l.length c n e0 er l w h1 h2 hn).mono ?_
  rintro e w' ⟨rfl, hk, hw⟩
  refine ⟨rfl, hk, ?_⟩
  by_cases c1 : errAfter e0 er = 0
  · rw [if_pos c1] at hw ⊢
    rw [c1]
    refine ⟨cutA A c n, c - n, ?_, fun ad e => ⟨cutA_block (fun ad e => (h2 ad e).1) ad e, cutA_block (fun ad e => (h2 ad e).2) ad e⟩⟩
    rw [List.length_drop]; exact hw
  · rw [if_neg c1] at hw ⊢
    exact ⟨A, c, hw, h2⟩
theorem rest_st (Bb Be : Nat) (e0 : Int) (l : List UInt8) (w : World) (h : TSt w Bb Be e0 l) :
    Calls Tryd.prog 76 #[.pointer (some ⟨Bb, 0, none⟩), .pointer (some ⟨Be, 0, none⟩)] w fun e w' => ∃ A c, e = .returned (.tuple #[.slice A l.length c, .int .i64 e0]) ∧ ReadsInt w .u8 A l.length (bi l) ∧ l.length ≤ c ∧ l.length ≤ 1099511627776 ∧ ∃ nq, w.drewN nq = w' := by
  obtain ⟨A, c, h1, h2⟩ := h
  refine (rest_any Bb Be A l.length c e0 l w h1).mono ?_
  rintro e w' ⟨rfl, nq, rfl⟩
  exact ⟨A, c, rfl, h1.reads, h1.cap, h1.few, nq, rfl⟩
theorem isHeight_any (n : Int) (w : World) : Calls Tryd.prog 57 #[.int .i64 n] w fun e w' => e = .returned (.bool (decide (0 ≤ n ∧ n ≤ 6))) ∧ w = w' := by
  by_cases h1 : 0 ≤ n
  · by_cases h2 : n ≤ 6
    · go_enter Tryd.func57, Tryd.ntmps57
      go_wp2_with fail
      go_ret
      exact ⟨by simp [h1, h2], rfl⟩
    · go_enter Tryd.func57, Tryd.ntmps57
      go_wp2_with fail
      go_ret
      exact ⟨by simp; omega, rfl⟩
  · go_enter Tryd.func57, Tryd.ntmps57
    go_wp2_with fail
    go_ret
    exact ⟨by simp; omega, rfl⟩

/-- What Verify decodes. -/
def vB1 (b : List UInt8) : List UInt8 := if (gInt b).2.2 = 0 then b.drop (gInt b).2.1 else b
def vE2 (b : List UInt8) : Int := errAfter (gInt b).2.2 (gBytes (vB1 b)).2.2
def vB2 (b : List UInt8) : List UInt8 := if vE2 b = 0 then (vB1 b).drop (gBytes (vB1 b)).2.1 else vB1 b
def vE3 (b : List UInt8) : Int := errAfter (vE2 b) (gDigs (vB2 b)).2.2
def vB3 (b : List UInt8) : List UInt8 := if vE3 b = 0 then (vB2 b).drop (gDigs (vB2 b)).2.1 else vB2 b

set_option maxRecDepth 100000 in
set_option maxHeartbeats 8000000 in
theorem verify_err (pub : List UInt8) (h : Int) (msg sig : ByteArray) (w : World) (hm : msg.size ≤ 1048576) (hs : sig.size ≤ 1099511627776) (hh : 0 ≤ h ∧ h ≤ 6) (herr : vE3 sig.data.toList ≠ 0) :
    Calls Tryd.prog 41 #[.agg (Lib.byteCells pub).toArray, .int .i64 h, .string msg, .string sig] w fun e w' => e = .returned (.tuple #[.int .i64 0, .int .i64 (vE3 sig.data.toList)]) ∧ Below w.heap.size w w' := by
  obtain ⟨b, hb⟩ : ∃ b, b = sig.data.toList := ⟨_, rfl⟩
  rw [← hb] at herr ⊢
  have HB := Lib.hid hb
  have HERR := Lib.hid herr
  clear hb herr
  obtain ⟨h1, h2⟩ := hh
  have hmz : ¬ (1048576 : Int) < (msg.size : Int) := by omega
  obtain ⟨e3, he3⟩ : ∃ e3, e3 = vE3 b := ⟨_, rfl⟩
  rw [← he3]
  have HE3 := Lib.hid he3
  clear he3
  go_enter Tryd.func41, Tryd.ntmps41
  go_wp2_with fail
  refine (isHeight_any h _).mono ?_
  rintro e w1 ⟨rfl, rfl⟩
  rw [decide_eq_true (⟨h1, h2⟩ : 0 ≤ h ∧ h ≤ 6)]
  go_wp2_with fail
  refine (treader_any sig _ hs).mono ?_
  rintro e w1 ⟨Bb, Be, A1, c1, rfl, hrd, hBb, hBe, hA1, hB1⟩
  have hst1 : TSt w1 Bb Be 0 b := by
    refine ⟨A1, c1, ?_, hA1⟩
    have := hrd
    rw [← HB.out] at this
    rwa [show b.length = sig.size by rw [HB.out, data_length]]
  have HW1 : Hid (Below w.heap.size w w1) := Lib.hid (by (repeat (first | (with_reducible assumption) | (with_reducible exact Below.refl _ _) | (with_reducible refine bl_alloc ?_ _) | (with_reducible refine bl_drew ?_) | (with_reducible refine bl_drewN ?_ _) | (with_reducible refine bl_then (by assumption) ?_))))
  have HST1 := Lib.hid hst1
  have HBe : Hid (w.heap.size ≤ Bb ∧ w.heap.size ≤ Be) := Lib.hid (by rw [szA] at hBb hBe; omega)
  clear hst1 hrd hB1 hA1 hBb hBe
  go_wp2_with fail
  refine (rest_st Bb Be 0 b w1 HST1.out).mono ?_
  rintro e w2 ⟨A2, c2, rfl, hr2, hc2, hl2, nq2, rfl⟩
  have HST2 := Lib.hid (HST1.out.drewN_ nq2)
  have HW2 := Lib.hid (pw_below_drewN HW1.out nq2)
  have HG1 := Lib.hid (getInt_any A2 c2 b (w1.drewN nq2) hr2 hc2 hl2)
  have hu1 := gInt_le b
  have hgi : ∃ g, g = gInt b := ⟨_, rfl⟩
  obtain ⟨⟨x1, u1, er1⟩, hg1⟩ := hgi
  have HGI := Lib.hid hg1
  have HG1' := HG1.out
  rw [← hg1] at HG1' hu1
  simp only [] at HG1' hu1
  have HCALL := Lib.hid HG1'
  have HU1 := Lib.hid hu1
  clear hr2 hc2 hl2 HG1 HG1' hg1 hu1 HST1 HW1
  go_wp2_with fail
  refine HCALL.out.mono ?_
  rintro e w3 ⟨rfl, rfl⟩
  clear HCALL
  go_wp2_with fail
  refine (skip_st Bb Be u1 0 er1 b _ HST2.out (fun _ => HU1.out)).mono ?_
  rintro e w3 ⟨rfl, hkp3, hst3⟩
  have hst3' : TSt w3 Bb Be er1 (vB1 b) := by
    have e1 : vB1 b = if er1 = 0 then b.drop u1 else b := by rw [vB1, ← HGI.out]
    rw [e1]; exact hst3
  have hw3 := hkp3.below HW2.out HBe.out.1 HBe.out.2
  obtain ⟨b1, hb1⟩ : ∃ b1, b1 = vB1 b := ⟨_, rfl⟩
  rw [← hb1] at hst3'
  have HB1 := Lib.hid hb1
  have HST3 := Lib.hid hst3'
  have HW3 := Lib.hid hw3
  clear hst3 hst3' hw3 hkp3 hb1 HST2 HW2
  go_wp2_with fail
  refine (rest_st Bb Be er1 b1 w3 HST3.out).mono ?_
  rintro e w4 ⟨A4, c4, rfl, hr4, hc4, hl4, nq4, rfl⟩
  have HST4 := Lib.hid (HST3.out.drewN_ nq4)
  have HW4 := Lib.hid (pw_below_drewN HW3.out nq4)
  have HG2 := Lib.hid (getBytes_any A4 c4 b1 (w3.drewN nq4) hr4 hc4 hl4)
  have hu2 := gBytes_le b1
  obtain ⟨⟨x2, u2, er2⟩, hg2⟩ : ∃ g, g = gBytes b1 := ⟨_, rfl⟩
  have HGB := Lib.hid hg2
  have HG2' := HG2.out
  rw [← hg2] at HG2' hu2
  simp only [] at HG2' hu2
  have HCALL := Lib.hid HG2'
  have HU2 := Lib.hid hu2
  clear hr4 hc4 hl4 HG2 HG2' hg2 hu2 HST3 HW3
  go_wp2_with fail
  refine HCALL.out.mono ?_
  rintro e w5 ⟨rfl, rfl⟩
  clear HCALL
  go_wp2_with fail
  refine (skip_st Bb Be u2 er1 er2 b1 _ HST4.out (fun _ => HU2.out)).mono ?_
  rintro e w5 ⟨rfl, hkp5, hst5⟩
  have hv2 : vE2 b = errAfter er1 er2 := by rw [vE2, ← HB1.out, ← HGI.out, ← HGB.out]
  have hst5' : TSt w5 Bb Be (vE2 b) (vB2 b) := by
    have e1 : vB2 b = if errAfter er1 er2 = 0 then b1.drop u2 else b1 := by rw [vB2, hv2, ← HB1.out, ← HGB.out]
    rw [e1, hv2]; exact hst5
  have hw5 := hkp5.below HW4.out HBe.out.1 HBe.out.2
  obtain ⟨b2, hb2⟩ : ∃ b2, b2 = vB2 b := ⟨_, rfl⟩
  obtain ⟨e2, he2⟩ : ∃ e2, e2 = vE2 b := ⟨_, rfl⟩
  rw [← hb2, ← he2] at hst5'
  have HB2 := Lib.hid hb2
  have HE2 := Lib.hid he2
  have HST5 := Lib.hid hst5'
  have HW5 := Lib.hid hw5
  clear hst5 hst5' hw5 hkp5 hb2 he2 hv2 HST4 HW4
  go_wp2_with fail
  refine (rest_st Bb Be e2 b2 w5 HST5.out).mono ?_
  rintro e w6 ⟨A6, c6, rfl, hr6, hc6, hl6, nq6, rfl⟩
  have HST6 := Lib.hid (HST5.out.drewN_ nq6)
  have HW6 := Lib.hid (pw_below_drewN HW5.out nq6)
  have HG3 := Lib.hid (getDigests_any A6 c6 b2 (w5.drewN nq6) hr6 hc6 hl6)
  have hu3 := gDigs_le b2
  obtain ⟨⟨x3, u3, er3⟩, hg3⟩ : ∃ g, g = gDigs b2 := ⟨_, rfl⟩
  have HGD := Lib.hid hg3
  have HG3' := HG3.out
  rw [← hg3] at HG3' hu3
  simp only [] at HG3' hu3
  have HCALL := Lib.hid HG3'
  have HU3 := Lib.hid hu3
  clear hr6 hc6 hl6 HG3 HG3' hg3 hu3 HST5 HW5
  go_wp2_with fail
  refine HCALL.out.mono ?_
  rintro e w7 ⟨v7, rfl, hown7, hB7⟩
  obtain ⟨A7, c7, rfl⟩ := own_slice hown7
  have HOWN7 := Lib.hid hown7
  have HST7 := Lib.hid (HST6.out.below_ hB7)
  have HW7 := Lib.hid (HW6.out.trans (hB7.mono HW6.out.size))
  clear HCALL hown7 hB7 HST6 HW6
  go_wp2_with fail
  refine (skip_st Bb Be u3 e2 er3 b2 _ HST7.out (fun _ => HU3.out)).mono ?_
  rintro e w8 ⟨rfl, hkp8, hst8⟩
  have hv3 : vE3 b = errAfter e2 er3 := by rw [vE3, ← HB2.out, ← HE2.out, ← HGD.out]
  have hst8' : TSt w8 Bb Be e3 (vB3 b) := by
    have e1 : vB3 b = if errAfter e2 er3 = 0 then b2.drop u3 else b2 := by rw [vB3, hv3, ← HB2.out, ← HGD.out]
    rw [e1, HE3.out, hv3]; exact hst8
  have hw8 := hkp8.below HW7.out HBe.out.1 HBe.out.2
  have HST8 := Lib.hid hst8'
  have HW8 := Lib.hid hw8
  clear hst8 hst8' hw8 hv3
  go_wp2_with fail
  refine (rest_st Bb Be e3 (vB3 b) w8 HST8.out).mono ?_
  rintro e w9 ⟨A9, c9, rfl, hr9, hc9, hl9, nq9, rfl⟩
  have HW9 := Lib.hid (pw_below_drewN HW8.out nq9)
  have hne3 : (e3 != 0) = true := by have := HERR.out; rw [← HE3.out] at this; simpa using this
  clear hr9 hc9 hl9
  go_wp2_with fail
  go_ret2
  exact ⟨rfl, HW9.out⟩
end Go.Proofs.YtbgijijecipjeaaDoor
