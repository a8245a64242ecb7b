/- Plain words: decoding of custodians. -/
import Derived.Test.YtbgijijecipjeaaDoorDecA
namespace Go.Proofs.YtbgijijecipjeaaDoor
open Go.RowKit Go.IntWalk Go.Proofs.YtbgijijecipjeaaDoorW.PrintWords

def memZ : Mem := ⟨ByteArray.empty, [], 0⟩
/-- A member at the front of an encoding. -/
def gMem (b : List UInt8) : Mem × Nat × Int :=
  if (gBytes b).2.2 ≠ 0 then (memZ, 0, (gBytes b).2.2)
  else if b.length - (gBytes b).2.1 < 16 then (memZ, 0, 5)
  else if (gInt (b.drop ((gBytes b).2.1 + 16))).2.2 ≠ 0 then (memZ, 0, (gInt (b.drop ((gBytes b).2.1 + 16))).2.2)
  else (⟨⟨(gBytes b).1.toArray⟩, (b.drop (gBytes b).2.1).take 16, (gInt (b.drop ((gBytes b).2.1 + 16))).1⟩, (gBytes b).2.1 + 16 + (gInt (b.drop ((gBytes b).2.1 + 16))).2.1, 0)
/-- Members, one after the other. -/
def gMems (b : List UInt8) : Nat → List Mem → Nat → List Mem × Nat × Int
  | 0, acc, off => (acc, off, 0)
  | n + 1, acc, off => if (gMem (b.drop off)).2.2 ≠ 0 then ([], 0, (gMem (b.drop off)).2.2) else gMems b n (acc ++ [(gMem (b.drop off)).1]) (off + (gMem (b.drop off)).2.1)
/-- Custodians: the epoch, the quorum, the members, the error. -/
noncomputable def gDec (b : List UInt8) : Int × Int × List Mem × Int :=
  if (gInts b).2.2 ≠ 0 then (0, 0, [], (gInts b).2.2)
  else if (gInts b).1.length ≠ 3 ∨ (gInts b).1.getD 2 0 < 1 ∨ 16 < (gInts b).1.getD 2 0 then (0, 0, [], 6)
  else if (gMems b ((gInts b).1.getD 2 0).toNat [] (gInts b).2.1).2.2 ≠ 0 then (0, 0, [], (gMems b ((gInts b).1.getD 2 0).toNat [] (gInts b).2.1).2.2)
  else if (gMems b ((gInts b).1.getD 2 0).toNat [] (gInts b).2.1).2.1 < b.length ∨ validB ((gInts b).1.getD 0 0) ((gInts b).1.getD 1 0) (gMems b ((gInts b).1.getD 2 0).toNat [] (gInts b).2.1).1 = false then (0, 0, [], 6)
  else ((gInts b).1.getD 0 0, (gInts b).1.getD 1 0, (gMems b ((gInts b).1.getD 2 0).toNat [] (gInts b).2.1).1, 0)

def dStep (b : List UInt8) (o : Nat) (s : DS) : DS := dHt b o (dPub b o (dName b o s))
theorem dName_err (b : List UInt8) (o : Nat) (s : DS) (h : s.e ≠ 0) : dName b o s = s := by
  unfold dName errAfter; rw [if_neg h, if_neg h]
theorem dPub_err (b : List UInt8) (o : Nat) (s : DS) (h : s.e ≠ 0) : dPub b o s = s := by
  unfold dPub; rw [if_neg (fun e => h e.1), if_neg h]
theorem dHt_err (b : List UInt8) (o : Nat) (s : DS) (h : s.e ≠ 0) : dHt b o s = s := by
  unfold dHt errAfter; rw [if_neg h, if_neg h]
theorem dStep_err (b : List UInt8) (o : Nat) (s : DS) (h : s.e ≠ 0) : dStep b o s = s := by
  rw [dStep, dName_err b o s h, dPub_err b o s h, dHt_err b o s h]

theorem set_mid {α : Type} (L1 : List α) (x v : α) (T : List α) : (L1 ++ x :: T).set L1.length v = L1 ++ v :: T := by
  rw [List.set_append_right _ _ (Nat.le_refl _), Nat.sub_self]; rfl
/-- A member's cells are written. -/
theorem write_mem (L1 L3 : List Value) (L2 : List Value) (h2 : L2.length = 18) (nm : Value) (d : List UInt8) (hd : d.length = 16) (ht : Value) :
    (putPub ((L1 ++ L2 ++ L3).toArray.setIfInBounds L1.length nm) L1.length d).setIfInBounds (L1.length + 17) ht = (L1 ++ (nm :: (Lib.byteCells d ++ [ht])) ++ L3).toArray := by
  obtain ⟨x, M, y, rfl, hM⟩ : ∃ x M y, L2 = x :: (M ++ [y]) ∧ M.length = 16 := by
    rcases L2 with _ | ⟨x, r⟩
    · cases h2
    · rcases List.eq_nil_or_concat r with rfl | ⟨M, y, rfl⟩
      · simp at h2
      · exact ⟨x, M, y, by simp, by simpa using h2⟩
  have e1 : (L1 ++ (x :: (M ++ [y])) ++ L3).toArray.setIfInBounds L1.length nm = (L1 ++ (nm :: (M ++ [y] ++ L3))).toArray := by
    rw [List.setIfInBounds_toArray, List.append_assoc, List.cons_append, set_mid]
  have e2 : putPub (L1 ++ (nm :: (M ++ [y] ++ L3))).toArray L1.length d = (L1 ++ (nm :: (Lib.byteCells d ++ (y :: L3)))).toArray := by
    unfold putPub
    have t1 : (L1 ++ (nm :: (M ++ [y] ++ L3))).take (L1.length + 1) = L1 ++ [nm] := by
      rw [List.take_append, List.take_of_length_le (by omega), show L1.length + 1 - L1.length = 1 by omega]; rfl
    have t2 : (L1 ++ (nm :: (M ++ [y] ++ L3))).drop (L1.length + 1 + 16) = y :: L3 := by
      rw [List.drop_append, List.drop_of_length_le (by omega), show L1.length + 1 + 16 - L1.length = 16 + 1 by omega, List.drop_succ_cons, List.append_assoc, List.drop_append, List.drop_of_length_le (by omega), hM]; rfl
    rw [List.toList_toArray, t1, t2]
    simp
  have e3 : (L1 ++ (nm :: (Lib.byteCells d ++ (y :: L3)))).toArray.setIfInBounds (L1.length + 17) ht = (L1 ++ (nm :: (Lib.byteCells d ++ (ht :: L3)))).toArray := by
    rw [List.setIfInBounds_toArray]
    have hl : (L1 ++ nm :: Lib.byteCells d).length = L1.length + 17 := by rw [List.length_append, List.length_cons, Lib.byteCells_length, hd]
    have := set_mid (L1 ++ nm :: Lib.byteCells d) y ht L3
    rw [hl] at this
    simpa using this
  rw [e1, e2, e3]
  simp

theorem gBytes_len (b : List UInt8) : (gBytes b).1.length ≤ b.length := by
  unfold gBytes
  split
  · exact Nat.zero_le _
  · dsimp only; rw [List.length_take, List.length_drop]; omega
theorem gMem_ok (b : List UInt8) : (gMem b).1.name.size ≤ b.length ∧ in64 (gMem b).1.ht := by
  have h0 : memZ.name.size ≤ b.length ∧ in64 memZ.ht := ⟨Nat.zero_le _, by decide, by decide⟩
  unfold gMem
  split
  · exact h0
  · split
    · exact h0
    · split
      · exact h0
      · refine ⟨?_, gInt_range _⟩
        have := gBytes_len b
        show ((gBytes b).1.toArray).size ≤ b.length
        rw [List.size_toArray]; exact this
/-- One more member. -/
theorem dStep_ok (b : List UInt8) (s : DS) (L1 L2 L3 : List Value) (he : s.e = 0) (h2 : L2.length = 18) (hY : s.Y = (L1 ++ L2 ++ L3).toArray) (hg : (gMem (b.drop s.off)).2.2 = 0) (_hle : s.off ≤ b.length) :
    dStep b L1.length s = ⟨s.off + (gMem (b.drop s.off)).2.1, 0, (L1 ++ memRow (gMem (b.drop s.off)).1 ++ L3).toArray⟩ ∧ (gMem (b.drop s.off)).1.pub.length = 16 ∧ s.off + (gMem (b.drop s.off)).2.1 ≤ b.length := by
  have hbl := gBytes_le (b.drop s.off)
  rw [bi_len_drop] at hbl
  by_cases g1 : (gBytes (b.drop s.off)).2.2 ≠ 0
  · rw [gMem, if_pos g1] at hg; exact absurd hg g1
  · have g1' : (gBytes (b.drop s.off)).2.2 = 0 := by simpa using g1
    by_cases g2 : (b.drop s.off).length - (gBytes (b.drop s.off)).2.1 < 16
    · rw [gMem, if_neg g1, if_pos g2] at hg; cases hg
    · by_cases g3 : (gInt ((b.drop s.off).drop ((gBytes (b.drop s.off)).2.1 + 16))).2.2 ≠ 0
      · rw [gMem, if_neg g1, if_neg g2, if_pos g3] at hg; exact absurd hg g3
      · have g3' : (gInt ((b.drop s.off).drop ((gBytes (b.drop s.off)).2.1 + 16))).2.2 = 0 := by simpa using g3
        have hgm : gMem (b.drop s.off) = (⟨⟨(gBytes (b.drop s.off)).1.toArray⟩, ((b.drop s.off).drop (gBytes (b.drop s.off)).2.1).take 16, (gInt ((b.drop s.off).drop ((gBytes (b.drop s.off)).2.1 + 16))).1⟩, (gBytes (b.drop s.off)).2.1 + 16 + (gInt ((b.drop s.off).drop ((gBytes (b.drop s.off)).2.1 + 16))).2.1, 0) := by
          rw [gMem, if_neg g1, if_neg g2, if_neg g3]
        have hil := gInt_le ((b.drop s.off).drop ((gBytes (b.drop s.off)).2.1 + 16))
        rw [bi_len_drop] at g2
        rw [List.drop_drop, bi_len_drop] at hil
        have hp16 : (((b.drop s.off).drop (gBytes (b.drop s.off)).2.1).take 16).length = 16 := by rw [List.length_take, bi_len_drop, bi_len_drop]; omega
        have d1 : dName b L1.length s = ⟨s.off + (gBytes (b.drop s.off)).2.1, 0, s.Y.setIfInBounds L1.length (.string ⟨(gBytes (b.drop s.off)).1.toArray⟩)⟩ := by
          unfold dName errAfter; rw [if_pos he, if_pos g1']
        have d2 : dPub b L1.length (dName b L1.length s) = ⟨s.off + (gBytes (b.drop s.off)).2.1 + 16, 0, putPub (s.Y.setIfInBounds L1.length (.string ⟨(gBytes (b.drop s.off)).1.toArray⟩)) L1.length ((b.drop (s.off + (gBytes (b.drop s.off)).2.1)).take 16)⟩ := by
          rw [d1]; unfold dPub; rw [if_pos ⟨rfl, by dsimp only; omega⟩]
        have d3 : dStep b L1.length s = ⟨s.off + (gBytes (b.drop s.off)).2.1 + 16 + (gInt (b.drop (s.off + (gBytes (b.drop s.off)).2.1 + 16))).2.1, 0, (putPub (s.Y.setIfInBounds L1.length (.string ⟨(gBytes (b.drop s.off)).1.toArray⟩)) L1.length ((b.drop (s.off + (gBytes (b.drop s.off)).2.1)).take 16)).setIfInBounds (L1.length + 17) (.int .i64 (gInt (b.drop (s.off + (gBytes (b.drop s.off)).2.1 + 16))).1)⟩ := by
          rw [dStep, d2]; unfold dHt errAfter
          rw [List.drop_drop, ← Nat.add_assoc] at g3'
          rw [if_pos rfl, if_pos g3']
        rw [hgm]
        refine ⟨?_, hp16, ?_⟩
        · rw [d3, hY]
          rw [List.drop_drop] at hp16
          rw [write_mem L1 L3 L2 h2 _ _ hp16 _]
          simp only [memRow, List.drop_drop, Nat.add_assoc]
        · dsimp only
          rw [List.drop_drop]
          omega
theorem dStep_bad (b : List UInt8) (o : Nat) (s : DS) (he : s.e = 0) (hg : (gMem (b.drop s.off)).2.2 ≠ 0) (ho : o + 17 < s.Y.size) : (dStep b o s).e = (gMem (b.drop s.off)).2.2 ∧ (dStep b o s).Y.size = s.Y.size := by
  have hbl := gBytes_le (b.drop s.off)
  rw [bi_len_drop] at hbl
  by_cases g1 : (gBytes (b.drop s.off)).2.2 ≠ 0
  · have d1 : dName b o s = ⟨s.off, (gBytes (b.drop s.off)).2.2, s.Y⟩ := by
      unfold dName errAfter; rw [if_pos he, if_neg g1]
    rw [dStep, d1, dPub_err _ _ _ (by exact g1), dHt_err _ _ _ (by exact g1), gMem, if_pos g1]
    exact ⟨rfl, rfl⟩
  · have g1' : (gBytes (b.drop s.off)).2.2 = 0 := by simpa using g1
    have d1 : dName b o s = ⟨s.off + (gBytes (b.drop s.off)).2.1, 0, s.Y.setIfInBounds o (.string ⟨(gBytes (b.drop s.off)).1.toArray⟩)⟩ := by
      unfold dName errAfter; rw [if_pos he, if_pos g1']
    by_cases g2 : (b.drop s.off).length - (gBytes (b.drop s.off)).2.1 < 16
    · have d2 : dPub b o (dName b o s) = ⟨s.off + (gBytes (b.drop s.off)).2.1, 5, s.Y.setIfInBounds o (.string ⟨(gBytes (b.drop s.off)).1.toArray⟩)⟩ := by
        rw [bi_len_drop] at g2
        rw [d1]; unfold dPub; rw [if_neg (fun h => by have := h.2; dsimp only at this; omega), if_pos rfl]
      rw [dStep, d2, dHt_err _ _ _ (by show (5 : Int) ≠ 0; decide), gMem, if_neg g1, if_pos g2]
      exact ⟨rfl, Array.size_setIfInBounds ..⟩
    · by_cases g3 : (gInt ((b.drop s.off).drop ((gBytes (b.drop s.off)).2.1 + 16))).2.2 ≠ 0
      · have hgm : (gMem (b.drop s.off)).2.2 = (gInt ((b.drop s.off).drop ((gBytes (b.drop s.off)).2.1 + 16))).2.2 := by rw [gMem, if_neg g1, if_neg g2, if_pos g3]
        rw [bi_len_drop] at g2
        have d2 : dPub b o (dName b o s) = ⟨s.off + (gBytes (b.drop s.off)).2.1 + 16, 0, putPub (s.Y.setIfInBounds o (.string ⟨(gBytes (b.drop s.off)).1.toArray⟩)) o ((b.drop (s.off + (gBytes (b.drop s.off)).2.1)).take 16)⟩ := by
          rw [d1]; unfold dPub; rw [if_pos ⟨rfl, by dsimp only; omega⟩]
        rw [hgm]
        rw [List.drop_drop, ← Nat.add_assoc] at g3 ⊢
        have hp16 : ((b.drop (s.off + (gBytes (b.drop s.off)).2.1)).take 16).length = 16 := by rw [List.length_take, bi_len_drop]; omega
        have d3 : dStep b o s = ⟨s.off + (gBytes (b.drop s.off)).2.1 + 16, (gInt (b.drop (s.off + (gBytes (b.drop s.off)).2.1 + 16))).2.2, putPub (s.Y.setIfInBounds o (.string ⟨(gBytes (b.drop s.off)).1.toArray⟩)) o ((b.drop (s.off + (gBytes (b.drop s.off)).2.1)).take 16)⟩ := by
          rw [dStep, d2]; unfold dHt errAfter
          rw [if_pos rfl, if_neg g3]
        rw [d3]
        exact ⟨rfl, by rw [putPub_size _ _ _ hp16 (by rw [Array.size_setIfInBounds]; exact ho), Array.size_setIfInBounds]⟩
      · exact absurd (by rw [gMem, if_neg g1, if_neg g2, if_neg g3]) hg

/-- After i members of n. -/
def DInv (b : List UInt8) (n off0 i : Nat) (s : DS) : Prop :=
  s.off ≤ b.length ∧ s.Y.size = 18 * n ∧
    ((s.e = 0 ∧ ∃ acc T, acc.length = i ∧ (∀ m ∈ acc, m.pub.length = 16) ∧ (∀ m ∈ acc, m.name.size ≤ b.length ∧ in64 m.ht) ∧ gMems b n [] off0 = gMems b (n - i) acc s.off ∧ s.Y = ((acc.map memRow).flatten ++ T).toArray) ∨
      (s.e ≠ 0 ∧ gMems b n [] off0 = ([], 0, s.e)))
theorem flat_len' (ms : List Mem) (h : ∀ m ∈ ms, m.pub.length = 16) : ((ms.map memRow).flatten).length = 18 * ms.length := by rw [flat_len ms h, Nat.mul_comm]
theorem DInv.zero (b : List UInt8) (n off0 : Nat) (Y : Array Value) (h : off0 ≤ b.length) (hY : Y.size = 18 * n) : DInv b n off0 0 ⟨off0, 0, Y⟩ :=
  ⟨h, hY, .inl ⟨rfl, [], Y.toList, rfl, by simp, by simp, rfl, by simp⟩⟩
theorem dStep_off (b : List UInt8) (o : Nat) (s : DS) (h : s.off ≤ b.length) : (dStep b o s).off ≤ b.length := by
  have h1 : (dName b o s).off ≤ b.length := by
    have := gBytes_le (b.drop s.off); rw [bi_len_drop] at this
    unfold dName; split <;> dsimp only <;> omega
  have h2 : (dPub b o (dName b o s)).off ≤ b.length := by
    unfold dPub; split
    · rename_i h; have := h.2; dsimp only; omega
    · exact h1
  have h3 := gInt_le (b.drop (dPub b o (dName b o s)).off)
  rw [bi_len_drop] at h3
  unfold dStep dHt; split <;> dsimp only <;> omega
theorem DInv.step {b : List UInt8} {n off0 i : Nat} {s : DS} (h : DInv b n off0 i s) (hi : i < n) : DInv b n off0 (i + 1) (dStep b (18 * i) s) := by
  obtain ⟨hle, hsz, h⟩ := h
  refine ⟨dStep_off _ _ _ hle, ?_⟩
  rcases h with ⟨he, acc, T, hacc, hpub, hok, hg, hY⟩ | ⟨he, hg⟩
  · by_cases hgm : (gMem (b.drop s.off)).2.2 = 0
    · have hfl := flat_len' acc hpub
      rw [hacc] at hfl
      have hT : 18 ≤ T.length := by
        rw [hY, List.size_toArray, List.length_append, hfl] at hsz; omega
      obtain ⟨e1, e2, e3⟩ := dStep_ok b s ((acc.map memRow).flatten) (T.take 18) (T.drop 18) he (by rw [List.length_take]; omega) (by rw [List.append_assoc, List.take_append_drop]; exact hY) hgm hle
      rw [hfl] at e1
      rw [e1]
      refine ⟨?_, .inl ⟨rfl, acc ++ [(gMem (b.drop s.off)).1], T.drop 18, by simp [hacc], ?_, ?_, ?_, ?_⟩⟩
      · rw [hY, List.size_toArray, List.length_append, hfl] at hsz
        rw [List.size_toArray, List.length_append, List.length_append, hfl, memRow_length _ e2, List.length_drop]; omega
      · intro m hm
        rcases List.mem_append.1 hm with hm | hm
        · exact hpub m hm
        · obtain rfl : m = (gMem (b.drop s.off)).1 := by simpa using hm
          exact e2
      · intro m hm
        rcases List.mem_append.1 hm with hm | hm
        · exact hok m hm
        · obtain rfl : m = (gMem (b.drop s.off)).1 := by simpa using hm
          have := gMem_ok (b.drop s.off)
          rw [bi_len_drop] at this
          exact ⟨by omega, this.2⟩
      · rw [hg, show n - i = (n - (i + 1)) + 1 by omega, gMems, if_neg (by simpa using hgm)]
      · simp
    · obtain ⟨e1, e2⟩ := dStep_bad b (18 * i) s he hgm (by omega)
      refine ⟨by rw [e2]; exact hsz, .inr ⟨by rw [e1]; exact hgm, ?_⟩⟩
      rw [hg, show n - i = (n - (i + 1)) + 1 by omega, gMems, if_pos hgm, e1]
  · rw [dStep_err _ _ _ he]
    exact ⟨hsz, .inr ⟨he, hg⟩⟩
end Go.Proofs.YtbgijijecipjeaaDoor
