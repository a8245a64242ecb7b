/- The maps of custodian.Valid: sets of keys. -/
import Derived.Test.YtbgijijecipjeaaDoorEq
import Derived.Maps.Own
import Derived.Maps.OwnSet
import Derived.Maps.Views
import Derived.DeepKeys3
namespace Go.Proofs.YtbgijijecipjeaaDoor
open Go.RowKit Go.IntWalk Go.Maps Go.Proofs.YtbgijijecipjeaaDoorW.PrintWords

theorem strKeyed : Keyed Tryd.prog 9 := string_keyed Tryd.underlying9
theorem digKeyed : Keyed Tryd.prog 36 := Keyed.of_law (deep_law (m := 4) (by decide) (by kernel_rfl) (by kernel_rfl) (by rw [Tryd.underlying36]))
/-- How many different ones there are. -/
def cnt {α : Type} [DecidableEq α] : List α → Nat
  | [] => 0
  | x :: l => if x ∈ l then cnt l else cnt l + 1
theorem cnt_le {α : Type} [DecidableEq α] (l : List α) : cnt l ≤ l.length := by
  induction l with
  | nil => exact Nat.le_refl _
  | cons x l ih => simp only [cnt, List.length_cons]; split <;> omega
theorem cnt_nodup {α : Type} [DecidableEq α] (l : List α) : cnt l = l.length ↔ l.Nodup := by
  induction l with
  | nil => simp [cnt]
  | cons x l ih =>
    have := cnt_le l
    simp only [cnt, List.length_cons, List.nodup_cons]
    split
    · rename_i h; constructor
      · intro e; omega
      · intro e; exact absurd h e.1
    · rename_i h; rw [← ih]; constructor
      · intro e; exact ⟨h, by omega⟩
      · intro e; omega

/-- How many different keys a list of strings has. -/
def addS (acc : List (List UInt8)) (x : List UInt8) : List (List UInt8) := if x ∈ acc then acc else acc ++ [x]
theorem any_sameKey (acc : List (List UInt8)) (x : List UInt8) : (acc.map Lit.string).any (fun y => y.sameKey (.string x)) = decide (x ∈ acc) := by
  induction acc with
  | nil => simp
  | cons a acc ih =>
    rw [List.map_cons, List.any_cons, ih]
    simp only [Lit.sameKey, List.mem_cons]
    by_cases h : a = x
    · subst h; simp
    · have h1 : (a == x) = false := by simp [h]
      have h2 : ¬ x = a := fun e => h e.symm
      simp [h1, h2]
theorem addKey_map (acc : List (List UInt8)) (x : List UInt8) : addKey (acc.map Lit.string) (.string x) = (addS acc x).map Lit.string := by
  unfold addKey addS
  rw [any_sameKey]
  by_cases h : x ∈ acc
  · simp [h]
  · simp [h]
theorem foldl_addKey (ks acc : List (List UInt8)) : (ks.map Lit.string).foldl addKey (acc.map Lit.string) = (ks.foldl addS acc).map Lit.string := by
  induction ks generalizing acc with
  | nil => rfl
  | cons x ks ih => rw [List.map_cons, List.foldl_cons, List.foldl_cons, addKey_map, ih]
theorem addS_len (ks acc : List (List UInt8)) : (ks.foldl addS acc).length ≤ acc.length + ks.length := by
  induction ks generalizing acc with
  | nil => simp
  | cons x ks ih =>
    have := ih (addS acc x)
    have h2 : (addS acc x).length ≤ acc.length + 1 := by unfold addS; split <;> simp
    rw [List.foldl_cons, List.length_cons]; omega
theorem addS_nodup (ks acc : List (List UInt8)) (ha : acc.Nodup) : (ks.foldl addS acc).length = acc.length + ks.length ↔ (acc ++ ks).Nodup := by
  induction ks generalizing acc with
  | nil => simp [ha]
  | cons x ks ih =>
    rw [List.foldl_cons, List.length_cons]
    by_cases h : x ∈ acc
    · have h1 : addS acc x = acc := by simp [addS, h]
      rw [h1]
      have := addS_len ks acc
      constructor
      · intro e; omega
      · intro e
        rw [List.nodup_append] at e
        exact absurd rfl (e.2.2 x h x (List.mem_cons_self ..))
    · have h1 : addS acc x = acc ++ [x] := by simp [addS, h]
      have h2 : (acc ++ [x]).Nodup := by
        rw [List.nodup_append]
        refine ⟨ha, by simp, fun a ha' b hb => ?_⟩
        obtain rfl : b = x := by simpa using hb
        exact fun e => h (e ▸ ha')
      have := ih (acc ++ [x]) h2
      rw [h1, show acc.length + (ks.length + 1) = (acc ++ [x]).length + ks.length by simp; omega, this]
      simp

theorem keyOf_dig (l : List UInt8) (h : l.length = 16) : keyOf Tryd.prog 36 (.agg (Lib.byteCells l).toArray) = some (.string (keyBytes (digLits l))) := by
  have hk : Tryd.prog.keyType 36 = true := by kernel_rfl
  have hn : ∃ d, Tryd.prog.types.size + 1 = d + 2 := ⟨_, rfl⟩
  obtain ⟨d, hd⟩ := hn
  unfold keyOf
  rw [Tryd.underlying36]
  simp only [hk, formed_dig l h, Bool.and_self, if_true]
  rw [hd, show (Value.agg (Lib.byteCells l).toArray).cells.toList = Lib.byteCells l from rfl, key_dig d l h]
  rfl
theorem pubKey_inj (a b : List UInt8) (ha : a.length = 16) (hb : b.length = 16) (h : keyBytes (digLits a) = keyBytes (digLits b)) : a = b :=
  digLits_inj a b (keyLits_inj (key_dig 0 a ha) (key_dig 0 b hb) h)
end Go.Proofs.YtbgijijecipjeaaDoor
