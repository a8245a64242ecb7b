/- Words of 32 bits and bytes: the model's operations on casts of natural numbers. -/
import Derived.WalkKit
import Derived.WalkLawsBesides
namespace Go.Proofs.YtbgijijecipjeaaDoor
open Go.RowKit

theorem bits_nat (op : BinOp) (K : IntKind) (f : Nat → Nat → Nat) (hf : op = .and ∧ f = (· &&& ·) ∨ op = .or ∧ f = (· ||| ·) ∨ op = .xor ∧ f = (· ^^^ ·)) (hK : K.signed = false) (a b : Nat) (ha : a < 2 ^ K.bits) (hb : b < 2 ^ K.bits) :
    bits op K (a : Int) (b : Int) = ((f a b : Nat) : Int) := by
  have ha' : a % 2 ^ K.bits = a := Nat.mod_eq_of_lt ha
  have hb' : b % 2 ^ K.bits = b := Nat.mod_eq_of_lt hb
  have key : ∀ c : Nat, c < 2 ^ K.bits → K.wrap (c : Int) = (c : Int) := by
    intro c hc
    simp only [IntKind.wrap, hK, Bool.false_and, Bool.false_eq_true, if_false]
    rw [show ((2 : Int) ^ K.bits) = ((2 ^ K.bits : Nat) : Int) by simp, ← Int.natCast_emod, Nat.mod_eq_of_lt hc]
  rcases hf with ⟨rfl, rfl⟩ | ⟨rfl, rfl⟩ | ⟨rfl, rfl⟩
  · rw [← key _ (Nat.and_lt_two_pow a hb)]
    unfold bits
    simp only [BitVec.ofInt_natCast, BitVec.toNat_and, BitVec.toNat_ofNat, ha', hb']
  · rw [← key _ (Nat.or_lt_two_pow ha hb)]
    unfold bits
    simp only [BitVec.ofInt_natCast, BitVec.toNat_or, BitVec.toNat_ofNat, ha', hb']
  · rw [← key _ (Nat.xor_lt_two_pow ha hb)]
    unfold bits
    simp only [BitVec.ofInt_natCast, BitVec.toNat_xor, BitVec.toNat_ofNat, ha', hb']
theorem or32 (a b : Nat) (ha : a < 4294967296) (hb : b < 4294967296) : bits .or .u32 (a : Int) (b : Int) = ((a ||| b : Nat) : Int) := bits_nat .or .u32 (· ||| ·) (.inr (.inl ⟨rfl, rfl⟩)) rfl a b ha hb
theorem and32 (a b : Nat) (ha : a < 4294967296) (hb : b < 4294967296) : bits .and .u32 (a : Int) (b : Int) = ((a &&& b : Nat) : Int) := bits_nat .and .u32 (· &&& ·) (.inl ⟨rfl, rfl⟩) rfl a b ha hb
theorem xor32 (a b : Nat) (ha : a < 4294967296) (hb : b < 4294967296) : bits .xor .u32 (a : Int) (b : Int) = ((a ^^^ b : Nat) : Int) := bits_nat .xor .u32 (· ^^^ ·) (.inr (.inr ⟨rfl, rfl⟩)) rfl a b ha hb
theorem xor8 (a b : Nat) (ha : a < 256) (hb : b < 256) : bits .xor .u8 (a : Int) (b : Int) = ((a ^^^ b : Nat) : Int) := bits_nat .xor .u8 (· ^^^ ·) (.inr (.inr ⟨rfl, rfl⟩)) rfl a b ha hb
theorem or64 (a b : Nat) (ha : a < 18446744073709551616) (hb : b < 18446744073709551616) : bits .or .u64 (a : Int) (b : Int) = ((a ||| b : Nat) : Int) := bits_nat .or .u64 (· ||| ·) (.inr (.inl ⟨rfl, rfl⟩)) rfl a b ha hb
theorem xor64 (a b : Nat) (ha : a < 18446744073709551616) (hb : b < 18446744073709551616) : bits .xor .u64 (a : Int) (b : Int) = ((a ^^^ b : Nat) : Int) := bits_nat .xor .u64 (· ^^^ ·) (.inr (.inr ⟨rfl, rfl⟩)) rfl a b ha hb
theorem not64 (x : Nat) (h : x < 18446744073709551616) : bits BinOp.xor IntKind.u64 IntKind.u64.max (x : Int) = ((18446744073709551615 - x : Nat) : Int) := by
  have hm : IntKind.u64.max = ((18446744073709551615 : Nat) : Int) := by decide +kernel
  have hx : 18446744073709551615 ^^^ x = 18446744073709551615 - x := by
    have h1 : (BitVec.allOnes 64 ^^^ BitVec.ofNat 64 x).toNat = (~~~ (BitVec.ofNat 64 x)).toNat := by rw [BitVec.allOnes_xor]
    rw [BitVec.toNat_xor, BitVec.toNat_not, BitVec.toNat_allOnes, BitVec.toNat_ofNat, Nat.mod_eq_of_lt h] at h1
    simpa using h1
  rw [hm, xor64 _ _ (by decide) h, hx]
theorem wrap_u64_neg (n : Int) (h1 : -9223372036854775808 ≤ n) (h2 : n < 0) : IntKind.u64.wrap n = ((n + 18446744073709551616).toNat : Int) := by
  simp [IntKind.wrap, IntKind.bits, IntKind.signed]; omega
theorem wrap_u64_pos (n : Int) (h1 : 0 ≤ n) (h2 : n < 9223372036854775808) : IntKind.u64.wrap n = (n.toNat : Int) := by
  simp [IntKind.wrap, IntKind.bits, IntKind.signed]; omega
theorem rot_count (i : Nat) (hi : i < 32) (h0 : 0 < i) : bits .and .u64 (IntKind.u64.wrap (-(i : Int))) 31 = ((32 - i : Nat) : Int) := by
  have : ∀ i : Fin 32, 0 < i.val → bits .and .u64 (IntKind.u64.wrap (-(i.val : Int))) 31 = ((32 - i.val : Nat) : Int) := by decide +kernel
  exact this ⟨i, hi⟩ h0
/-- A byte turned by another. -/
theorem xorB (a : Nat) (y : Int) (f : UInt8) (hy : y = (a : Int) % 256) : bits BinOp.xor IntKind.u8 y (f.toNat : Int) = ((UInt8.ofNat a ^^^ f).toNat : Int) := by
  have h : y = ((a % 256 : Nat) : Int) := by omega
  rw [h, xor8 _ _ (Nat.mod_lt _ (by decide)) f.toNat_lt]
  simp
theorem pow8 (m k : Nat) : (m : Int) / 2 ^ (8 * k) = ((m / 256 ^ k : Nat) : Int) := by
  rw [show (256 : Nat) = 2 ^ 8 from rfl, ← Nat.pow_mul]
  simp
end Go.Proofs.YtbgijijecipjeaaDoor
