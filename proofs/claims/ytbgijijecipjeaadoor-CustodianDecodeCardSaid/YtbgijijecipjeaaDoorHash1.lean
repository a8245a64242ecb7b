/- Contracts of small functions of hash: RotateLeft32, mix. -/
import Derived.Test.YtbgijijecipjeaaDoorChecked
import Derived.Test.YtbgijijecipjeaaDoorPureA
import Derived.Test.YtbgijijecipjeaaDoorBits
import Derived.Lib.Hide
namespace Go.Proofs.YtbgijijecipjeaaDoor
open Go.RowKit

theorem rotlN_int (x s : Nat) (hx : x < 4294967296) : bits BinOp.or IntKind.u32 ((x : Int) * 2 ^ s % 4294967296) ((x : Int) / 2 ^ (32 - s)) = (rotlN x s : Int) := by
  have h1 : ((x : Int) * 2 ^ s % 4294967296) = ((x * 2 ^ s % 4294967296 : Nat) : Int) := by simp
  have h2 : ((x : Int) / 2 ^ (32 - s)) = ((x / 2 ^ (32 - s) : Nat) : Int) := by simp
  rw [h1, h2, or32 _ _ (Nat.mod_lt _ (by decide)) (Nat.lt_of_le_of_lt (Nat.div_le_self _ _) hx), rotlN]

set_option maxHeartbeats 400000 in
theorem rotl_any (x : Nat) (k : Int) (w : World) (hx : x < 4294967296) (s : Nat) (hs : s < 32) (hk : (bits BinOp.and IntKind.u64 (IntKind.u64.wrap k) 31) = (s : Int)) : Calls Tryd.prog 104 #[.int .u32 x, .int .i64 k] w fun e w' => e = .returned (.int .u32 (rotlN x s)) ∧ w = w' := by
  have H := Lib.hid (rotlN_int x s hx)
  go_enter Tryd.func104, Tryd.ntmps104
  go_wp2
  go_ret
  exact ⟨congrArg (fun z => Ending.returned (Value.int .u32 z)) H.out, rfl⟩

theorem rot_neg (x i : Nat) (w : World) (hx : x < 4294967296) (hi : i < 32) (h0 : 0 < i) : Calls Tryd.prog 104 #[.int .u32 x, .int .i64 (-(i : Int))] w fun e w' => e = .returned (.int .u32 (rotlN x (32 - i))) ∧ w = w' :=
  rotl_any x _ w hx (32 - i) (by omega) (rot_count i hi h0)

theorem mixN_int (x i j k : Nat) (hx : x < 4294967296) : bits BinOp.xor IntKind.u32 (bits BinOp.xor IntKind.u32 (rotlN x (32 - i)) (rotlN x (32 - j))) (rotlN x (32 - k)) = (mixN x i j k : Int) := by
  rw [xor32 _ _ (rotlN_lt _ _ hx) (rotlN_lt _ _ hx), xor32 _ _ (Nat.xor_lt_two_pow (n := 32) (rotlN_lt _ _ hx) (rotlN_lt _ _ hx)) (rotlN_lt _ _ hx), mixN]

set_option maxHeartbeats 400000 in
theorem mix_any (x i j k : Nat) (w : World) (hx : x < 4294967296) (hi : i < 32) (hi0 : 0 < i) (hj : j < 32) (hj0 : 0 < j) (hk : k < 32) (hk0 : 0 < k) :
    Calls Tryd.prog 87 #[.int .u32 x, .int .i64 i, .int .i64 j, .int .i64 k] w fun e w' => e = .returned (.int .u32 (mixN x i j k)) ∧ w = w' := by
  have H := Lib.hid (mixN_int x i j k hx)
  go_enter Tryd.func87, Tryd.ntmps87
  go_wp2_with fail
  refine (rot_neg x i w hx hi hi0).mono ?_
  rintro e w' ⟨rfl, rfl⟩
  go_wp2_with fail
  refine (rot_neg x j w hx hj hj0).mono ?_
  rintro e w' ⟨rfl, rfl⟩
  go_wp2_with fail
  refine (rot_neg x k w hx hk hk0).mono ?_
  rintro e w' ⟨rfl, rfl⟩
  go_wp2_with fail
  go_ret
  exact ⟨congrArg (fun z => Ending.returned (Value.int .u32 z)) H.out, rfl⟩
end Go.Proofs.YtbgijijecipjeaaDoor
