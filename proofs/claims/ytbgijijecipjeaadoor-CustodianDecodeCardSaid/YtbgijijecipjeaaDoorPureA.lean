/- Plain words: numbers of 32 bits, SHA-256 on numbers. Plain words: the message schedule and the compression of SHA-256 on natural numbers. Plain words: the compression of SHA-256 on natural numbers. Plain words: SHA-256 of a message that comes piece by piece. Plain words: bytes as numbers; the last bytes of a message; the bytes of the state. Plain words: the encoding of integers. Plain words: digests of parts. Plain words: the bytes of a number from the least on, and the encoding of integers over them. Plain words: decoding of integers. Plain words: decoding of lists. Plain words: what is encoded is decoded. -/
import Derived.WalkKit
import Derived.Lib.BufferWrite
import Derived.Test.YtbgijijecipjeaaDoorWWords
import Derived.Test.YtbgijijecipjeaaDoorBits
namespace Go.Proofs.YtbgijijecipjeaaDoor
open Go.RowKit

/-- A number of 32 bits turned left. -/
def rotlN (x k : Nat) : Nat := (x * 2 ^ k % 4294967296) ||| (x / 2 ^ (32 - k))
/-- The exclusive or of three right rotations. -/
def mixN (x i j k : Nat) : Nat := (rotlN x (32 - i) ^^^ rotlN x (32 - j)) ^^^ rotlN x (32 - k)

theorem rotlN_lt (x k : Nat) (hx : x < 4294967296) : rotlN x k < 4294967296 := by
  unfold rotlN
  refine Nat.or_lt_two_pow (n := 32) (Nat.mod_lt _ (by decide)) ?_
  exact Nat.lt_of_le_of_lt (Nat.div_le_self _ _) hx
theorem mixN_lt (x i j k : Nat) (hx : x < 4294967296) : mixN x i j k < 4294967296 := by
  unfold mixN
  exact Nat.xor_lt_two_pow (n := 32) (Nat.xor_lt_two_pow (n := 32) (rotlN_lt _ _ hx) (rotlN_lt _ _ hx)) (rotlN_lt _ _ hx)

end Go.Proofs.YtbgijijecipjeaaDoor
namespace Go.Proofs.YtbgijijecipjeaaDoor
open Go.RowKit

/-- The number that bytes say, the greatest first. -/
def be (l : List UInt8) : Nat := l.foldl (fun a c => a * 256 + c.toNat) 0
theorem be_snoc (l : List UInt8) (c : UInt8) : be (l ++ [c]) = be l * 256 + c.toNat := by simp [be, List.foldl_append]
theorem be_lt (l : List UInt8) : be l < 256 ^ l.length := by
  rw [← List.reverse_reverse l]
  generalize l.reverse = r
  induction r with
  | nil => simp [be]
  | cons c r ih =>
    rw [List.reverse_cons, be_snoc, List.length_append]
    have := c.toNat_lt
    simp only [List.length_singleton, Nat.pow_succ]
    omega
/-- The next word of the schedule. -/
def nextN (b : List UInt8) (l : List Nat) (t : Nat) : Nat :=
  if t < 16 then be ((b.drop (4 * t)).take 4)
  else (((l.getD (t - 16) 0 + ((rotlN (l.getD (t - 15) 0) 25 ^^^ rotlN (l.getD (t - 15) 0) 14) ^^^ (l.getD (t - 15) 0) / 8)) % 4294967296 + l.getD (t - 7) 0) % 4294967296
    + ((rotlN (l.getD (t - 2) 0) 15 ^^^ rotlN (l.getD (t - 2) 0) 13) ^^^ (l.getD (t - 2) 0) / 1024)) % 4294967296
/-- The first t words of the schedule. -/
def sched (b : List UInt8) : Nat → List Nat
  | 0 => []
  | t + 1 => sched b t ++ [nextN b (sched b t) t]
theorem sched_length (b : List UInt8) (t : Nat) : (sched b t).length = t := by
  induction t with
  | zero => rfl
  | succ t ih => simp [sched, ih]
theorem nextN_lt (b : List UInt8) (l : List Nat) (t : Nat) : nextN b l t < 4294967296 := by
  unfold nextN
  split
  · have h := be_lt ((b.drop (4 * t)).take 4)
    have h2 : ((b.drop (4 * t)).take 4).length ≤ 4 := List.length_take_le _ _
    exact Nat.lt_of_lt_of_le h (Nat.le_trans (Nat.pow_le_pow_right (by decide) h2) (by decide))
  · exact Nat.mod_lt _ (by decide)
theorem sched_lt (b : List UInt8) (t : Nat) : ∀ x ∈ sched b t, x < 4294967296 := by
  induction t with
  | zero => intro x hx; simp [sched] at hx
  | succ t ih =>
    intro x hx
    simp only [sched, List.mem_append, List.mem_singleton] at hx
    rcases hx with hx | rfl
    · exact ih x hx
    · exact nextN_lt _ _ _
theorem getD_lt {l : List Nat} (h : ∀ x ∈ l, x < 4294967296) (i : Nat) : l.getD i 0 < 4294967296 := by
  rw [List.getD_eq_getElem?_getD]
  rcases Nat.lt_or_ge i l.length with hi | hi
  · rw [List.getElem?_eq_getElem hi]; exact h _ (List.getElem_mem hi)
  · rw [List.getElem?_eq_none hi]; decide
theorem be_step (x c : Nat) (hx : x < 16777216) (hc : c < 256) : (x * 256 % 4294967296) ||| c = x * 256 + c := by
  rw [Nat.mod_eq_of_lt (by omega)]
  have := Nat.shiftLeft_add_eq_or_of_lt (i := 8) (b := c) hc x
  rw [Nat.shiftLeft_eq] at this
  exact this.symm
/-- Whole numbers of 32 bits as a row of cells. -/
def w32 (l : List Nat) : Array Value := (l.map fun (x : Nat) => Value.int .u32 (x : Int)).toArray
theorem w32_at (l : List Nat) (i : Nat) (h : i < l.length) : (w32 l)[i]? = some (.int .u32 (l.getD i 0 : Int)) := by
  simp [w32, List.getElem?_eq_getElem h, List.getD_eq_getElem?_getD]
theorem w32_size (l : List Nat) : (w32 l).size = l.length := by simp [w32]
theorem w32_set (l : List Nat) (i x : Nat) : (w32 l).setIfInBounds i (.int .u32 (x : Int)) = w32 (l.set i x) := by
  simp [w32, List.map_set]
theorem w32_one (l : List Nat) : (w32 l).all (·.oneCell') = true := by simp [w32, Value.oneCell']
theorem sched_set (b : List UInt8) (t x : Nat) (ht : t < 64) : (sched b t ++ List.replicate (64 - t) 0).set t x = sched b t ++ [x] ++ List.replicate (64 - (t + 1)) 0 := by
  rw [List.set_append_right _ _ (by rw [sched_length]; omega), sched_length, Nat.sub_self, show 64 - t = (64 - (t + 1)) + 1 by omega, List.replicate_succ, List.set_cons_zero]
  simp
theorem sched_set_zero (b : List UInt8) (t : Nat) (ht : t < 64) : (sched b t ++ List.replicate (64 - t) 0).set t 0 = sched b t ++ List.replicate (64 - t) 0 := by
  rw [sched_set b t 0 ht, show 64 - t = (64 - (t + 1)) + 1 by omega, List.replicate_succ]
  simp
theorem sched_next (b : List UInt8) (t x : Nat) (ht : t < 64) (hx : x = nextN b (sched b t) t) : (sched b t ++ List.replicate (64 - t) 0).set t x = sched b (t + 1) ++ List.replicate (64 - (t + 1)) 0 := by
  rw [sched_set b t x ht, hx]; rfl
theorem sched_old (b : List UInt8) (t i : Nat) (hi : i < t) (z : List Nat) : (sched b t ++ z).getD i 0 = (sched b t).getD i 0 := by
  simp [List.getD_eq_getElem?_getD, List.getElem?_append_left (show i < (sched b t).length by rw [sched_length]; exact hi)]
theorem set_getD_same (l : List Nat) (i x : Nat) (h : i < l.length) : (l.set i x).getD i 0 = x := by
  simp [List.getD_eq_getElem?_getD, h]
theorem be_take (l : List UInt8) (k : Nat) (hk : k < l.length) : be (l.take (k + 1)) = be (l.take k) * 256 + (l.getD k 0).toNat := by
  rw [List.take_succ_eq_append_getElem hk, be_snoc]
  simp [List.getD_eq_getElem?_getD, hk]
theorem be_small (l : List UInt8) (k : Nat) (hk : k < 4) : be (l.take k) < 16777216 := by
  have h := be_lt (l.take k)
  have h2 : (l.take k).length ≤ 3 := Nat.le_trans (List.length_take_le _ _) (by omega)
  exact Nat.lt_of_lt_of_le h (Nat.le_trans (Nat.pow_le_pow_right (by decide) h2) (by decide))
end Go.Proofs.YtbgijijecipjeaaDoor
namespace Go.Proofs.YtbgijijecipjeaaDoor
open Go.RowKit

/-- The round constants. -/
def shaK : List Nat := [
  0x428a2f98, 0x71374491, 0xb5c0fbcf, 0xe9b5dba5, 0x3956c25b, 0x59f111f1, 0x923f82a4, 0xab1c5ed5,
  0xd807aa98, 0x12835b01, 0x243185be, 0x550c7dc3, 0x72be5d74, 0x80deb1fe, 0x9bdc06a7, 0xc19bf174,
  0xe49b69c1, 0xefbe4786, 0x0fc19dc6, 0x240ca1cc, 0x2de92c6f, 0x4a7484aa, 0x5cb0a9dc, 0x76f988da,
  0x983e5152, 0xa831c66d, 0xb00327c8, 0xbf597fc7, 0xc6e00bf3, 0xd5a79147, 0x06ca6351, 0x14292967,
  0x27b70a85, 0x2e1b2138, 0x4d2c6dfc, 0x53380d13, 0x650a7354, 0x766a0abb, 0x81c2c92e, 0x92722c85,
  0xa2bfe8a1, 0xa81a664b, 0xc24b8b70, 0xc76c51a3, 0xd192e819, 0xd6990624, 0xf40e3585, 0x106aa070,
  0x19a4c116, 0x1e376c08, 0x2748774c, 0x34b0bcb5, 0x391c0cb3, 0x4ed8aa4a, 0x5b9cca4f, 0x682e6ff3,
  0x748f82ee, 0x78a5636f, 0x84c87814, 0x8cc70208, 0x90befffa, 0xa4506ceb, 0xbef9a3f7, 0xc67178f2]
theorem shaK_lt : ∀ x ∈ shaK, x < 4294967296 := by decide +kernel
theorem shaK_length : shaK.length = 64 := rfl

/-- Eight words. -/
structure St where
  a : Nat
  b : Nat
  c : Nat
  d : Nat
  e : Nat
  f : Nat
  g : Nat
  h : Nat
structure St.Ok (s : St) : Prop where
  a : s.a < 4294967296
  b : s.b < 4294967296
  c : s.c < 4294967296
  d : s.d < 4294967296
  e : s.e < 4294967296
  f : s.f < 4294967296
  g : s.g < 4294967296
  h : s.h < 4294967296
def St.list (s : St) : List Nat := [s.a, s.b, s.c, s.d, s.e, s.f, s.g, s.h]
def t1N (s : St) (k w : Nat) : Nat := (s.h + mixN s.e 6 11 25 + ((s.e &&& s.f) ^^^ ((4294967295 - s.e) &&& s.g)) + k + w) % 4294967296
def t2N (s : St) : Nat := (mixN s.a 2 13 22 + ((s.a &&& s.b) ^^^ (s.a &&& s.c) ^^^ (s.b &&& s.c))) % 4294967296
/-- One round. -/
def rndN (s : St) (k w : Nat) : St := ⟨(t1N s k w + t2N s) % 4294967296, s.a, s.b, s.c, (s.d + t1N s k w) % 4294967296, s.e, s.f, s.g⟩
/-- t rounds. -/
def rndsN (s : St) (ws : List Nat) : Nat → St
  | 0 => s
  | t + 1 => rndN (rndsN s ws t) (shaK.getD t 0) (ws.getD t 0)
def addN (s v : St) : St := ⟨(s.a + v.a) % 4294967296, (s.b + v.b) % 4294967296, (s.c + v.c) % 4294967296, (s.d + v.d) % 4294967296, (s.e + v.e) % 4294967296, (s.f + v.f) % 4294967296, (s.g + v.g) % 4294967296, (s.h + v.h) % 4294967296⟩
/-- The compression of a block of 64 bytes. -/
def cmpN (s : St) (b : List UInt8) : St := addN s (rndsN s (sched b 64) 64)
theorem rndN_ok {s : St} (h : s.Ok) (k w : Nat) : (rndN s k w).Ok := ⟨Nat.mod_lt _ (by decide), h.a, h.b, h.c, Nat.mod_lt _ (by decide), h.e, h.f, h.g⟩
theorem rndsN_ok {s : St} (h : s.Ok) (ws : List Nat) (t : Nat) : (rndsN s ws t).Ok := by
  induction t with
  | zero => exact h
  | succ t ih => exact rndN_ok ih _ _
theorem addN_ok (s v : St) : (addN s v).Ok := ⟨Nat.mod_lt _ (by decide), Nat.mod_lt _ (by decide), Nat.mod_lt _ (by decide), Nat.mod_lt _ (by decide), Nat.mod_lt _ (by decide), Nat.mod_lt _ (by decide), Nat.mod_lt _ (by decide), Nat.mod_lt _ (by decide)⟩
theorem cmpN_ok (s : St) (b : List UInt8) : (cmpN s b).Ok := addN_ok _ _
theorem t1N_lt (s : St) (k w : Nat) : t1N s k w < 4294967296 := Nat.mod_lt _ (by decide)
theorem t2N_lt (s : St) : t2N s < 4294967296 := Nat.mod_lt _ (by decide)
/-- The bytes of the eight words. -/
def w4 (x : Nat) : List UInt8 := [UInt8.ofNat (x / 16777216), UInt8.ofNat (x / 65536), UInt8.ofNat (x / 256), UInt8.ofNat x]
def St.bytes (s : St) : List UInt8 := w4 s.a ++ w4 s.b ++ w4 s.c ++ w4 s.d ++ w4 s.e ++ w4 s.f ++ w4 s.g ++ w4 s.h
/-- The words s of which those at i places of each half have been raised by v. -/
def addTo (s v : St) (i : Nat) : List Nat := [
  if 0 < i then (s.a + v.a) % 4294967296 else s.a, if 1 < i then (s.b + v.b) % 4294967296 else s.b, if 2 < i then (s.c + v.c) % 4294967296 else s.c, if 3 < i then (s.d + v.d) % 4294967296 else s.d,
  if 0 < i then (s.e + v.e) % 4294967296 else s.e, if 1 < i then (s.f + v.f) % 4294967296 else s.f, if 2 < i then (s.g + v.g) % 4294967296 else s.g, if 3 < i then (s.h + v.h) % 4294967296 else s.h]
theorem addTo_step (s v : St) (i : Nat) (hi : i < 4) :
    ((addTo s v i).set i (((addTo s v i).getD i 0 + [v.a, v.b, v.c, v.d].getD i 0) % 4294967296)).set (i + 4) (((addTo s v i).getD (i + 4) 0 + [v.e, v.f, v.g, v.h].getD i 0) % 4294967296) = addTo s v (i + 1) := by
  rcases (show i = 0 ∨ i = 1 ∨ i = 2 ∨ i = 3 by omega) with rfl | rfl | rfl | rfl <;> rfl
theorem addTo_zero (s v : St) : addTo s v 0 = s.list := rfl
theorem addTo_four (s v : St) : addTo s v 4 = (addN s v).list := rfl
theorem addTo_length (s v : St) (i : Nat) : (addTo s v i).length = 8 := rfl
end Go.Proofs.YtbgijijecipjeaaDoor
namespace Go.Proofs.YtbgijijecipjeaaDoor
open Go.RowKit

def shaInit : St := ⟨0x6a09e667, 0xbb67ae85, 0x3c6ef372, 0xa54ff53a, 0x510e527f, 0x9b05688c, 0x1f83d9ab, 0x5be0cd19⟩
theorem shaInit_ok : shaInit.Ok := ⟨by decide, by decide, by decide, by decide, by decide, by decide, by decide, by decide⟩
/-- The state after k blocks. -/
def blocksN (m : List UInt8) : Nat → St
  | 0 => shaInit
  | k + 1 => cmpN (blocksN m k) ((m.drop (64 * k)).take 64)
theorem blocksN_ok (m : List UInt8) (k : Nat) : (blocksN m k).Ok := by
  cases k with
  | zero => exact shaInit_ok
  | succ k => exact cmpN_ok _ _
theorem blocksN_append (m x : List UInt8) (k : Nat) (h : 64 * k ≤ m.length) : blocksN (m ++ x) k = blocksN m k := by
  induction k with
  | zero => rfl
  | succ k ih =>
    rw [blocksN, blocksN, ih (by omega), List.drop_append_of_le_length (by omega), List.take_append_of_le_length (by rw [List.length_drop]; omega)]
/-- A stream's parts stand for the message m. -/
structure Rep (s : St) (blk m : List UInt8) : Prop where
  len : blk.length = 64
  st : s = blocksN m (m.length / 64)
  tail : blk.take (m.length % 64) = m.drop (64 * (m.length / 64))
theorem Rep.ok {s : St} {blk m : List UInt8} (h : Rep s blk m) : s.Ok := h.st ▸ blocksN_ok _ _
/-- An empty block. -/
def zB64 : List UInt8 := List.replicate 64 0
theorem Rep.nil : Rep shaInit zB64 [] := ⟨by simp [zB64], rfl, rfl⟩
/-- The block after as many bytes as fit have come in. -/
def putBlk (blk : List UInt8) (at_ : Nat) (x : List UInt8) : List UInt8 := blk.take at_ ++ x ++ blk.drop (at_ + x.length)
theorem putBlk_length (blk : List UInt8) (a : Nat) (x : List UInt8) (hb : blk.length = 64) (h : a + x.length ≤ 64) : (putBlk blk a x).length = 64 := by
  simp [putBlk, hb]; omega
theorem Rep.part {s : St} {blk m : List UInt8} (h : Rep s blk m) (x : List UInt8) (hx : m.length % 64 + x.length < 64) : Rep s (putBlk blk (m.length % 64) x) (m ++ x) := by
  have h1 : (m ++ x).length / 64 = m.length / 64 := by rw [List.length_append]; omega
  have h2 : (m ++ x).length % 64 = m.length % 64 + x.length := by rw [List.length_append]; omega
  refine ⟨putBlk_length _ _ _ h.len (by omega), ?_, ?_⟩
  · rw [h1, blocksN_append _ _ _ (by omega)]; exact h.st
  · have hl := h.len
    have hle : (blk.take (m.length % 64)).length = m.length % 64 := by rw [List.length_take]; omega
    rw [h1, h2, List.drop_append_of_le_length (by omega), ← h.tail, putBlk, List.take_append_of_le_length (by rw [List.length_append, hle]; omega), List.take_of_length_le (by rw [List.length_append, hle]; omega)]
theorem Rep.full {s : St} {blk m : List UInt8} (h : Rep s blk m) (x : List UInt8) (hx : m.length % 64 + x.length = 64) : Rep (cmpN s (putBlk blk (m.length % 64) x)) (putBlk blk (m.length % 64) x) (m ++ x) := by
  have h1 : (m ++ x).length / 64 = m.length / 64 + 1 := by rw [List.length_append]; omega
  have h2 : (m ++ x).length % 64 = 0 := by rw [List.length_append]; omega
  have hl := h.len
  refine ⟨putBlk_length _ _ _ h.len (by omega), ?_, ?_⟩
  · rw [h1, blocksN, blocksN_append _ _ _ (by omega), ← h.st]
    congr 1
    rw [List.drop_append_of_le_length (by omega), ← h.tail, putBlk, List.drop_of_length_le (show blk.length ≤ m.length % 64 + x.length by omega), List.append_nil]
    exact (List.take_of_length_le (by rw [List.length_append, List.length_take]; omega)).symm
  · rw [h1, h2, List.take_zero, List.drop_of_length_le (by rw [List.length_append]; omega)]
/-- A stream's cells. -/
def strm (s : St) (blk : List UInt8) (n : Nat) : List Value := (s.list.map fun (x : Nat) => Value.int .u32 (x : Int)) ++ (Lib.byteCells blk ++ [Value.int .u64 (n : Int)])
theorem strm_length (s : St) (blk : List UInt8) (n : Nat) (h : blk.length = 64) : (strm s blk n).length = 73 := by
  simp [strm, St.list, Lib.byteCells_length, h]
theorem strm_put (s : St) (blk : List UInt8) (n a : Nat) (x : List UInt8) (hb : blk.length = 64) (ha : a + x.length ≤ 64) :
    (strm s blk n).take (8 + a) ++ Lib.byteCells x ++ (strm s blk n).drop (8 + a + x.length) = strm s (putBlk blk a x) n := by
  have h8 : (s.list.map fun (x : Nat) => Value.int .u32 (x : Int)).length = 8 := rfl
  unfold strm
  generalize s.list.map (fun (x : Nat) => Value.int .u32 (x : Int)) = S at h8 ⊢
  rw [← h8, List.take_append, List.drop_append, List.take_of_length_le (by omega), List.drop_of_length_le (by omega)]
  have e1 : S.length + a - S.length = a := by omega
  have e2 : S.length + a + x.length - S.length = a + x.length := by omega
  rw [e1, e2, List.take_append_of_le_length (by rw [Lib.byteCells_length]; omega), List.drop_append_of_le_length (by rw [Lib.byteCells_length]; omega)]
  simp [putBlk, Lib.byteCells]
/-- The bytes of a number of 64 bits. -/
def be64 (n : Nat) : List UInt8 := [UInt8.ofNat (n / 72057594037927936), UInt8.ofNat (n / 281474976710656), UInt8.ofNat (n / 1099511627776), UInt8.ofNat (n / 4294967296), UInt8.ofNat (n / 16777216), UInt8.ofNat (n / 65536), UInt8.ofNat (n / 256), UInt8.ofNat n]
/-- What pads a message of n bytes. -/
def padN (n : Nat) : List UInt8 := 128 :: (List.replicate ((119 - n % 64) % 64) 0 ++ be64 (8 * n))
theorem padN_length (n : Nat) : (padN n).length = 9 + (119 - n % 64) % 64 := by simp [padN, be64]; omega
/-- SHA-256. -/
def sha (m : List UInt8) : List UInt8 := (blocksN (m ++ padN m.length) ((m ++ padN m.length).length / 64)).bytes
theorem w4_length (x : Nat) : (w4 x).length = 4 := rfl
theorem bytes_length (s : St) : s.bytes.length = 32 := by simp [St.bytes, w4_length]
theorem sha_length (m : List UInt8) : (sha m).length = 32 := bytes_length _
end Go.Proofs.YtbgijijecipjeaaDoor
namespace Go.Proofs.YtbgijijecipjeaaDoor
open Go.RowKit Go.Proofs.YtbgijijecipjeaaDoorW.PrintWords

/-- Bytes as numbers. -/
def bi (l : List UInt8) : List Int := l.map fun (b : UInt8) => (b.toNat : Int)
theorem bi_append (a b : List UInt8) : bi (a ++ b) = bi a ++ bi b := by simp [bi]
theorem bi_length (l : List UInt8) : (bi l).length = l.length := by simp [bi]
theorem nums_bi (l : List UInt8) : nums .u8 (bi l) = Lib.byteCells l := by simp [nums, bi, Lib.byteCells]
def sliceLen : Value → Nat
  | .slice _ n _ => n
  | _ => 0
theorem u8_ofNat (n : Nat) : ((UInt8.ofNat n).toNat : Int) = (n : Int) % 256 := by simp
theorem be64_at (n k : Nat) (hk : k < 8) : (be64 n).getD k 0 = UInt8.ofNat (n / 2 ^ (56 - 8 * k)) := by
  rcases (show k = 0 ∨ k = 1 ∨ k = 2 ∨ k = 3 ∨ k = 4 ∨ k = 5 ∨ k = 6 ∨ k = 7 by omega) with rfl | rfl | rfl | rfl | rfl | rfl | rfl | rfl <;> simp [be64]
theorem bytes_at (s : St) (k : Nat) (hk : k < 32) : s.bytes.getD k 0 = UInt8.ofNat (s.list.getD (k / 4) 0 / 2 ^ (24 - 8 * (k % 4))) := by
  rcases (show k = 0 ∨ k = 1 ∨ k = 2 ∨ k = 3 ∨ k = 4 ∨ k = 5 ∨ k = 6 ∨ k = 7 ∨ k = 8 ∨ k = 9 ∨ k = 10 ∨ k = 11 ∨ k = 12 ∨ k = 13 ∨ k = 14 ∨ k = 15 ∨ k = 16 ∨ k = 17 ∨ k = 18 ∨ k = 19 ∨ k = 20 ∨ k = 21 ∨ k = 22 ∨ k = 23 ∨ k = 24 ∨ k = 25 ∨ k = 26 ∨ k = 27 ∨ k = 28 ∨ k = 29 ∨ k = 30 ∨ k = 31 by omega) with rfl | rfl | rfl | rfl | rfl | rfl | rfl | rfl | rfl | rfl | rfl | rfl | rfl | rfl | rfl | rfl | rfl | rfl | rfl | rfl | rfl | rfl | rfl | rfl | rfl | rfl | rfl | rfl | rfl | rfl | rfl | rfl <;> simp [St.bytes, St.list, w4]
theorem strOfNums_bi (l : List UInt8) : strOfNums (bi l) = ⟨l.toArray⟩ := by
  unfold strOfNums bi
  congr 2
  rw [List.map_map]
  conv => rhs; rw [← List.map_id l]
  apply List.map_congr_left
  intro b _
  simp
end Go.Proofs.YtbgijijecipjeaaDoor
namespace Go.Proofs.YtbgijijecipjeaaDoor
open Go.RowKit

/-- How many bytes a number takes, at most k. -/
def nbF (m : Nat) : Nat → Nat
  | 0 => 0
  | k + 1 => if 0 < m / 256 ^ k then k + 1 else nbF m k
theorem nbF_le (m k : Nat) : nbF m k ≤ k := by
  induction k with
  | zero => exact Nat.le_refl _
  | succ k ih => unfold nbF; split <;> omega
/-- The first t of the k bytes of a number, the greatest first, each turned by f. -/
def digs (m k : Nat) (f : UInt8) (t : Nat) : List UInt8 := (List.range t).map fun j => UInt8.ofNat (m / 256 ^ (k - 1 - j)) ^^^ f
theorem digs_succ (m k : Nat) (f : UInt8) (t : Nat) : digs m k f (t + 1) = digs m k f t ++ [UInt8.ofNat (m / 256 ^ (k - 1 - t)) ^^^ f] := by
  simp [digs, List.range_succ]
theorem digs_length (m k : Nat) (f : UInt8) (t : Nat) : (digs m k f t).length = t := by simp [digs]
/-- The number whose bytes are written, and what they are turned by. -/
def magN (n : Int) : Nat := if n < 0 then (-1 - n).toNat else n.toNat
def flipN (n : Int) : UInt8 := if n < 0 then 255 else 0
/-- The encoding of an integer. -/
def wInt (n : Int) : List UInt8 := (UInt8.ofNat (128 + nbF (magN n) 8) ^^^ flipN n) :: digs (magN n) (nbF (magN n) 8) (flipN n) (nbF (magN n) 8)
theorem wInt_length (n : Int) : (wInt n).length = 1 + nbF (magN n) 8 := by simp [wInt, digs_length]; omega
theorem wInt_length_le (n : Int) : (wInt n).length ≤ 9 := by have := nbF_le (magN n) 8; rw [wInt_length]; omega
theorem magN_lt (n : Int) (h1 : -9223372036854775808 ≤ n) (h2 : n < 9223372036854775808) : magN n < 9223372036854775808 := by
  unfold magN; split <;> omega
/-- The encodings of a byte string and of a list of integers. -/
def wBytes (l : List UInt8) : List UInt8 := wInt (l.length : Int) ++ l
def wMany (l : List Int) : List UInt8 := (l.map wInt).flatten
def wInts (l : List Int) : List UInt8 := wInt (l.length : Int) ++ wMany l
theorem wMany_snoc (l : List Int) (x : Int) : wMany (l ++ [x]) = wMany l ++ wInt x := by simp [wMany]
theorem wMany_length_le (l : List Int) : (wMany l).length ≤ 9 * l.length := by
  induction l with
  | nil => simp [wMany]
  | cons x l ih => have h := wInt_length_le x; simp [wMany] at ih ⊢; omega
end Go.Proofs.YtbgijijecipjeaaDoor
namespace Go.Proofs.YtbgijijecipjeaaDoor
open Go.RowKit

/-- The message that Of hashes. -/
def ofMsg (tag : Nat) (ps : List (List UInt8)) : List UInt8 := UInt8.ofNat tag :: (ps.map wBytes).flatten
/-- The digest of parts. -/
def hOf (tag : Nat) (ps : List (List UInt8)) : List UInt8 := (sha (ofMsg tag ps)).take 16
theorem hOf_length (tag : Nat) (ps : List (List UInt8)) : (hOf tag ps).length = 16 := by rw [hOf, List.length_take, sha_length]; rfl
theorem ofMsg_snoc (tag : Nat) (ps : List (List UInt8)) (x : List UInt8) : ofMsg tag (ps ++ [x]) = ofMsg tag ps ++ wBytes x := by simp [ofMsg]
/-- How long parts are at most, with what their encodings take besides. -/
def partsLen (ps : List (List UInt8)) : Nat := (ps.map fun p => p.length + 9).sum
theorem wBytes_length_le (l : List UInt8) : (wBytes l).length ≤ l.length + 9 := by
  have := wInt_length_le (l.length : Int); simp [wBytes]; omega
theorem ofMsg_length_le (tag : Nat) (ps : List (List UInt8)) : (ofMsg tag ps).length ≤ 1 + partsLen ps := by
  simp only [ofMsg, List.length_cons, partsLen]
  induction ps with
  | nil => simp
  | cons x ps ih => have := wBytes_length_le x; simp at ih ⊢; omega
theorem partsLen_take (ps : List (List UInt8)) (i : Nat) : partsLen (ps.take i) ≤ partsLen ps := by
  induction ps generalizing i with
  | nil => simp [partsLen]
  | cons x ps ih => cases i with
    | zero => simp [partsLen]
    | succ i => have := ih i; simp [partsLen] at this ⊢; omega
theorem partsLen_mem (ps : List (List UInt8)) (x : List UInt8) (h : x ∈ ps) : x.length + 9 ≤ partsLen ps := by
  induction ps with
  | nil => cases h
  | cons y ps ih =>
    rcases List.mem_cons.1 h with rfl | h
    · simp [partsLen]
    · have := ih h; simp [partsLen] at this ⊢; omega
end Go.Proofs.YtbgijijecipjeaaDoor
namespace Go.Proofs.YtbgijijecipjeaaDoor
open Go.RowKit

/-- The first k bytes of a number, the least first. -/
def les (m k : Nat) : List Int := (List.range k).map fun j => ((m / 256 ^ j % 256 : Nat) : Int)
theorem les_length (m k : Nat) : (les m k).length = k := by simp [les]
theorem les_succ (m k : Nat) : les m (k + 1) = les m k ++ [((m / 256 ^ k % 256 : Nat) : Int)] := by simp [les, List.range_succ]
theorem les_get (m k j : Nat) (h : j < k) : (les m k).getD j 0 = ((m / 256 ^ j % 256 : Nat) : Int) := by
  rw [List.getD_eq_getElem?_getD, les, List.getElem?_map, List.getElem?_range h]; rfl
theorem pow256_succ (m j : Nat) : m / 256 ^ (j + 1) = m / 256 ^ j / 256 := by rw [Nat.pow_succ, Nat.div_div_eq_div_mul]
theorem nbF_eq (m j : Nat) (h0 : m / 256 ^ j = 0) (h1 : j = 0 ∨ 0 < m / 256 ^ (j - 1)) : ∀ k, j ≤ k → nbF m k = j := by
  intro k
  induction k with
  | zero => intro h; rw [nbF]; omega
  | succ k ih =>
    intro h
    rw [nbF]
    rcases Nat.lt_or_ge k j with hk | hk
    · obtain rfl : j = k + 1 := by omega
      rw [if_pos (by rcases h1 with h1 | h1; · omega
                     · simpa using h1)]
    · rw [if_neg, ih hk]
      have : m / 256 ^ k ≤ m / 256 ^ j := Nat.div_le_div_left (Nat.pow_le_pow_right (by decide) hk) (Nat.pow_pos (by decide))
      omega
theorem div8 (m j : Nat) (hm : m < 9223372036854775808) (h : 0 < m / 256 ^ j) : j < 8 := by
  rcases Nat.lt_or_ge j 8 with h8 | h8
  · exact h8
  · have h2 : m / 256 ^ j ≤ m / 256 ^ 8 := Nat.div_le_div_left (Nat.pow_le_pow_right (by decide) h8) (by decide)
    have h3 : m / 256 ^ 8 = 0 := by apply Nat.div_eq_of_lt; omega
    omega
set_option maxRecDepth 100000 in
theorem xor255n : ∀ d : Fin 256, (UInt8.ofNat d.val ^^^ 255).toNat = 255 - d.val := by decide
theorem xor255 (d : Nat) (h : d < 256) : ((UInt8.ofNat d ^^^ 255).toNat : Int) = 255 - d := by
  have := xor255n ⟨d, h⟩
  simp only at this
  omega
theorem xor0 (d : Nat) (h : d < 256) : ((UInt8.ofNat d ^^^ 0).toNat : Int) = d := by
  simp; omega
theorem ofNat_mod (x : Nat) : UInt8.ofNat (x % 256) = UInt8.ofNat x := by
  apply UInt8.toNat_inj.1; simp
end Go.Proofs.YtbgijijecipjeaaDoor
namespace Go.Proofs.YtbgijijecipjeaaDoor
open Go.RowKit

/-- The number whose bytes, turned by f, are l. -/
def bnum (f : UInt8) (l : List UInt8) : Nat := l.foldl (fun m c => m * 256 + (c ^^^ f).toNat) 0
theorem bnum_snoc (f : UInt8) (l : List UInt8) (c : UInt8) : bnum f (l ++ [c]) = bnum f l * 256 + (c ^^^ f).toNat := by simp [bnum]
theorem bnumF_lt (f : UInt8) (l : List UInt8) : ∀ m : Nat, l.foldl (fun m c => m * 256 + (c ^^^ f).toNat) m + 1 ≤ (m + 1) * 256 ^ l.length := by
  induction l with
  | nil => intro m; simp
  | cons x l ih =>
    intro m
    rw [List.foldl_cons, List.length_cons]
    have h := ih (m * 256 + (x ^^^ f).toNat)
    have hx := (x ^^^ f).toNat_lt
    have h2 : (m * 256 + (x ^^^ f).toNat + 1) * 256 ^ l.length ≤ ((m + 1) * 256) * 256 ^ l.length := Nat.mul_le_mul_right _ (by omega)
    have e : ((m + 1) * 256) * 256 ^ l.length = (m + 1) * 256 ^ (l.length + 1) := by rw [Nat.mul_assoc, ← Nat.pow_succ']
    omega
theorem bnum_lt (f : UInt8) (l : List UInt8) : bnum f l < 256 ^ l.length := by
  have := bnumF_lt f l 0
  simp only [Nat.zero_add, Nat.one_mul] at this
  unfold bnum; omega

/-- What the first byte of an encoding is turned by, and how many bytes follow. -/
def flipB (x : UInt8) : UInt8 := if x < 128 then 255 else 0
def lenB (x : UInt8) : Nat := (x ^^^ flipB x).toNat - 128
theorem lenB_eq (x : UInt8) : (x ^^^ flipB x).toNat = 128 + lenB x := by
  have h : ∀ n : Fin 256, (UInt8.ofNat n.val ^^^ flipB (UInt8.ofNat n.val)).toNat = 128 + lenB (UInt8.ofNat n.val) := by decide +kernel
  have := h ⟨x.toNat, x.toNat_lt⟩
  simpa using this
/-- What GetInt returns: the number, how many bytes it takes, the error. -/
def gInt : List UInt8 → Int × Nat × Int
  | [] => (0, 0, 5)
  | x :: r =>
    if 8 < lenB x then (0, 0, 6)
    else if r.length < lenB x then (0, 0, 5)
    else if 0 < lenB x ∧ (r.headD 0 ^^^ flipB x) = 0 then (0, 0, 6)
    else if 9223372036854775808 ≤ bnum (flipB x) (r.take (lenB x)) then (0, 0, 6)
    else (if flipB x = 0 then (bnum (flipB x) (r.take (lenB x)) : Int) else -1 - (bnum (flipB x) (r.take (lenB x)) : Int), lenB x + 1, 0)
theorem gInt_cons (x : UInt8) (r : List UInt8) : gInt (x :: r) = if 8 < lenB x then (0, 0, 6)
    else if r.length < lenB x then (0, 0, 5)
    else if 0 < lenB x ∧ (r.headD 0 ^^^ flipB x) = 0 then (0, 0, 6)
    else if 9223372036854775808 ≤ bnum (flipB x) (r.take (lenB x)) then (0, 0, 6)
    else (if flipB x = 0 then (bnum (flipB x) (r.take (lenB x)) : Int) else -1 - (bnum (flipB x) (r.take (lenB x)) : Int), lenB x + 1, 0) := rfl
theorem gInt_cases (x : UInt8) (r : List UInt8) : gInt (x :: r) = (0, 0, 6) ∨ gInt (x :: r) = (0, 0, 5) ∨
    (lenB x ≤ 8 ∧ lenB x ≤ r.length ∧ (0 < lenB x → (r.headD 0 ^^^ flipB x) ≠ 0) ∧ bnum (flipB x) (r.take (lenB x)) < 9223372036854775808 ∧
      gInt (x :: r) = (if flipB x = 0 then (bnum (flipB x) (r.take (lenB x)) : Int) else -1 - (bnum (flipB x) (r.take (lenB x)) : Int), lenB x + 1, 0)) := by
  by_cases h1 : 8 < lenB x
  · left; simp only [gInt, if_pos h1]
  · by_cases h2 : r.length < lenB x
    · right; left; simp only [gInt, if_neg h1, if_pos h2]
    · by_cases h3 : 0 < lenB x ∧ (r.headD 0 ^^^ flipB x) = 0
      · left; simp only [gInt, if_neg h1, if_neg h2, if_pos h3]
      · by_cases h4 : 9223372036854775808 ≤ bnum (flipB x) (r.take (lenB x))
        · left; simp only [gInt, if_neg h1, if_neg h2, if_neg h3, if_pos h4]
        · right; right
          exact ⟨by omega, by omega, fun h e => h3 ⟨h, e⟩, by omega, by simp only [gInt, if_neg h1, if_neg h2, if_neg h3, if_neg h4]⟩
theorem gInt_err (b : List UInt8) : (gInt b).2.2 = 0 ∨ (gInt b).1 = 0 ∧ (gInt b).2.1 = 0 := by
  cases b with
  | nil => right; exact ⟨rfl, rfl⟩
  | cons x r =>
    rcases gInt_cases x r with h | h | ⟨-, -, -, -, h⟩ <;> rw [h]
    · right; exact ⟨rfl, rfl⟩
    · right; exact ⟨rfl, rfl⟩
    · left; rfl
theorem gInt_le (b : List UInt8) : (gInt b).2.1 ≤ b.length := by
  cases b with
  | nil => exact Nat.le_refl _
  | cons x r =>
    rcases gInt_cases x r with h | h | ⟨-, h2, -, -, h⟩ <;> rw [h]
    · exact Nat.zero_le _
    · exact Nat.zero_le _
    · simp only [List.length_cons]; omega
theorem gInt_range (b : List UInt8) : -9223372036854775808 ≤ (gInt b).1 ∧ (gInt b).1 < 9223372036854775808 := by
  cases b with
  | nil => exact ⟨by decide, by decide⟩
  | cons x r =>
    rcases gInt_cases x r with h | h | ⟨-, -, -, h4, h⟩ <;> rw [h]
    · exact ⟨by decide, by decide⟩
    · exact ⟨by decide, by decide⟩
    · dsimp only
      split <;> omega
theorem gInt_errs (b : List UInt8) : (gInt b).2.2 = 0 ∨ (gInt b).2.2 = 5 ∨ (gInt b).2.2 = 6 := by
  cases b with
  | nil => right; left; rfl
  | cons x r =>
    rcases gInt_cases x r with h | h | ⟨-, -, -, -, h⟩ <;> rw [h]
    · right; right; rfl
    · right; left; rfl
    · left; rfl
end Go.Proofs.YtbgijijecipjeaaDoor
namespace Go.Proofs.YtbgijijecipjeaaDoor
open Go.RowKit

/-- What count returns. -/
def gCount (b : List UInt8) (sz : Nat) : Int × Nat × Int :=
  if (gInt b).2.2 ≠ 0 then gInt b
  else if (gInt b).1 < 0 then ((gInt b).1, (gInt b).2.1, 6)
  else if (((b.length - (gInt b).2.1) / sz : Nat) : Int) < (gInt b).1 then ((gInt b).1, (gInt b).2.1, 5)
  else ((gInt b).1, (gInt b).2.1, 0)
theorem gCount_ok (b : List UInt8) (sz : Nat) (_hs : 0 < sz) (h : (gCount b sz).2.2 = 0) : (gInt b).2.2 = 0 ∧ (gCount b sz).1 = (gInt b).1 ∧ (gCount b sz).2.1 = (gInt b).2.1 ∧ 0 ≤ (gCount b sz).1 ∧ (gCount b sz).2.1 + sz * (gCount b sz).1.toNat ≤ b.length := by
  have hle := gInt_le b
  unfold gCount at h ⊢
  by_cases h1 : (gInt b).2.2 ≠ 0
  · rw [if_pos h1] at h; exact absurd h h1
  · rw [if_neg h1] at h ⊢
    by_cases h2 : (gInt b).1 < 0
    · rw [if_pos h2] at h; cases h
    · rw [if_neg h2] at h ⊢
      by_cases h3 : (((b.length - (gInt b).2.1) / sz : Nat) : Int) < (gInt b).1
      · rw [if_pos h3] at h; cases h
      · rw [if_neg h3]
        refine ⟨by omega, rfl, rfl, by simp only []; omega, ?_⟩
        simp only []
        have h4 : (gInt b).1.toNat ≤ (b.length - (gInt b).2.1) / sz := by omega
        have h5 := Nat.mul_le_mul_left sz h4
        have h6 := Nat.mul_div_le (b.length - (gInt b).2.1) sz
        omega
/-- What GetBytes returns. -/
def gBytes (b : List UInt8) : List UInt8 × Nat × Int :=
  if (gCount b 1).2.2 ≠ 0 then ([], 0, (gCount b 1).2.2)
  else ((b.drop (gCount b 1).2.1).take (gCount b 1).1.toNat, (gCount b 1).2.1 + (gCount b 1).1.toNat, 0)
theorem gBytes_le (b : List UInt8) : (gBytes b).2.1 ≤ b.length := by
  unfold gBytes
  by_cases h : (gCount b 1).2.2 ≠ 0
  · rw [if_pos h]; exact Nat.zero_le _
  · rw [if_neg h]
    have := (gCount_ok b 1 (by decide) (by simpa using h)).2.2.2.2
    simp only []; omega
/-- What the loop of GetInts returns. -/
def gIntsA (b : List UInt8) : Nat → List Int → Nat → List Int × Nat × Int
  | 0, acc, at_ => (acc, at_, 0)
  | n + 1, acc, at_ => if (gInt (b.drop at_)).2.2 ≠ 0 then ([], 0, (gInt (b.drop at_)).2.2) else gIntsA b n (acc ++ [(gInt (b.drop at_)).1]) (at_ + (gInt (b.drop at_)).2.1)
def gInts (b : List UInt8) : List Int × Nat × Int :=
  if (gCount b 1).2.2 ≠ 0 then ([], 0, (gCount b 1).2.2) else gIntsA b (gCount b 1).1.toNat [] (gCount b 1).2.1
theorem gIntsA_le (b : List UInt8) (n : Nat) : ∀ acc at_, at_ ≤ b.length → (gIntsA b n acc at_).2.1 ≤ b.length := by
  induction n with
  | zero => intro acc at_ h; exact h
  | succ n ih =>
    intro acc at_ h
    unfold gIntsA
    by_cases h1 : (gInt (b.drop at_)).2.2 ≠ 0
    · rw [if_pos h1]; exact Nat.zero_le _
    · rw [if_neg h1]
      refine ih _ _ ?_
      have := gInt_le (b.drop at_)
      rw [List.length_drop] at this; omega
theorem gInts_le (b : List UInt8) : (gInts b).2.1 ≤ b.length := by
  unfold gInts
  by_cases h : (gCount b 1).2.2 ≠ 0
  · rw [if_pos h]; exact Nat.zero_le _
  · rw [if_neg h]
    have := (gCount_ok b 1 (by decide) (by simpa using h)).2.2.2.2
    exact gIntsA_le _ _ _ _ (by omega)
/-- What GetDigests returns. -/
def digsAt (b : List UInt8) (at_ n : Nat) : List (List UInt8) := (List.range n).map fun i => (b.drop (at_ + 16 * i)).take 16
theorem digsAt_succ (b : List UInt8) (at_ n : Nat) : digsAt b at_ (n + 1) = digsAt b at_ n ++ [(b.drop (at_ + 16 * n)).take 16] := by simp [digsAt, List.range_succ]
theorem digsAt_length (b : List UInt8) (at_ n : Nat) : (digsAt b at_ n).length = n := by simp [digsAt]
def gDigs (b : List UInt8) : List (List UInt8) × Nat × Int :=
  if (gCount b 16).2.2 ≠ 0 then ([], 0, (gCount b 16).2.2)
  else (digsAt b (gCount b 16).2.1 (gCount b 16).1.toNat, (gCount b 16).2.1 + 16 * (gCount b 16).1.toNat, 0)
theorem gDigs_le (b : List UInt8) : (gDigs b).2.1 ≤ b.length := by
  unfold gDigs
  by_cases h : (gCount b 16).2.2 ≠ 0
  · rw [if_pos h]; exact Nat.zero_le _
  · rw [if_neg h]
    exact (gCount_ok b 16 (by decide) (by simpa using h)).2.2.2.2
end Go.Proofs.YtbgijijecipjeaaDoor
namespace Go.Proofs.YtbgijijecipjeaaDoor
open Go.RowKit

theorem nbF_spec (m K : Nat) (h : m < 256 ^ K) : m < 256 ^ nbF m K ∧ (0 < nbF m K → 0 < m / 256 ^ (nbF m K - 1)) := by
  induction K with
  | zero => exact ⟨h, fun h => absurd h (Nat.lt_irrefl _)⟩
  | succ K ih =>
    unfold nbF
    by_cases h1 : 0 < m / 256 ^ K
    · rw [if_pos h1]; exact ⟨h, fun _ => h1⟩
    · rw [if_neg h1]
      refine ih ?_
      have hp : 0 < 256 ^ K := Nat.pow_pos (by decide)
      rcases Nat.lt_or_ge m (256 ^ K) with h2 | h2
      · exact h2
      · exact absurd (Nat.div_pos h2 hp) h1
theorem xor_cancel (a f : UInt8) : (a ^^^ f) ^^^ f = a := by rw [UInt8.xor_assoc, UInt8.xor_self, UInt8.xor_zero]
theorem bnum_digs (m k : Nat) (f : UInt8) (h : m < 256 ^ k) (t : Nat) (ht : t ≤ k) : bnum f (digs m k f t) = m / 256 ^ (k - t) := by
  induction t with
  | zero => rw [Nat.sub_zero, Nat.div_eq_of_lt h]; rfl
  | succ t ih =>
    rw [digs_succ, bnum_snoc, xor_cancel, ih (by omega)]
    have e : k - t = (k - 1 - t) + 1 := by omega
    have e2 : (UInt8.ofNat (m / 256 ^ (k - 1 - t))).toNat = m / 256 ^ (k - 1 - t) % 256 := by simp
    rw [e, e2, Nat.pow_succ, ← Nat.div_div_eq_div_mul, show k - (t + 1) = k - 1 - t by omega]
    have := Nat.div_add_mod (m / 256 ^ (k - 1 - t)) 256
    omega
theorem head0 : ∀ k : Fin 9, flipB (UInt8.ofNat (128 + k.val) ^^^ 0) = 0 ∧ lenB (UInt8.ofNat (128 + k.val) ^^^ 0) = k.val := by decide +kernel
theorem head255 : ∀ k : Fin 9, flipB (UInt8.ofNat (128 + k.val) ^^^ 255) = 255 ∧ lenB (UInt8.ofNat (128 + k.val) ^^^ 255) = k.val := by decide +kernel
theorem gInt_wInt (n : Int) (h1 : -9223372036854775808 ≤ n) (h2 : n < 9223372036854775808) (rest : List UInt8) : gInt (wInt n ++ rest) = (n, (wInt n).length, 0) := by
  have hm := magN_lt n h1 h2
  have hm64 : magN n < 256 ^ 8 := Nat.lt_of_lt_of_le hm (by decide)
  obtain ⟨s1, s2⟩ := nbF_spec (magN n) 8 hm64
  have hk := nbF_le (magN n) 8
  obtain ⟨m, hme⟩ : ∃ m, m = magN n := ⟨_, rfl⟩
  obtain ⟨k, hke⟩ : ∃ k, k = nbF (magN n) 8 := ⟨_, rfl⟩
  obtain ⟨f, hfe⟩ : ∃ f, f = flipN n := ⟨_, rfl⟩
  have hw : wInt n = (UInt8.ofNat (128 + k) ^^^ f) :: digs m k f k := by rw [wInt, ← hke, ← hme, ← hfe]
  rw [← hke] at s1 s2 hk
  rw [← hme] at s1 s2 hm
  have hf : f = 0 ∨ f = 255 := by rw [hfe, flipN]; split <;> simp
  have hh : flipB (UInt8.ofNat (128 + k) ^^^ f) = f ∧ lenB (UInt8.ofNat (128 + k) ^^^ f) = k := by
    rcases hf with rfl | rfl
    · exact head0 ⟨k, by omega⟩
    · exact head255 ⟨k, by omega⟩
  have hlen : (wInt n).length = k + 1 := by rw [hw, List.length_cons, digs_length]
  have hdl := digs_length m k f k
  have hbn : bnum f (digs m k f k) = m := by rw [bnum_digs m k f s1 k (Nat.le_refl _), Nat.sub_self, Nat.pow_zero, Nat.div_one]
  rw [hw, List.cons_append, gInt_cons, hh.1, hh.2, if_neg (by omega), if_neg (by rw [List.length_append]; omega), if_neg, List.take_append_of_le_length (by omega), List.take_of_length_le (by omega), hbn, if_neg (by omega), List.length_cons, hdl]
  · congr 1
    rcases hf with rfl | rfl
    · rw [if_pos rfl, hme]
      have : ¬ n < 0 := by
        intro hn; rw [flipN, if_pos hn] at hfe; exact absurd hfe (by decide)
      rw [magN, if_neg this]; omega
    · rw [if_neg (by decide), hme]
      have : n < 0 := by
        rcases Int.lt_or_le n 0 with hn | hn
        · exact hn
        · rw [flipN, if_neg (by omega)] at hfe; exact absurd hfe (by decide)
      rw [magN, if_pos this]; omega
  · rintro ⟨k0, hz⟩
    have hp := s2 k0
    have hlt : m / 256 ^ (k - 1) < 256 := by
      rw [Nat.div_lt_iff_lt_mul (Nat.pow_pos (by decide)), ← Nat.pow_succ']
      rw [show (k - 1).succ = k by omega]; exact s1
    have hd : (digs m k f k ++ rest).headD 0 = UInt8.ofNat (m / 256 ^ (k - 1)) ^^^ f := by
      obtain ⟨k', rfl⟩ : ∃ k', k = k' + 1 := ⟨k - 1, by omega⟩
      rw [digs, List.range_succ_eq_map, List.map_cons]; rfl
    rw [hd, xor_cancel] at hz
    have := congrArg UInt8.toNat hz
    simp at this
    omega
theorem wInt_prefix {x y : Int} (hx : -9223372036854775808 ≤ x ∧ x < 9223372036854775808) (hy : -9223372036854775808 ≤ y ∧ y < 9223372036854775808) {r s : List UInt8} (h : wInt x ++ r = wInt y ++ s) : x = y ∧ r = s := by
  have e1 := gInt_wInt x hx.1 hx.2 r
  have e2 := gInt_wInt y hy.1 hy.2 s
  rw [h, e2] at e1
  simp only [Prod.mk.injEq] at e1
  obtain ⟨rfl, -, -⟩ := e1
  exact ⟨rfl, List.append_cancel_left h⟩
end Go.Proofs.YtbgijijecipjeaaDoor
