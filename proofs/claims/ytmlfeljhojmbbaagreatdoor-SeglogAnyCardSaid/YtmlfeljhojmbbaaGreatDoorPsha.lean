/- Plain law: SHA-256 as both texts reckon it, over 32-bit words, and the spelling of its steps in the walk's own words. No program in sight. -/
import Derived.Test.YtmlfeljhojmbbaaGreatDoorPcrc
namespace Go.Proofs.YtmlfeljhojmbbaaGreatDoor.Psha
open Go.Proofs.YtmlfeljhojmbbaaGreatDoor.Pcrc
set_option linter.unusedSimpArgs false
set_option linter.unusedVariables false

def zx (x : UInt8) : BitVec 32 := x.toBitVec.zeroExtend 32
def word (a b c d : UInt8) : BitVec 32 := (((zx a <<< 24) ||| (zx b <<< 16)) ||| (zx c <<< 8)) ||| zx d
def wordAt (b : List UInt8) (i : Nat) : BitVec 32 := word (b.getD (4 * i) 0) (b.getD (4 * i + 1) 0) (b.getD (4 * i + 2) 0) (b.getD (4 * i + 3) 0)
def rotr (x : BitVec 32) (n : Nat) : BitVec 32 := (x >>> n) ||| (x <<< (32 - n))
def ss0 (x : BitVec 32) : BitVec 32 := (rotr x 7 ^^^ rotr x 18) ^^^ (x >>> 3)
def ss1 (x : BitVec 32) : BitVec 32 := (rotr x 17 ^^^ rotr x 19) ^^^ (x >>> 10)
def bs0 (x : BitVec 32) : BitVec 32 := (rotr x 2 ^^^ rotr x 13) ^^^ rotr x 22
def bs1 (x : BitVec 32) : BitVec 32 := (rotr x 6 ^^^ rotr x 11) ^^^ rotr x 25
def ch (e f g : BitVec 32) : BitVec 32 := (e &&& f) ^^^ (~~~ e &&& g)
def maj (a b c : BitVec 32) : BitVec 32 := ((a &&& b) ^^^ (a &&& c)) ^^^ (b &&& c)

def sched (b : List UInt8) : Nat → List (BitVec 32)
  | 0 => []
  | n + 1 => sched b n ++ [if n < 16 then wordAt b n else (((sched b n).getD (n - 16) 0 + ss0 ((sched b n).getD (n - 15) 0)) + (sched b n).getD (n - 7) 0) + ss1 ((sched b n).getD (n - 2) 0)]
theorem sched_length (b : List UInt8) : ∀ n, (sched b n).length = n
  | 0 => rfl
  | n + 1 => by rw [sched, List.length_append, sched_length b n]; rfl

structure St where
  a : BitVec 32
  b : BitVec 32
  c : BitVec 32
  d : BitVec 32
  e : BitVec 32
  f : BitVec 32
  g : BitVec 32
  h : BitVec 32
def St.list (s : St) : List (BitVec 32) := [s.a, s.b, s.c, s.d, s.e, s.f, s.g, s.h]
def t1 (s : St) (k w : BitVec 32) : BitVec 32 := (((s.h + bs1 s.e) + ch s.e s.f s.g) + k) + w
def t2 (s : St) : BitVec 32 := bs0 s.a + maj s.a s.b s.c
def rnd (s : St) (k w : BitVec 32) : St := ⟨t1 s k w + t2 s, s.a, s.b, s.c, s.d + t1 s k w, s.e, s.f, s.g⟩
def ks : List (BitVec 32) := [
    0x428a2f98, 0x71374491, 0xb5c0fbcf, 0xe9b5dba5, 0x3956c25b, 0x59f111f1, 0x923f82a4, 0xab1c5ed5,
    0xd807aa98, 0x12835b01, 0x243185be, 0x550c7dc3, 0x72be5d74, 0x80deb1fe, 0x9bdc06a7, 0xc19bf174,
    0xe49b69c1, 0xefbe4786, 0x0fc19dc6, 0x240ca1cc, 0x2de92c6f, 0x4a7484aa, 0x5cb0a9dc, 0x76f988da,
    0x983e5152, 0xa831c66d, 0xb00327c8, 0xbf597fc7, 0xc6e00bf3, 0xd5a79147, 0x06ca6351, 0x14292967,
    0x27b70a85, 0x2e1b2138, 0x4d2c6dfc, 0x53380d13, 0x650a7354, 0x766a0abb, 0x81c2c92e, 0x92722c85,
    0xa2bfe8a1, 0xa81a664b, 0xc24b8b70, 0xc76c51a3, 0xd192e819, 0xd6990624, 0xf40e3585, 0x106aa070,
    0x19a4c116, 0x1e376c08, 0x2748774c, 0x34b0bcb5, 0x391c0cb3, 0x4ed8aa4a, 0x5b9cca4f, 0x682e6ff3,
    0x748f82ee, 0x78a5636f, 0x84c87814, 0x8cc70208, 0x90befffa, 0xa4506ceb, 0xbef9a3f7, 0xc67178f2]
def iv : St := ⟨0x6a09e667, 0xbb67ae85, 0x3c6ef372, 0xa54ff53a, 0x510e527f, 0x9b05688c, 0x1f83d9ab, 0x5be0cd19⟩
def rounds (s : St) (W : List (BitVec 32)) : Nat → St
  | 0 => s
  | n + 1 => rnd (rounds s W n) (ks.getD n 0) (W.getD n 0)
def plus (s v : St) : St := ⟨s.a + v.a, s.b + v.b, s.c + v.c, s.d + v.d, s.e + v.e, s.f + v.f, s.g + v.g, s.h + v.h⟩
def block (s : St) (b : List UInt8) : St := plus s (rounds s (sched b 64) 64)
/-- n blocks of a text -/
def blocks (s : St) (b : List UInt8) : Nat → St
  | 0 => s
  | n + 1 => block (blocks s b n) ((b.drop (64 * n)).take 64)
def be (n : Nat) (x : Nat) : UInt8 := UInt8.ofNat (x / 2 ^ n)
/-- what is laid behind the text -/
def tail (n : Nat) : List UInt8 := 0x80 :: List.replicate ((119 - n % 64) % 64) 0 ++ [be 56 (8 * n), be 48 (8 * n), be 40 (8 * n), be 32 (8 * n), be 24 (8 * n), be 16 (8 * n), be 8 (8 * n), be 0 (8 * n)]
def full (b : List UInt8) : List UInt8 := b ++ tail b.length
def wbytes (x : BitVec 32) : List UInt8 := [UInt8.ofNat (x.toNat / 2 ^ 24), UInt8.ofNat (x.toNat / 2 ^ 16), UInt8.ofNat (x.toNat / 2 ^ 8), UInt8.ofNat x.toNat]
def sha (b : List UInt8) : List UInt8 := ((blocks iv (full b) ((full b).length / 64)).list).flatMap wbytes

/-- the last loop: word by word -/
def addTo (v h : List (BitVec 32)) : Nat → List (BitVec 32)
  | 0 => v
  | k + 1 => (addTo v h k).set k ((addTo v h k).getD k 0 + h.getD k 0)
theorem addTo_length (v h : List (BitVec 32)) : ∀ k, (addTo v h k).length = v.length
  | 0 => rfl
  | k + 1 => by rw [addTo, List.length_set, addTo_length v h k]
theorem addTo_plus (s v : St) : addTo v.list s.list 8 = (plus s v).list := by
  simp [addTo, St.list, plus, BitVec.add_comm]
theorem addTo_plus' (s v : St) : addTo s.list v.list 8 = (plus s v).list := by
  simp [addTo, St.list, plus]

/-! the text as it is made longer -/
def zs (n : Nat) : Nat := (119 - n % 64) % 64
def lens (n : Nat) : List UInt8 := [be 56 (8 * n), be 48 (8 * n), be 40 (8 * n), be 32 (8 * n), be 24 (8 * n), be 16 (8 * n), be 8 (8 * n), be 0 (8 * n)]
def padTo (b : List UInt8) (k : Nat) : List UInt8 := b ++ 0x80 :: List.replicate k 0
theorem padTo_length (b : List UInt8) (k : Nat) : (padTo b k).length = b.length + 1 + k := by simp [padTo]; omega
theorem padTo_succ (b : List UInt8) (k : Nat) : padTo b (k + 1) = padTo b k ++ [0] := by
  simp [padTo, List.replicate_succ']
theorem full_eq (b : List UInt8) : full b = padTo b (zs b.length) ++ (lens b.length).take 8 := by
  simp [full, tail, padTo, zs, lens]
theorem full_length (b : List UInt8) : (full b).length = b.length + 9 + zs b.length := by
  rw [full_eq, List.length_append, padTo_length]; simp [lens]; omega
theorem full_blocks (b : List UInt8) : (full b).length = 64 * ((full b).length / 64) := by
  have h := full_length b
  unfold zs at h
  omega
theorem zs_le (n : Nat) : zs n < 64 := by unfold zs; omega
theorem pad_test (n k : Nat) (hk : k ≤ zs n) : ((((n + 1 + k : Nat) : Int) % (64 : Int)) != (56 : Int)) = decide (k < zs n) := by
  unfold zs at *
  rw [Bool.eq_iff_iff, bne_iff_ne, decide_eq_true_iff]
  omega
theorem lens_at (n j : Nat) (hj : j < 8) : (lens n).getD j 0 = be (56 - 8 * j) (8 * n) := by
  match j, hj with
  | 0, _ => rfl
  | 1, _ => rfl
  | 2, _ => rfl
  | 3, _ => rfl
  | 4, _ => rfl
  | 5, _ => rfl
  | 6, _ => rfl
  | 7, _ => rfl
theorem lens_take (n j : Nat) (hj : j < 8) : (lens n).take (j + 1) = (lens n).take j ++ [be (56 - 8 * j) (8 * n)] := by
  rw [List.take_succ_eq_append_getElem (by simp [lens]; omega), ← lens_at n j hj]
  simp [List.getD_eq_getElem?_getD, List.getElem?_eq_getElem (show j < (lens n).length by simp [lens]; omega)]
theorem be_walk (m k : Nat) : ((m : Int) / (2 : Int) ^ k % (256 : Int)) = ((be k m).toNat : Int) := by
  rw [be, UInt8.toNat_ofNat', show (m : Int) / (2 : Int) ^ k = ((m / 2 ^ k : Nat) : Int) from by simp]
  omega
theorem wbytes_walk (x : BitVec 32) : [((x.toNat : Int) / (16777216 : Int) % (256 : Int)), ((x.toNat : Int) / (65536 : Int) % (256 : Int)), ((x.toNat : Int) / (256 : Int) % (256 : Int)), ((x.toNat : Int) % (256 : Int))] = (wbytes x).map fun y => (y.toNat : Int) := by
  simp only [wbytes, List.map_cons, List.map_nil, UInt8.toNat_ofNat']
  have h1 : ((x.toNat / 2 ^ 24 % 2 ^ 8 : Nat) : Int) = (x.toNat : Int) / (16777216 : Int) % (256 : Int) := by omega
  have h2 : ((x.toNat / 2 ^ 16 % 2 ^ 8 : Nat) : Int) = (x.toNat : Int) / (65536 : Int) % (256 : Int) := by omega
  have h3 : ((x.toNat / 2 ^ 8 % 2 ^ 8 : Nat) : Int) = (x.toNat : Int) / (256 : Int) % (256 : Int) := by omega
  have h4 : ((x.toNat % 2 ^ 8 : Nat) : Int) = (x.toNat : Int) % (256 : Int) := by omega
  rw [h1, h2, h3, h4]
theorem list_length (s : St) : s.list.length = 8 := rfl
theorem flat_snoc (l : List (BitVec 32)) (k : Nat) (h : k < l.length) : (l.take (k + 1)).flatMap wbytes = (l.take k).flatMap wbytes ++ wbytes (l.getD k 0) := by
  rw [List.take_succ_eq_append_getElem h, List.flatMap_append]
  simp [List.getD_eq_getElem?_getD, List.getElem?_eq_getElem h]
theorem flat_length (l : List (BitVec 32)) : (l.flatMap wbytes).length = 4 * l.length := by
  induction l with
  | nil => rfl
  | cons x l ih => rw [List.flatMap_cons, List.length_append, ih]; simp [wbytes]; omega
theorem sha_length (b : List UInt8) : (sha b).length = 32 := by rw [sha, flat_length, list_length]

/-! the walk's spelling -/
theorem shl_u32 (x : BitVec 32) (k : Nat) : (x.toNat : Int) * (2 : Int) ^ k % (4294967296 : Int) = ((x <<< k).toNat : Int) := by
  rw [BitVec.toNat_shiftLeft, Nat.shiftLeft_eq]
  rw [show (x.toNat : Int) * (2 : Int) ^ k = ((x.toNat * 2 ^ k : Nat) : Int) from by simp]
  omega
theorem shr_u32 (x : BitVec 32) (k : Nat) : (x.toNat : Int) / (2 : Int) ^ k = ((x >>> k).toNat : Int) := by
  rw [BitVec.toNat_ushiftRight, Nat.shiftRight_eq_div_pow]
  simp
theorem add_u32 (x y : BitVec 32) : ((x.toNat : Int) + (y.toNat : Int)) % (4294967296 : Int) = ((x + y).toNat : Int) := by
  rw [BitVec.toNat_add]; omega
theorem zx_u8 (x : UInt8) : (x.toNat : Int) % (4294967296 : Int) = ((zx x).toNat : Int) := by
  have := x.toNat_lt
  rw [zx, toNat_ext]; omega
theorem word_walk (a b c d : UInt8) : bits .or .u32 (bits .or .u32 (bits .or .u32 ((a.toNat : Int) % (4294967296 : Int) * (16777216 : Int) % (4294967296 : Int)) ((b.toNat : Int) % (4294967296 : Int) * (65536 : Int) % (4294967296 : Int)))
    ((c.toNat : Int) % (4294967296 : Int) * (256 : Int) % (4294967296 : Int))) ((d.toNat : Int) % (4294967296 : Int)) = ((word a b c d).toNat : Int) := by
  have h := fun (x : UInt8) => shl_u32 (zx x) 24
  have h2 := fun (x : UInt8) => shl_u32 (zx x) 16
  have h3 := fun (x : UInt8) => shl_u32 (zx x) 8
  rw [zx_u8, zx_u8, zx_u8, zx_u8, show (16777216 : Int) = 2 ^ 24 from rfl, show (65536 : Int) = 2 ^ 16 from rfl, show (256 : Int) = 2 ^ 8 from rfl, h, h2, h3, or_u32, or_u32, or_u32]
  rfl
theorem rotr_walk (x : BitVec 32) (n : Nat) : bits .or .u32 ((x.toNat : Int) / (2 : Int) ^ n) ((x.toNat : Int) * (2 : Int) ^ (32 - n) % (4294967296 : Int)) = ((rotr x n).toNat : Int) := by
  rw [shl_u32, shr_u32, or_u32]; rfl
theorem rotl_walk (x : BitVec 32) (s : Nat) (h : s ≤ 32) : bits .or .u32 ((x.toNat : Int) * (2 : Int) ^ s % (4294967296 : Int)) ((x.toNat : Int) / (2 : Int) ^ (32 - s)) = ((rotr x (32 - s)).toNat : Int) := by
  rw [shl_u32, shr_u32, or_u32, rotr, show 32 - (32 - s) = s from by omega, BitVec.or_comm]
theorem ss0_walk (x : BitVec 32) : bits .xor .u32 (bits .xor .u32 ((rotr x 7).toNat : Int) ((rotr x 18).toNat : Int)) ((x.toNat : Int) / (8 : Int)) = ((ss0 x).toNat : Int) := by
  have h := shr_u32 x 3
  rw [show (8 : Int) = 2 ^ 3 from rfl, h, xor_u32, xor_u32]; rfl
theorem ss1_walk (x : BitVec 32) : bits .xor .u32 (bits .xor .u32 ((rotr x 17).toNat : Int) ((rotr x 19).toNat : Int)) ((x.toNat : Int) / (1024 : Int)) = ((ss1 x).toNat : Int) := by
  have h := shr_u32 x 10
  rw [show (1024 : Int) = 2 ^ 10 from rfl, h, xor_u32, xor_u32]; rfl
theorem bs1_walk (e : BitVec 32) : bits .xor .u32 (bits .xor .u32 ((rotr e 6).toNat : Int) ((rotr e 11).toNat : Int)) ((rotr e 25).toNat : Int) = ((bs1 e).toNat : Int) := by
  rw [xor_u32, xor_u32]; rfl
theorem bs0_walk (e : BitVec 32) : bits .xor .u32 (bits .xor .u32 ((rotr e 2).toNat : Int) ((rotr e 13).toNat : Int)) ((rotr e 22).toNat : Int) = ((bs0 e).toNat : Int) := by
  rw [xor_u32, xor_u32]; rfl
theorem ch_walk (e f g : BitVec 32) : bits .xor .u32 (bits .and .u32 (e.toNat : Int) (f.toNat : Int)) (bits .and .u32 (bits .xor .u32 IntKind.u32.max (e.toNat : Int)) (g.toNat : Int)) = ((ch e f g).toNat : Int) := by
  rw [fin_prog, and_u32, and_u32, xor_u32]; rfl
theorem maj_walk (a b c : BitVec 32) : bits .xor .u32 (bits .xor .u32 (bits .and .u32 (a.toNat : Int) (b.toNat : Int)) (bits .and .u32 (a.toNat : Int) (c.toNat : Int))) (bits .and .u32 (b.toNat : Int) (c.toNat : Int)) = ((maj a b c).toNat : Int) := by
  rw [and_u32, and_u32, and_u32, xor_u32, xor_u32]; rfl
theorem t1_walk (s : St) (k w : BitVec 32) : ((s.h.toNat : Int) + ((bs1 s.e).toNat : Int) + ((ch s.e s.f s.g).toNat : Int) + (k.toNat : Int) + (w.toNat : Int)) % (4294967296 : Int) = ((t1 s k w).toNat : Int) := by
  simp only [t1, BitVec.toNat_add]
  omega
theorem t2_walk (s : St) : (((bs0 s.a).toNat : Int) + ((maj s.a s.b s.c).toNat : Int)) % (4294967296 : Int) = ((t2 s).toNat : Int) := by
  rw [add_u32]; rfl
theorem wrap_add (x y : BitVec 32) : IntKind.u32.wrap ((x.toNat : Int) + (y.toNat : Int)) = ((x + y).toNat : Int) := by rw [IntKind.wrap_u32]; exact add_u32 x y
theorem not_walk (c : BitVec 32) : bits .xor .u32 IntKind.u32.max (c.toNat : Int) = ((~~~ c).toNat : Int) := fin_prog c
end Go.Proofs.YtmlfeljhojmbbaaGreatDoor.Psha
