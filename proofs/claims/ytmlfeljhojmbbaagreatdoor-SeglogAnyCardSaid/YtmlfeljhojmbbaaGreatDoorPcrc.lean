/- Plain law: CRC-32C over 32-bit words: one byte's step, what it is in the walk's own spelling (both texts, the program's and the reference's), that it is one-to-one, and that four turned neighbours never cancel. No program in sight. -/
import Derived.Laws.BitsLemmas
namespace Go.Proofs.YtmlfeljhojmbbaaGreatDoor.Pcrc
set_option linter.unusedSimpArgs false
set_option linter.unusedVariables false

def poly : BitVec 32 := 0x82f63b78#32
/-- one of a byte's eight rounds -/
def stp (c : BitVec 32) : BitVec 32 := (c >>> 1) ^^^ (if c.toNat % 2 = 1 then poly else 0#32)
def stps : Nat → BitVec 32 → BitVec 32
  | 0, c => c
  | n + 1, c => stp (stps n c)
/-- a byte -/
def byt (c : BitVec 32) (x : UInt8) : BitVec 32 := stps 8 (c ^^^ x.toBitVec.zeroExtend 32)
def run (c : BitVec 32) (l : List UInt8) : BitVec 32 := l.foldl byt c
def ones : BitVec 32 := BitVec.allOnes 32
def crc (l : List UInt8) : BitVec 32 := ~~~ (run ones l)

theorem run_snoc (c : BitVec 32) (l : List UInt8) (x : UInt8) : run c (l ++ [x]) = byt (run c l) x := by simp [run, List.foldl_append]
theorem run_append (c : BitVec 32) (l r : List UInt8) : run c (l ++ r) = run (run c l) r := by simp [run, List.foldl_append]

/-! the walk's spelling -/
theorem ofInt_toNat (c : BitVec 32) : BitVec.ofInt 32 (c.toNat : Int) = c := by
  rw [BitVec.ofInt_natCast]; simp
theorem bits_u32 (c d : BitVec 32) : bits .xor .u32 (c.toNat : Int) (d.toNat : Int) = ((c ^^^ d).toNat : Int) ∧ bits .and .u32 (c.toNat : Int) (d.toNat : Int) = ((c &&& d).toNat : Int) ∧ bits .or .u32 (c.toNat : Int) (d.toNat : Int) = ((c ||| d).toNat : Int) := by
  have key : ∀ e : BitVec 32, IntKind.u32.wrap ((e.toNat : Nat) : Int) = (e.toNat : Int) := by
    intro e
    have := e.isLt
    rw [IntKind.wrap_u32]; omega
  refine ⟨?_, ?_, ?_⟩ <;> (simp only [bits, IntKind.bits, ofInt_toNat]; exact key _)
theorem xor_u32 (c d : BitVec 32) : bits .xor .u32 (c.toNat : Int) (d.toNat : Int) = ((c ^^^ d).toNat : Int) := (bits_u32 c d).1
theorem and_u32 (c d : BitVec 32) : bits .and .u32 (c.toNat : Int) (d.toNat : Int) = ((c &&& d).toNat : Int) := (bits_u32 c d).2.1
theorem or_u32 (c d : BitVec 32) : bits .or .u32 (c.toNat : Int) (d.toNat : Int) = ((c ||| d).toNat : Int) := (bits_u32 c d).2.2
theorem shr1 (c : BitVec 32) : (c.toNat : Int) / (2 : Int) = ((c >>> 1).toNat : Int) := by
  rw [BitVec.toNat_ushiftRight, Nat.shiftRight_eq_div_pow]; simp
theorem and1 (c : BitVec 32) : bits .and .u32 (c.toNat : Int) (1 : Int) = ((c.toNat % 2 : Nat) : Int) := by
  have h := and_u32 c 1#32
  rw [show ((1#32 : BitVec 32).toNat : Int) = (1 : Int) from rfl] at h
  rw [h, BitVec.toNat_and]
  rw [show (1#32 : BitVec 32).toNat = 1 from rfl, Nat.and_one_is_mod]
theorem pick (n : Nat) : (2197175160 : Int) * ((n % 2 : Nat) : Int) % (4294967296 : Int) = ((if n % 2 = 1 then poly else 0#32 : BitVec 32).toNat : Int) := by
  rcases Nat.mod_two_eq_zero_or_one n with h | h <;> rw [h] <;> decide
theorem xor_u8 (x y : UInt8) : bits .xor .u8 (x.toNat : Int) (y.toNat : Int) = ((x ^^^ y).toNat : Int) := by
  have hx : BitVec.ofInt 8 (x.toNat : Int) = x.toBitVec := by rw [BitVec.ofInt_natCast]; simp
  have hy : BitVec.ofInt 8 (y.toNat : Int) = y.toBitVec := by rw [BitVec.ofInt_natCast]; simp
  have hl := (x ^^^ y).toNat_lt
  simp only [bits, IntKind.bits, hx, hy]
  have key : IntKind.u8.wrap (((x ^^^ y).toNat : Nat) : Int) = ((x ^^^ y).toNat : Int) := by rw [IntKind.wrap_u8]; omega
  exact key
/-- the program's round -/
theorem round_prog (c : BitVec 32) : bits .xor .u32 ((c.toNat : Int) / (2 : Int)) ((2197175160 : Int) * bits .and .u32 (c.toNat : Int) (1 : Int) % (4294967296 : Int)) = ((stp c).toNat : Int) := by
  rw [shr1, and1, pick, xor_u32]; rfl
theorem toNat_ext (x : UInt8) : (x.toBitVec.zeroExtend 32).toNat = x.toNat := by
  have := x.toNat_lt
  simp only [BitVec.truncate_eq_setWidth, BitVec.toNat_setWidth, UInt8.toNat_toBitVec]
  omega
theorem enter_byte (c : BitVec 32) (x : UInt8) : bits .xor .u32 (c.toNat : Int) ((x.toNat : Int) % (4294967296 : Int)) = ((c ^^^ x.toBitVec.zeroExtend 32).toNat : Int) := by
  rw [← xor_u32, toNat_ext]
  have := x.toNat_lt
  rw [show (x.toNat : Int) % (4294967296 : Int) = (x.toNat : Int) from by omega]
/-- the reference's eight rounds, bit by bit -/
def rround (c : BitVec 32) (x : UInt8) (i : Nat) : BitVec 32 := if (c.toNat % 2 + x.toNat / 2 ^ i) % 2 = 1 then (c >>> 1) ^^^ poly else c >>> 1
def rrounds : Nat → BitVec 32 → UInt8 → BitVec 32
  | 0, c, _ => c
  | n + 1, c, x => rround (rrounds n c x) x n
theorem stps_succ (n : Nat) (c : BitVec 32) : stps (n + 1) c = stp (stps n c) := rfl
theorem fin_prog (c : BitVec 32) : bits .xor .u32 IntKind.u32.max (c.toNat : Int) = ((~~~ c).toNat : Int) := by
  have h := xor_u32 (BitVec.allOnes 32) c
  rw [BitVec.allOnes_xor] at h
  exact h
theorem fin_ref (c : BitVec 32) : bits .xor .u32 (c.toNat : Int) (4294967295 : Int) = ((~~~ c).toNat : Int) := by
  have h := xor_u32 c (BitVec.allOnes 32)
  rw [BitVec.xor_allOnes] at h
  exact h
theorem bit_cast (n : Nat) (h : n < 4294967296) : (n : Int) = ((BitVec.ofNat 32 n).toNat : Int) := by
  rw [BitVec.toNat_ofNat, Nat.mod_eq_of_lt h]
theorem rtest (c : BitVec 32) (x : UInt8) (j : Nat) :
    (bits .xor .u32 (bits .and .u32 (c.toNat : Int) (1 : Int)) (bits .and .u32 ((x.toNat : Int) / (2 : Int) ^ j % (4294967296 : Int)) (1 : Int)) == (1 : Int)) = decide ((c.toNat % 2 + x.toNat / 2 ^ j) % 2 = 1) := by
  have hx : x.toNat / 2 ^ j < 4294967296 := Nat.lt_of_le_of_lt (Nat.div_le_self _ _) (Nat.lt_trans x.toNat_lt (by decide))
  have e : ((x.toNat : Int) / (2 : Int) ^ j % (4294967296 : Int)) = ((BitVec.ofNat 32 (x.toNat / 2 ^ j)).toNat : Int) := by
    rw [← bit_cast _ hx]
    rw [show (x.toNat : Int) / (2 : Int) ^ j = ((x.toNat / 2 ^ j : Nat) : Int) from by simp]
    generalize x.toNat / 2 ^ j = n at hx
    omega
  rw [e, and1, and1]
  rw [bit_cast (c.toNat % 2) (by omega), bit_cast ((BitVec.ofNat 32 (x.toNat / 2 ^ j)).toNat % 2) (by omega), xor_u32]
  rw [BitVec.toNat_ofNat, Nat.mod_eq_of_lt hx]
  rcases Nat.mod_two_eq_zero_or_one c.toNat with h1 | h1 <;> rcases Nat.mod_two_eq_zero_or_one (x.toNat / 2 ^ j) with h2 | h2 <;> rw [h1, h2]
  · rw [show decide ((0 + x.toNat / 2 ^ j) % 2 = 1) = false from by simp; omega]; decide
  · rw [show decide ((0 + x.toNat / 2 ^ j) % 2 = 1) = true from by simp; omega]; decide
  · rw [show decide ((1 + x.toNat / 2 ^ j) % 2 = 1) = true from by simp; omega]; decide
  · rw [show decide ((1 + x.toNat / 2 ^ j) % 2 = 1) = false from by simp; omega]; decide
theorem rround_t {c : BitVec 32} {x : UInt8} {i : Nat} (h : (c.toNat % 2 + x.toNat / 2 ^ i) % 2 = 1) : bits .xor .u32 ((c.toNat : Int) / (2 : Int)) (2197175160 : Int) = ((rround c x i).toNat : Int) := by
  rw [shr1, show (2197175160 : Int) = (poly.toNat : Int) from rfl, xor_u32, rround, if_pos h]
theorem rround_f {c : BitVec 32} {x : UInt8} {i : Nat} (h : ¬ (c.toNat % 2 + x.toNat / 2 ^ i) % 2 = 1) : (c.toNat : Int) / (2 : Int) = ((rround c x i).toNat : Int) := by
  rw [shr1, rround, if_neg h]

/-! the two texts' rounds come to the same: the byte's bits are xored in one by one, or all at once -/
theorem xor_odd (a b : Nat) : ((a ^^^ b) % 2 = 1) = ((a % 2 + b) % 2 = 1) := by
  rw [Nat.xor_mod_two_eq_one]
  apply propext
  omega
theorem ite_xor (p : Prop) [Decidable p] (a b y : BitVec 32) : (if p then a ^^^ b else a) ^^^ y = (a ^^^ y) ^^^ (if p then b else 0#32) := by
  split
  · rw [BitVec.xor_assoc, BitVec.xor_comm b y, ← BitVec.xor_assoc]
  · rw [BitVec.xor_zero]
theorem stp_xor (s y : BitVec 32) : stp (s ^^^ y) = (if (s.toNat % 2 + y.toNat) % 2 = 1 then (s >>> 1) ^^^ poly else s >>> 1) ^^^ (y >>> 1) := by
  rw [ite_xor, stp, BitVec.toNat_xor]
  simp only [xor_odd, BitVec.ushiftRight_xor_distrib]
theorem stps_rrounds (c : BitVec 32) (x : UInt8) : ∀ n, stps n (c ^^^ x.toBitVec.zeroExtend 32) = rrounds n c x ^^^ (x.toBitVec.zeroExtend 32 >>> n)
  | 0 => by simp [stps, rrounds]
  | n + 1 => by
    rw [stps, stps_rrounds c x n, stp_xor, rrounds, rround, BitVec.toNat_ushiftRight, toNat_ext, Nat.shiftRight_eq_div_pow, ← BitVec.shiftRight_add]
theorem rrounds_byt (c : BitVec 32) (x : UInt8) : rrounds 8 c x = byt c x := by
  have h := stps_rrounds c x 8
  have e : x.toBitVec.zeroExtend 32 >>> 8 = 0#32 := by
    apply BitVec.eq_of_toNat_eq
    rw [BitVec.toNat_ushiftRight, toNat_ext, Nat.shiftRight_eq_div_pow]
    have := x.toNat_lt
    simp; omega
  rw [e, BitVec.xor_zero] at h
  rw [byt, h]

/-! one-to-one -/
theorem stp_inj {a b : BitVec 32} (h : stp a = stp b) : a = b := by
  have hm : ∀ c : BitVec 32, (stp c).toNat / 2147483648 = c.toNat % 2 := by
    intro c
    have hl := c.isLt
    have h1 : (c >>> 1).toNat = c.toNat / 2 := by rw [BitVec.toNat_ushiftRight, Nat.shiftRight_eq_div_pow]
    have h2 : ∀ n : Nat, n / 2147483648 = n >>> 31 := fun n => by rw [Nat.shiftRight_eq_div_pow]
    rw [stp, BitVec.toNat_xor, h2, Nat.shiftRight_xor_distrib, ← h2, ← h2, h1]
    have h3 : c.toNat / 2 / 2147483648 = 0 := by omega
    rw [h3, Nat.zero_xor]
    split
    · rename_i h; rw [h]; decide
    · rw [show c.toNat % 2 = 0 from by omega]; decide
  have ha := hm a
  have hb := hm b
  rw [h, hb] at ha
  unfold stp at h
  rw [ha] at h
  have hx : a >>> 1 = b >>> 1 := (BitVec.xor_left_inj _).1 h
  have hd : a.toNat / 2 = b.toNat / 2 := by
    have := congrArg BitVec.toNat hx
    rw [BitVec.toNat_ushiftRight, BitVec.toNat_ushiftRight, Nat.shiftRight_eq_div_pow, Nat.shiftRight_eq_div_pow] at this
    simpa using this
  apply BitVec.eq_of_toNat_eq
  omega
theorem stps_inj {a b : BitVec 32} : ∀ n, stps n a = stps n b → a = b
  | 0, h => h
  | n + 1, h => stps_inj n (stp_inj h)
theorem byt_inj {a b : BitVec 32} {x : UInt8} (h : byt a x = byt b x) : a = b := by
  have := stps_inj 8 h
  exact (BitVec.xor_left_inj _).1 this
theorem run_inj {a b : BitVec 32} : ∀ l : List UInt8, run a l = run b l → a = b
  | [], h => h
  | x :: l, h => byt_inj (x := x) (run_inj l h)
theorem byt_inj_byte {a : BitVec 32} {x y : UInt8} (h : byt a x = byt a y) : x = y := by
  have h1 := (BitVec.xor_right_inj _).1 (stps_inj 8 h)
  have h2 := congrArg BitVec.toNat h1
  rw [toNat_ext, toNat_ext] at h2
  exact UInt8.toNat_inj.1 h2
theorem crc_inj {a b : List UInt8} : crc a = crc b ↔ run ones a = run ones b := by
  constructor
  · intro h
    have h1 := congrArg (fun z => ~~~ z) h
    simpa only [crc, BitVec.not_not] using h1
  · intro h; rw [crc, crc, h]

/-! four neighbours -/
theorem stps_shift (s : BitVec 32) : ∀ (n : Nat) (y : BitVec 32), y.toNat % 2 ^ n = 0 → stps n (s ^^^ y) = stps n s ^^^ (y >>> n)
  | 0, y, _ => by simp [stps]
  | n + 1, y, h => by
    have h0 : y.toNat % 2 ^ n = 0 := by
      have : 2 ^ n ∣ y.toNat := Nat.dvd_trans (Nat.pow_dvd_pow 2 (Nat.le_succ n)) (Nat.dvd_of_mod_eq_zero h)
      exact Nat.mod_eq_zero_of_dvd this
    have h1 : y.toNat / 2 ^ n % 2 = 0 := by
      obtain ⟨q, hq⟩ := Nat.dvd_of_mod_eq_zero h
      rw [hq, Nat.pow_succ, Nat.mul_assoc, Nat.mul_div_cancel_left _ (Nat.two_pow_pos n)]
      omega
    rw [stps, stps_shift s n y h0, stp_xor, stps, stp, BitVec.toNat_ushiftRight, Nat.shiftRight_eq_div_pow, ← BitVec.shiftRight_add]
    rw [ite_xor, show ((stps n s).toNat % 2 + y.toNat / 2 ^ n) % 2 = (stps n s).toNat % 2 from by omega]
    rw [BitVec.xor_assoc, BitVec.xor_comm (y >>> (n + 1)), ← BitVec.xor_assoc]
theorem stps_add (m : Nat) : ∀ (n : Nat) (c : BitVec 32), stps n (stps m c) = stps (n + m) c
  | 0, c => by simp [stps]
  | n + 1, c => by rw [stps, stps_add m n c, Nat.succ_add, stps]
theorem byt_shift (n : Nat) (hn : n + 8 ≤ 32) (s : BitVec 32) (x : UInt8) : byt (stps n s) x = stps (8 + n) (s ^^^ (x.toBitVec.zeroExtend 32 <<< n)) := by
  have hx := x.toNat_lt
  have hle : x.toNat * 2 ^ n < 2 ^ 32 := by
    have h1 : 2 ^ n ≤ 2 ^ 24 := Nat.pow_le_pow_right (by decide) (by omega)
    have h2 : x.toNat * 2 ^ n ≤ 255 * 2 ^ 24 := Nat.mul_le_mul (by omega) h1
    omega
  have hv : (x.toBitVec.zeroExtend 32 <<< n).toNat = x.toNat * 2 ^ n := by
    rw [BitVec.toNat_shiftLeft, toNat_ext, Nat.shiftLeft_eq, Nat.mod_eq_of_lt hle]
  have he : (x.toBitVec.zeroExtend 32 <<< n) >>> n = x.toBitVec.zeroExtend 32 := by
    apply BitVec.eq_of_toNat_eq
    rw [BitVec.toNat_ushiftRight, hv, toNat_ext, Nat.shiftRight_eq_div_pow, Nat.mul_div_cancel _ (Nat.two_pow_pos n)]
  rw [byt, ← stps_add n 8, stps_shift s n _ (by rw [hv, Nat.mul_mod_left]), he]
def word (a b c d : UInt8) : BitVec 32 := ((a.toBitVec.zeroExtend 32 ^^^ (b.toBitVec.zeroExtend 32 <<< 8)) ^^^ (c.toBitVec.zeroExtend 32 <<< 16)) ^^^ (d.toBitVec.zeroExtend 32 <<< 24)
theorem run_four (s : BitVec 32) (a b c d : UInt8) : run s [a, b, c, d] = stps 32 (s ^^^ word a b c d) := by
  simp only [run, List.foldl_cons, List.foldl_nil]
  rw [show byt s a = stps 8 (s ^^^ a.toBitVec.zeroExtend 32) from rfl, byt_shift 8 (by decide), byt_shift 16 (by decide), byt_shift 24 (by decide), word, ← BitVec.xor_assoc, ← BitVec.xor_assoc, ← BitVec.xor_assoc]
theorem word_inj {a b c d a' b' c' d' : UInt8} (h : word a b c d = word a' b' c' d') : a = a' ∧ b = b' ∧ c = c' ∧ d = d' := by
  have bit : ∀ i, (word a b c d).getLsbD i = (word a' b' c' d').getLsbD i := fun i => by rw [h]
  simp only [word, BitVec.truncate_eq_setWidth, BitVec.getLsbD_xor, BitVec.getLsbD_shiftLeft, BitVec.getLsbD_setWidth] at bit
  have big : ∀ (u : UInt8) (i : Nat), 8 ≤ i → u.toBitVec.getLsbD i = false := fun u i hi => BitVec.getLsbD_of_ge _ _ hi
  refine ⟨?_, ?_, ?_, ?_⟩ <;> (apply UInt8.toBitVec_inj.1; apply BitVec.eq_of_getLsbD_eq; intro i hi)
  · have := bit i
    simpa [show i < 32 from by omega, show i < 16 from by omega, show i < 24 from by omega, hi] using this
  · have := bit (i + 8)
    simpa [show i + 8 < 32 from by omega, show ¬ i + 8 < 8 from by omega, show i < 32 from by omega, show i + 8 < 16 from by omega, show i + 8 < 24 from by omega, big] using this
  · have := bit (i + 16)
    simpa [show i + 16 < 32 from by omega, show ¬ i + 16 < 16 from by omega, show i < 32 from by omega, show i + 16 < 24 from by omega, show ¬ i + 16 < 8 from by omega, show i + 16 - 8 = i + 8 from by omega, big] using this
  · have := bit (i + 24)
    simpa [show i + 24 < 32 from by omega, show ¬ i + 24 < 24 from by omega, show i < 32 from by omega, show ¬ i + 24 < 16 from by omega, show ¬ i + 24 < 8 from by omega, show i + 24 - 8 = i + 16 from by omega, show i + 24 - 16 = i + 8 from by omega, big] using this
/-- FOUR NEIGHBOURS: the sums are one just if the bytes are. -/
theorem burst (p q : List UInt8) (a b c d a' b' c' d' : UInt8) : crc (p ++ [a, b, c, d] ++ q) = crc (p ++ [a', b', c', d'] ++ q) ↔ (a = a' ∧ b = b' ∧ c = c' ∧ d = d') := by
  rw [crc_inj]
  simp only [run_append]
  constructor
  · intro h
    have h1 := run_inj q h
    rw [run_four, run_four] at h1
    exact word_inj ((BitVec.xor_right_inj _).1 (stps_inj 32 h1))
  · rintro ⟨rfl, rfl, rfl, rfl⟩; rfl
/-- A byte behind: the sums are one just if those ahead are. -/
theorem joins (p q : List UInt8) (x : UInt8) : crc (p ++ [x]) = crc (q ++ [x]) ↔ crc p = crc q := by
  simp only [crc_inj, run_snoc]
  exact ⟨byt_inj, fun h => by rw [h]⟩
/-- The last byte turned: another sum. -/
theorem last_turned (p : List UInt8) {x y : UInt8} (h : x ≠ y) : crc (p ++ [x]) ≠ crc (p ++ [y]) := by
  intro e
  rw [crc_inj, run_snoc, run_snoc] at e
  exact h (byt_inj_byte e)
theorem crc_nil : crc [] = 0#32 := by decide
theorem crc_zero : crc [0] ≠ 0#32 := by decide
set_option maxRecDepth 100000 in
theorem crc_digits : crc [0x31, 0x32, 0x33, 0x34, 0x35, 0x36, 0x37, 0x38, 0x39] = 0xe3069283#32 := by decide +kernel
end Go.Proofs.YtmlfeljhojmbbaaGreatDoor.Pcrc
