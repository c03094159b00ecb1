/- Walk: the law DigestBursts answers true, whatever the bytes, the place and the turn. -/
import Derived.Test.YtbihdfpphekehaaCrc
import Derived.Test.YtbihdfpphekehaaClone
import Derived.RegionTactic
import Derived.ChangeAlike
namespace Go.Proofs.Ytbihdfpphekehaa
open Go.RowKit
set_option linter.unusedSimpArgs false
set_option linter.unusedVariables false

/-- the byte that is xored in at the k-th of the four places -/
def byteOf (b : BitVec 32) (k : Nat) : UInt8 := UInt8.ofNat (b.toNat / 2 ^ (8 * k))
def turned (m : List UInt8) (p : Nat) (b : BitVec 32) : Nat → List UInt8
  | 0 => m
  | k + 1 => (turned m p b k).set (p + k) ((turned m p b k).getD (p + k) 0 ^^^ byteOf b k)
theorem turned_length (m : List UInt8) (p : Nat) (b : BitVec 32) (k : Nat) : (turned m p b k).length = m.length := by
  induction k with
  | zero => rfl
  | succ k ih => rw [turned, List.length_set, ih]
theorem xor_byte (b : BitVec 32) (x : UInt8) (k : Nat) : bits .xor .u8 (x.toNat : Int) ((b.toNat : Int) / (2 : Int) ^ (8 * k) % (256 : Int)) = ((x ^^^ byteOf b k).toNat : Int) := by
  have h : ((b.toNat : Int) / (2 : Int) ^ (8 * k) % (256 : Int)) = ((byteOf b k).toNat : Int) := by
    rw [byteOf, UInt8.toNat_ofNat', show (b.toNat : Int) / (2 : Int) ^ (8 * k) = ((b.toNat / 2 ^ (8 * k) : Nat) : Int) from by simp]
    rfl
  rw [h, Pcrc.xor_u8]
/-- the four places, all at once -/
theorem turned_four (m : List UInt8) (p : Nat) (b : BitVec 32) (hp : p + 4 ≤ m.length) : ∃ (l r : List UInt8) (x0 x1 x2 x3 : UInt8), m = l ++ [x0, x1, x2, x3] ++ r ∧
    turned m p b 4 = l ++ [x0 ^^^ byteOf b 0, x1 ^^^ byteOf b 1, x2 ^^^ byteOf b 2, x3 ^^^ byteOf b 3] ++ r := by
  have h : m = m.take p ++ m.drop p := (List.take_append_drop p m).symm
  have hl : (m.take p).length = p := by rw [List.length_take]; omega
  have hd : (m.drop p).length = m.length - p := List.length_drop
  match hm : m.drop p with
  | [] => rw [hm] at hd; simp at hd; omega
  | [_] => rw [hm] at hd; simp at hd; omega
  | [_, _] => rw [hm] at hd; simp at hd; omega
  | [_, _, _] => rw [hm] at hd; simp at hd; omega
  | x0 :: x1 :: x2 :: x3 :: r =>
    refine ⟨m.take p, r, x0, x1, x2, x3, by rw [h, hm]; simp [hl], ?_⟩
    rw [hm] at h
    generalize m.take p = l at h hl
    subst hl
    rw [h]
    simp [turned, List.getD_eq_getElem?_getD]
theorem byteOf_zero (k : Nat) : byteOf 0#32 k = 0 := by simp [byteOf]
theorem xor_same {x y : UInt8} (h : x = x ^^^ y) : y = 0 := by
  have h1 : x ^^^ x = x ^^^ (x ^^^ y) := by rw [← h]
  rw [UInt8.xor_self, ← UInt8.xor_assoc, UInt8.xor_self, UInt8.zero_xor] at h1
  exact h1.symm
theorem byteOf_all {b : BitVec 32} (h0 : byteOf b 0 = 0) (h1 : byteOf b 1 = 0) (h2 : byteOf b 2 = 0) (h3 : byteOf b 3 = 0) : b = 0#32 := by
  have hb := b.isLt
  have f : ∀ k, byteOf b k = 0 → b.toNat / 2 ^ (8 * k) % 256 = 0 := fun k h => by
    have := congrArg UInt8.toNat h
    rwa [byteOf, UInt8.toNat_ofNat'] at this
  have g0 := f 0 h0
  have g1 := f 1 h1
  have g2 := f 2 h2
  have g3 := f 3 h3
  simp only [Nat.mul_zero, Nat.pow_zero, Nat.div_one, Nat.mul_one, Nat.reduceMul, Nat.reducePow] at g0 g1 g2 g3
  apply BitVec.eq_of_toNat_eq
  simp
  omega
theorem turned_crc (m : List UInt8) (p : Nat) (b : BitVec 32) (hp : p + 4 ≤ m.length) : Pcrc.crc (turned m p b 4) = Pcrc.crc m ↔ b = 0#32 := by
  obtain ⟨l, r, x0, x1, x2, x3, hm, ht⟩ := turned_four m p b hp
  rw [ht, hm]
  constructor
  · intro h
    obtain ⟨h0, h1, h2, h3⟩ := (Pcrc.burst l r x0 x1 x2 x3 _ _ _ _).1 h.symm
    exact byteOf_all (xor_same h0) (xor_same h1) (xor_same h2) (xor_same h3)
  · rintro rfl
    simp [byteOf_zero]
theorem beq_toNat (a b : BitVec 32) : ((a.toNat : Int) == (b.toNat : Int)) = decide (a = b) := by
  rw [Bool.eq_iff_iff, beq_iff_eq, decide_eq_true_iff]
  exact ⟨fun h => BitVec.eq_of_toNat_eq (by omega), fun h => by rw [h]⟩
theorem beq_zero (a : BitVec 32) : ((a.toNat : Int) == (0 : Int)) = decide (a = 0#32) := by
  have := beq_toNat a 0#32
  exact this

theorem place (at0 : Int) (n : Nat) (hn : n ≤ 2000) : ∃ p : Nat, wrap64 ((IntKind.u64.wrap at0).tmod ((n : Int) + 4 - 3)) = (p : Int) ∧ p ≤ n := by
  have h0 : 0 ≤ IntKind.u64.wrap at0 := by rw [IntKind.wrap_u64]; omega
  rw [Int.tmod_eq_emod_of_nonneg h0]
  have h1 := Int.emod_nonneg (IntKind.u64.wrap at0) (show (n : Int) + 4 - 3 ≠ 0 by omega)
  have h2 := Int.emod_lt_of_pos (IntKind.u64.wrap at0) (show (0 : Int) < (n : Int) + 4 - 3 by omega)
  generalize IntKind.u64.wrap at0 % ((n : Int) + 4 - 3) = q at h1 h2
  refine ⟨q.toNat, ?_, by omega⟩
  unfold wrap64
  omega

set_option maxHeartbeats 1000000 in
theorem digestBursts_walk (A : Option Addr) (l : List UInt8) (ca : Nat) (at0 : Int) (by0 : BitVec 32) (w : World) (hA : RdB w A l) (hc : l.length ≤ ca) (hcm : ca ≤ maxLen) (hn : l.length ≤ reach) (hat1 : -9223372036854775808 ≤ at0) (hat2 : at0 ≤ 9223372036854775807) :
    Calls Try.prog 3 #[.slice A l.length ca, .int .i64 at0, .int .u32 (by0.toNat : Int)] w fun e w' => e = .returned (.bool true) ∧ Below w.heap.size w w' := by
  have ha' : l.length ≤ maxLen := by unfold reach at hn; unfold maxLen; omega
  unfold maxLen at hcm ha'
  obtain ⟨i0, hi, hz0, hz1, hz2⟩ := info_parts info_u8
  obtain ⟨n, hmin, hn1, hn2⟩ : ∃ n : Nat, (if (2000 : Int) < (l.length : Int) then (2000 : Int) else (l.length : Int)) = (n : Int) ∧ n ≤ 2000 ∧ n ≤ l.length := by
    refine ⟨min 2000 l.length, ?_, Nat.min_le_left _ _, Nat.min_le_right _ _⟩
    split <;> omega
  have hA0 := hA.take n
  have hl0 : (l.take n).length = n := by rw [List.length_take]; omega
  generalize l.take n = l0 at hA0 hl0
  have HL := Lib.hid hl0
  clear hl0
  go_enter Try.func3, Try.ntmps3
  go_wp2_with fail
  refine (clone_n A ca n l0 _ hA0 (by rw [HL.out]; unfold reach; omega) HL.out).mono ?_
  rintro e w1 ⟨v1, rfl, hown1, hb1, hnew1⟩
  rw [HL.out] at hown1
  clear hmin
  go_wp2_with (at_builtin; refine wpList_append _ rfl _ _ _ rfl 5 i0 _ 1 1 Try.underlying22 hi hz0 hz1 hz2 rfl (by decide) _ _ _ rfl (hown1.alloc (.cells #[.int .u8 1, .int .u8 2, .int .u8 3, .int .u8 4] 5)) _ 4 4 _ rfl rfl (rd_new w1 #[.int .u8 1, .int .u8 2, .int .u8 3, .int .u8 4] 5) (by simp [Value.oneCell']) (by simp only [maxLen]; omega) (by omega) ?_; intro v2 w2 hown2 hg2 hat2 hz2'; clear hz2'; obtain ⟨g, cap, rfl, hc1, hc2⟩ := hown2.head (by omega))
  obtain ⟨m, hm⟩ : ∃ m, m = l0 ++ [1, 2, 3, 4] := ⟨_, rfl⟩
  have hml : m.length = n + 4 := by rw [hm, List.length_append, HL.out]; rfl
  have hown3 : Own w2 5 1 (.slice (some ⟨g, 0, none⟩) (n + 4) cap) (n + 4) (bys m) := hown2.cast rfl (by rw [hm, bys_append]; rfl)
  have hbw2 : Below w.heap.size w w2 := (hb1.alloc hb1.size _).grown hg2 (by have := hb1.size; simp; omega) (fun k hk => hnew1 k hk)
  have hgb : w.heap.size ≤ g := by
    rcases hat2 with h | h
    · exact hnew1 g h.symm
    · cases h; simpa using Nat.le_succ_of_le hb1.size
  have HM := Lib.hid hml
  clear hml hm hown2
  refine (crc_own _ m _ (hown3.cast HM.out.symm rfl) (by rw [HM.out]; unfold maxLen; omega)).mono ?_
  rintro e w' ⟨rfl, rfl⟩
  go_wp2_with fail
  obtain ⟨p, hp, hpn⟩ := place at0 n hn1
  rw [hp]
  clear hp hb1 hg2 hat2 hown1 hat1
  go_loopw [27] (fun i wr => ∃ k : Nat, k ≤ 4 ∧ i = .int .i64 k ∧ Own wr 5 1 (.slice (some ⟨g, 0, none⟩) (n + 4) cap) (n + 4) (bys (turned m p by0 k)) ∧ Below w.heap.size w wr) (fun i _ => 4 - (intOf i).toNat)
  case atStart => exact ⟨0, Nat.zero_le _, rfl, hown3, hbw2⟩
  case round =>
    obtain ⟨k, hk, rfl, ho, hbk⟩ := hrel
    by_cases hk4 : k < 4
    · have hlen : (turned m p by0 k).length = n + 4 := by rw [turned_length, HM.out]
      have hcell := ho.cell (p + k) (bys_get (turned m p by0 k) (p + k) (by omega))
      have hfree := ho.free (p + k)
      generalize hx : (turned m p by0 k).getD (p + k) 0 = x at hcell
      have HX := Lib.hid hx
      have HY := Lib.hid (xor_byte by0 x k)
      clear hx
      have HLn := Lib.hid hlen
      clear hlen
      go_wp2
      go_region
      go_wp2
      go_roundw
      case rel =>
        refine ⟨k + 1, by omega, by go_num, ?_, (hbk.setCell (p := ⟨g, p + k, none⟩) hgb _).drew⟩
        rw [turned, bys_set, HX.out, ← HY.out]
        exact (ho.set (p + k) _).drew
      case measure => simp [intOf]; omega
    · obtain rfl : k = 4 := by omega
      have hlen : (turned m p by0 4).length = n + 4 := by rw [turned_length, HM.out]
      have HLn := Lib.hid hlen
      clear hlen
      have HQ := Lib.hid (beq_toNat (Pcrc.crc (turned m p by0 4)) (Pcrc.crc m))
      have HI := Lib.hid (turned_crc m p by0 (by rw [HM.out]; omega))
      generalize turned m p by0 4 = m' at ho HLn HQ HI
      have HB := Lib.hid (beq_zero by0)
      have HW := Lib.hid (beq_zero (Pcrc.crc m))
      by_cases hw : Pcrc.crc m = 0#32
      all_goals by_cases hb : by0 = 0#32
      · have tq : (((Pcrc.crc m').toNat : Int) == ((Pcrc.crc m).toNat : Int)) = true := by rw [HQ.out]; simp [HI.out, hb]
        have tb : ((by0.toNat : Int) == (0 : Int)) = true := by rw [HB.out]; simp [hb]
        have tw : (((Pcrc.crc m).toNat : Int) == (0 : Int)) = true := by rw [HW.out]; simp [hw]
        have tn : (((Pcrc.crc m).toNat : Int) != (0 : Int)) = false := by rw [bne, tw]; rfl
        clear HQ HI HB HW hw hb
        go_wp2_with fail
        refine (crc_own _ m' _ (ho.cast HLn.out.symm rfl) (by rw [HLn.out]; unfold maxLen; omega)).mono ?_
        rintro e w' ⟨rfl, rfl⟩
        go_wp2_with fail
        refine (crc_n none 0 0 [] _ (fun k hk => by simp at hk) (by simp [maxLen]) rfl).mono ?_
        rintro e w' ⟨rfl, rfl⟩
        have t0 : (((Pcrc.crc []).toNat : Int) == (0 : Int)) = true := by decide
        go_wp2_with fail
        refine (rcrc_own _ m' _ (ho.cast HLn.out.symm rfl) (by rw [HLn.out]; unfold maxLen; omega)).mono ?_
        rintro e w' ⟨rfl, rfl⟩
        go_wp2_with fail
        refine (crc_own _ m' _ (ho.cast HLn.out.symm rfl) (by rw [HLn.out]; unfold maxLen; omega)).mono ?_
        rintro e w' ⟨rfl, rfl⟩
        go_wp2
        go_ret
        exact ⟨rfl, hbk⟩
      · have tq : (((Pcrc.crc m').toNat : Int) == ((Pcrc.crc m).toNat : Int)) = false := by rw [HQ.out]; simp [HI.out, hb]
        have tb : ((by0.toNat : Int) == (0 : Int)) = false := by rw [HB.out]; simp [hb]
        have tw : (((Pcrc.crc m).toNat : Int) == (0 : Int)) = true := by rw [HW.out]; simp [hw]
        have tn : (((Pcrc.crc m).toNat : Int) != (0 : Int)) = false := by rw [bne, tw]; rfl
        clear HQ HI HB HW hw hb
        go_wp2_with fail
        refine (crc_own _ m' _ (ho.cast HLn.out.symm rfl) (by rw [HLn.out]; unfold maxLen; omega)).mono ?_
        rintro e w' ⟨rfl, rfl⟩
        go_wp2_with fail
        refine (crc_n none 0 0 [] _ (fun k hk => by simp at hk) (by simp [maxLen]) rfl).mono ?_
        rintro e w' ⟨rfl, rfl⟩
        have t0 : (((Pcrc.crc []).toNat : Int) == (0 : Int)) = true := by decide
        go_wp2_with fail
        refine (rcrc_own _ m' _ (ho.cast HLn.out.symm rfl) (by rw [HLn.out]; unfold maxLen; omega)).mono ?_
        rintro e w' ⟨rfl, rfl⟩
        go_wp2_with fail
        refine (crc_own _ m' _ (ho.cast HLn.out.symm rfl) (by rw [HLn.out]; unfold maxLen; omega)).mono ?_
        rintro e w' ⟨rfl, rfl⟩
        go_wp2
        go_ret
        exact ⟨rfl, hbk⟩
      · have tq : (((Pcrc.crc m').toNat : Int) == ((Pcrc.crc m).toNat : Int)) = true := by rw [HQ.out]; simp [HI.out, hb]
        have tb : ((by0.toNat : Int) == (0 : Int)) = true := by rw [HB.out]; simp [hb]
        have tw : (((Pcrc.crc m).toNat : Int) == (0 : Int)) = false := by rw [HW.out]; simp [hw]
        have tn : (((Pcrc.crc m).toNat : Int) != (0 : Int)) = true := by rw [bne, tw]; rfl
        clear HQ HI HB HW hw hb
        go_wp2_with fail
        refine (crc_own _ m' _ (ho.cast HLn.out.symm rfl) (by rw [HLn.out]; unfold maxLen; omega)).mono ?_
        rintro e w' ⟨rfl, rfl⟩
        go_wp2
        go_ret
        exact ⟨rfl, hbk⟩
      · have tq : (((Pcrc.crc m').toNat : Int) == ((Pcrc.crc m).toNat : Int)) = false := by rw [HQ.out]; simp [HI.out, hb]
        have tb : ((by0.toNat : Int) == (0 : Int)) = false := by rw [HB.out]; simp [hb]
        have tw : (((Pcrc.crc m).toNat : Int) == (0 : Int)) = false := by rw [HW.out]; simp [hw]
        have tn : (((Pcrc.crc m).toNat : Int) != (0 : Int)) = true := by rw [bne, tw]; rfl
        clear HQ HI HB HW hw hb
        go_wp2_with fail
        refine (crc_own _ m' _ (ho.cast HLn.out.symm rfl) (by rw [HLn.out]; unfold maxLen; omega)).mono ?_
        rintro e w' ⟨rfl, rfl⟩
        go_wp2
        go_ret
        exact ⟨rfl, hbk⟩
end Go.Proofs.Ytbihdfpphekehaa
