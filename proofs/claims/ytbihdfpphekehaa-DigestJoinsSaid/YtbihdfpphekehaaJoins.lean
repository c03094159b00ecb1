/- Walk: the law DigestJoins answers true, whatever the two slices and the byte. -/
import Derived.Test.YtbihdfpphekehaaCrc
import Derived.Test.YtbihdfpphekehaaClone
namespace Go.Proofs.Ytbihdfpphekehaa
open Go.RowKit
set_option linter.unusedSimpArgs false
set_option linter.unusedVariables false

set_option maxHeartbeats 1000000 in
theorem digestJoins_walk (A : Option Addr) (a : List UInt8) (ca : Nat) (B : Option Addr) (b : List UInt8) (cb : Nat) (c : UInt8) (w : World) (hA : RdB w A a) (_ : a.length ≤ ca) (_ : ca ≤ maxLen) (ha : a.length ≤ reach) (hB : RdB w B b) (_ : b.length ≤ cb) (_ : cb ≤ maxLen) (hb : b.length ≤ reach) :
    Calls Try.prog 4 #[.slice A a.length ca, .slice B b.length cb, .int .u8 (c.toNat : Int)] w fun e w' => e = .returned (.bool true) ∧ Below w.heap.size w w' := by
  have ha' : a.length ≤ maxLen := by unfold reach at ha; unfold maxLen; omega
  have hb' : b.length ≤ maxLen := by unfold reach at hb; unfold maxLen; omega
  obtain ⟨i0, hi, hz0, hz1, hz2⟩ := info_parts info_u8
  by_cases hcrc : Pcrc.crc a = Pcrc.crc b
  · have ht : (((Pcrc.crc a).toNat : Int) != ((Pcrc.crc b).toNat : Int)) = false := by
      rw [hcrc]; simp
    have HJ := Lib.hid ((Pcrc.joins a b c).2 hcrc)
    have hj : (((Pcrc.crc (a ++ [c])).toNat : Int) == ((Pcrc.crc (b ++ [c])).toNat : Int)) = true := by
      rw [HJ.out]; simp
    have h0 : (((Pcrc.crc [0]).toNat : Int) != 0) = true := by
      rw [bne_iff_ne]
      intro e
      exact Pcrc.crc_zero (BitVec.eq_of_toNat_eq (by rw [show (0#32).toNat = 0 from rfl]; omega))
    clear hcrc
    go_enter Try.func4, Try.ntmps4
    go_wp2_with fail
    refine (crc_calls A ca a _ hA ha').mono ?_
    rintro e w' ⟨rfl, rfl⟩
    go_wp2_with fail
    refine (crc_calls B cb b _ hB hb').mono ?_
    rintro e w' ⟨rfl, rfl⟩
    go_wp2_with fail
    refine (clone_calls A ca a _ hA ha).mono ?_
    rintro e w1 ⟨v1, rfl, hown1, hb1, hnew1⟩
    go_wp2_with (at_builtin; refine wpList_append _ rfl _ _ _ rfl 5 i0 _ 1 1 Try.underlying22 hi hz0 hz1 hz2 rfl (by decide) _ _ _ rfl (hown1.alloc (.cells #[.int .u8 (c.toNat : Int)] 5)) _ 1 1 _ rfl rfl (rd_new w1 #[.int .u8 (c.toNat : Int)] 5) (by simp [Value.oneCell']) (by simp only [maxLen]; unfold reach at ha; omega) (by unfold reach at ha; omega) ?_; intro v2 w2 hown2 hg2 hat2 hz2'; clear hat2 hz2')
    have hbw2 : Below w.heap.size w w2 := (hb1.alloc hb1.size (.cells #[.int .u8 (c.toNat : Int)] 5)).grown hg2 (by have := hb1.size; simp; omega) (fun k hk => hnew1 k hk)
    clear hg2
    refine (crc_own v2 (a ++ [c]) _ hown2.snoc (by simp only [maxLen, List.length_append, List.length_cons, List.length_nil]; unfold reach at ha; omega)).mono ?_
    rintro e w' ⟨rfl, rfl⟩
    go_wp2_with fail
    refine (clone_calls B cb b _ (hB.keep hbw2) hb).mono ?_
    rintro e w3 ⟨v3, rfl, hown3, hb3, hnew3⟩
    have hbw3 : Below w.heap.size w w3 := hbw2.trans (hb3.mono hbw2.size)
    go_wp2_with (at_builtin; refine wpList_append _ rfl _ _ _ rfl 5 i0 _ 1 1 Try.underlying22 hi hz0 hz1 hz2 rfl (by decide) _ _ _ rfl (hown3.alloc (.cells #[.int .u8 (c.toNat : Int)] 5)) _ 1 1 _ rfl rfl (rd_new w3 #[.int .u8 (c.toNat : Int)] 5) (by simp [Value.oneCell']) (by simp only [maxLen]; unfold reach at hb; omega) (by unfold reach at hb; omega) ?_; intro v4 w4 hown4 hg4 hat4 hz4'; clear hat4 hz4')
    have hbw4 : Below w.heap.size w w4 := (hbw3.alloc hbw3.size (.cells #[.int .u8 (c.toNat : Int)] 5)).grown hg4 (by have := hbw3.size; simp; omega) (fun k hk => Nat.le_trans hbw2.size (hnew3 k hk))
    clear hg4
    refine (crc_own v4 (b ++ [c]) _ hown4.snoc (by simp only [maxLen, List.length_append, List.length_cons, List.length_nil]; unfold reach at hb; omega)).mono ?_
    rintro e w' ⟨rfl, rfl⟩
    go_wp2_with fail
    refine (crc_own _ [c] _ (own_lit w4 c) (by simp [maxLen])).mono ?_
    rintro e w' ⟨rfl, rfl⟩
    go_wp2_with fail
    refine (rcrc_own _ [c] _ (by simpa using own_lit (w4.alloc (.cells #[.int .u8 (c.toNat : Int)] 5)) c) (by simp [maxLen])).mono ?_
    rintro e w' ⟨rfl, rfl⟩
    go_wp2_with fail
    refine (crc_own _ [0] _ (by simpa using own_lit ((w4.alloc (.cells #[.int .u8 (c.toNat : Int)] 5)).alloc (.cells #[.int .u8 (c.toNat : Int)] 5)) 0) (by simp [maxLen])).mono ?_
    rintro e w' ⟨rfl, rfl⟩
    go_wp2
    go_ret
    exact ⟨rfl, ((hbw4.alloc hbw4.size _).alloc (by have := hbw4.size; simp; omega) _).alloc (by have := hbw4.size; simp; omega) _⟩
  · have ht : (((Pcrc.crc a).toNat : Int) != ((Pcrc.crc b).toNat : Int)) = true := by
      rw [bne_iff_ne]
      intro e
      exact hcrc (BitVec.eq_of_toNat_eq (by omega))
    have HJ := Lib.hid (fun h => hcrc ((Pcrc.joins a b c).1 h))
    have hj : (((Pcrc.crc (a ++ [c])).toNat : Int) != ((Pcrc.crc (b ++ [c])).toNat : Int)) = true := by
      rw [bne_iff_ne]
      intro e
      exact HJ.out (BitVec.eq_of_toNat_eq (by omega))
    clear hcrc
    go_enter Try.func4, Try.ntmps4
    go_wp2_with fail
    refine (crc_calls A ca a _ hA ha').mono ?_
    rintro e w' ⟨rfl, rfl⟩
    go_wp2_with fail
    refine (crc_calls B cb b _ hB hb').mono ?_
    rintro e w' ⟨rfl, rfl⟩
    go_wp2_with fail
    refine (clone_calls A ca a _ hA ha).mono ?_
    rintro e w1 ⟨v1, rfl, hown1, hb1, hnew1⟩
    go_wp2_with (at_builtin; refine wpList_append _ rfl _ _ _ rfl 5 i0 _ 1 1 Try.underlying22 hi hz0 hz1 hz2 rfl (by decide) _ _ _ rfl (hown1.alloc (.cells #[.int .u8 (c.toNat : Int)] 5)) _ 1 1 _ rfl rfl (rd_new w1 #[.int .u8 (c.toNat : Int)] 5) (by simp [Value.oneCell']) (by simp only [maxLen]; unfold reach at ha; omega) (by unfold reach at ha; omega) ?_; intro v2 w2 hown2 hg2 hat2 hz2'; clear hat2 hz2')
    have hbw2 : Below w.heap.size w w2 := (hb1.alloc hb1.size (.cells #[.int .u8 (c.toNat : Int)] 5)).grown hg2 (by have := hb1.size; simp; omega) (fun k hk => hnew1 k hk)
    clear hg2
    refine (crc_own v2 (a ++ [c]) _ hown2.snoc (by simp only [maxLen, List.length_append, List.length_cons, List.length_nil]; unfold reach at ha; omega)).mono ?_
    rintro e w' ⟨rfl, rfl⟩
    go_wp2_with fail
    refine (clone_calls B cb b _ (hB.keep hbw2) hb).mono ?_
    rintro e w3 ⟨v3, rfl, hown3, hb3, hnew3⟩
    have hbw3 : Below w.heap.size w w3 := hbw2.trans (hb3.mono hbw2.size)
    go_wp2_with (at_builtin; refine wpList_append _ rfl _ _ _ rfl 5 i0 _ 1 1 Try.underlying22 hi hz0 hz1 hz2 rfl (by decide) _ _ _ rfl (hown3.alloc (.cells #[.int .u8 (c.toNat : Int)] 5)) _ 1 1 _ rfl rfl (rd_new w3 #[.int .u8 (c.toNat : Int)] 5) (by simp [Value.oneCell']) (by simp only [maxLen]; unfold reach at hb; omega) (by unfold reach at hb; omega) ?_; intro v4 w4 hown4 hg4 hat4 hz4'; clear hat4 hz4')
    have hbw4 : Below w.heap.size w w4 := (hbw3.alloc hbw3.size (.cells #[.int .u8 (c.toNat : Int)] 5)).grown hg4 (by have := hbw3.size; simp; omega) (fun k hk => Nat.le_trans hbw2.size (hnew3 k hk))
    clear hg4
    refine (crc_own v4 (b ++ [c]) _ hown4.snoc (by simp only [maxLen, List.length_append, List.length_cons, List.length_nil]; unfold reach at hb; omega)).mono ?_
    rintro e w' ⟨rfl, rfl⟩
    go_wp2
    go_ret
    exact ⟨rfl, hbw4⟩
end Go.Proofs.Ytbihdfpphekehaa
