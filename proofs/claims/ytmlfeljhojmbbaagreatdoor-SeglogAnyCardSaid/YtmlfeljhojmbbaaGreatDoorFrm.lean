/- Walks: the program's Frame and the reference's: the same bytes. -/
import Derived.Test.YtmlfeljhojmbbaaGreatDoorSum
import Derived.Test.YtmlfeljhojmbbaaGreatDoorCrc
import Derived.Test.YtmlfeljhojmbbaaGreatDoorPutM
import Derived.Test.YtmlfeljhojmbbaaGreatDoorCnc
import Derived.Test.YtmlfeljhojmbbaaGreatDoorEqM
namespace Go.Proofs.YtmlfeljhojmbbaaGreatDoor
open Go.RowKit
set_option linter.unusedSimpArgs false
set_option linter.unusedVariables false
set_option maxRecDepth 100000

theorem rdb_own {w : World} {e size : Nat} {A : Option Addr} {cap : Nat} (n : Nat) {l : List UInt8} (h : Own w e size (.slice A n cap) n (bys l)) : RdB w A l := by
  obtain ⟨A7, c7, e7, hr7, _⟩ := h.form
  injection e7 with e7
  subst e7
  exact rdB_of_rd hr7
theorem rcrc_at (A : Option Addr) (cap n : Nat) (l : List UInt8) (w : World) (hr : RdB w A l) (hm : l.length ≤ maxLen) (hn : l.length = n) :
    Calls Tryz.prog 111 #[.slice A n cap] w fun e w' => e = .returned (.int .u32 ((Pcrc.crc l).toNat : Int)) ∧ w = w' := by
  subst hn
  exact rcrc_calls A cap l w hr hm
/-- a record's bytes -/
def frm (b : List UInt8) : List UInt8 := (putl b.length 4 ++ putl (Pcrc.crc b).toNat 4) ++ Psha.sha b ++ b
theorem frm_length (b : List UInt8) : (frm b).length = 40 + b.length := by
  simp [frm, putl_length, Psha.sha_length]
  omega

set_option maxHeartbeats 1000000 in
theorem frame_calls (A : Option Addr) (c n : Nat) (b : List UInt8) (w : World) (hr : RdB w A b) (hn : b.length = n) (h1 : 1 ≤ n) (h2 : n ≤ 4000)
    (hk : Rd w (some ⟨1, 0, none⟩) (wds Psha.ks)) (hbg : Rd w (some ⟨0, 0, none⟩) (wds Psha.iv.list)) :
    Calls Tryz.prog 48 #[.slice A n c] w fun e w' => ∃ v, e = .returned (.tuple #[v, .int .i64 0]) ∧ Own w' 5 1 v (40 + n) (bys (frm b)) ∧ Below w.heap.size w w' ∧ (∀ g, v.ownBlock = some g → w.heap.size ≤ g) := by
  have HR := Shut.mk hr
  have HN := Shut.mk hn
  have HGK := Shut.mk hk
  have HGB := Shut.mk hbg
  clear hr hk hbg hn
  go_enter Tryz.func48, Tryz.ntmps48
  go_wp2_with fail
  refine (put_calls (.slice none 0 0) [] n 4 w.heap.size w (Own.nil _ _ _) (Nat.le_refl _) (fun g hg => by cases hg) (by omega) (by omega) (by simp)).mono ?_
  rintro e w1 ⟨v1, rfl, ho1, hb1, hn1⟩
  go_wp2_with fail
  refine (crc_n A c n b _ (HR.out.keep hb1) (by rw [HN.out]; simp [maxLen]; omega) HN.out).mono ?_
  rintro e w' ⟨rfl, rfl⟩
  have hcl := (Pcrc.crc b).isLt
  go_wp2_with fail
  have HP := Shut.mk (putl_length n 4)
  refine (put_calls v1 (putl n 4) (Pcrc.crc b).toNat 4 w.heap.size w1 (ho1.cast (by rw [HP.out]; rfl) (by rw [List.nil_append])) hb1.size hn1 (by omega) (by omega) (by rw [HP.out]; omega)).mono ?_
  rintro e w2 ⟨v2, rfl, ho2, hb2, hn2⟩
  have hb02 : Below w.heap.size w w2 := hb1.trans hb2
  rw [HP.out] at ho2
  clear ho1 hb1 hn1 hb2
  go_wp2_with fail
  refine (dsum_calls A c n b _ (HR.out.keep hb02) HN.out (by unfold reach; omega) (HGK.out.keep hb02) (HGB.out.keep hb02)).mono ?_
  rintro e w3 ⟨v3, rfl, ho3, hb3, hn3⟩
  have hb03 : Below w.heap.size w w3 := hb02.trans (hb3.mono hb02.size)
  rw [Psha.sha_length] at ho3
  have ho23 := ho2.below hb3 (fun g hg => ho2.block_lt hg)
  obtain ⟨A2, c2, rfl, _⟩ := ho23.form
  obtain ⟨A3, c3, rfl, _⟩ := ho3.form
  have HO2 := Shut.mk ho23
  have HO3 := Shut.mk ho3
  clear ho2 ho3 hb3 hn2 hn3 hb02 ho23
  go_wp2_with fail
  have hrb := HR.out.keep hb03
  have hb4 := hb03.alloc hb03.size (.cells #[.slice A2 8 c2, .slice A3 32 c3, .slice A n c] 27)
  refine (concat_calls A2 A3 A 8 c2 32 c3 n c (putl n 4 ++ putl (Pcrc.crc b).toNat 4) (Psha.sha b) b w3.heap.size _ (Blk.new w3 _ _) (rdb_own 8 (HO2.out.alloc _)) (by rw [List.length_append, putl_length, putl_length]) (rdb_own 32 (HO3.out.alloc _)) (Psha.sha_length b) (HR.out.keep hb4) HN.out (by omega) (by omega)).mono ?_
  rintro e w5 ⟨v5, rfl, ho5, hb5, hn5⟩
  have hb05 := hb4.trans (hb5.mono hb4.size)
  go_wp2_with fail
  go_ret2
  refine ⟨v5, rfl, ho5.cast ?_ ?_, hb05, fun g hg => Nat.le_trans hb4.size (hn5 g hg)⟩
  · simp only [List.length_append, putl_length, Psha.sha_length, HN.out]
  · rw [frm, HN.out]
theorem frame_not (A : Option Addr) (c n : Nat) (w : World) (h : n < 1 ∨ 4000 < n) :
    Calls Tryz.prog 48 #[.slice A n c] w fun e w' => e = .returned (.tuple #[.slice none 0 0, .int .i64 1]) ∧ w = w' := by
  go_enter Tryz.func48, Tryz.ntmps48
  rcases h with h | h
  · obtain rfl : n = 0 := by omega
    go_wp2_with fail
    go_ret2
    exact ⟨rfl, rfl⟩
  · go_wp2_with fail
    go_ret2
    exact ⟨rfl, rfl⟩
set_option maxHeartbeats 1000000 in
theorem rframe_calls (A : Option Addr) (c n : Nat) (b : List UInt8) (w : World) (hr : RdB w A b) (hn : b.length = n) (h1 : 1 ≤ n) (h2 : n ≤ 4000) :
    Calls Tryz.prog 98 #[.slice A n c] w fun e w' => ∃ v, e = .returned (.tuple #[v, .int .i64 0]) ∧ Own w' 5 1 v (40 + n) (bys (frm b)) ∧ Below w.heap.size w w' ∧ (∀ g, v.ownBlock = some g → w.heap.size ≤ g) := by
  obtain ⟨i0, hi, hz0, hz1, hz2⟩ := info_parts info_u8
  have HR := Shut.mk hr
  have HN := Shut.mk hn
  clear hr hn
  go_enter Tryz.func98, Tryz.ntmps98
  go_wp2_with fail
  refine (big_calls n 4 w (by omega) (by omega) (by omega)).mono ?_
  rintro e w1 ⟨v1, rfl, ho1, hb1, hn1⟩
  rw [putl_length] at ho1
  go_wp2_with fail
  refine (rcrc_at A c n b _ (HR.out.keep hb1) (by rw [HN.out]; simp [maxLen]; omega) HN.out).mono ?_
  rintro e w' ⟨rfl, rfl⟩
  have hcl := (Pcrc.crc b).isLt
  go_wp2_with fail
  refine (big_calls (Pcrc.crc b).toNat 4 w1 (by omega) (by omega) (by omega)).mono ?_
  rintro e w2 ⟨v2, rfl, ho2, hb2, hn2⟩
  rw [putl_length] at ho2
  have hb02 := hb1.trans (hb2.mono hb1.size)
  have ho12 := ho1.below hb2 (fun g hg => ho1.block_lt hg)
  obtain ⟨A2, c2, rfl, hr2, _⟩ := ho2.form
  have hl2 : (bys (putl (Pcrc.crc b).toNat 4)).length = 4 * 1 := by rw [bys_length, putl_length]
  clear ho1 hb1 hb2
  go_wp2_with (at_builtin; refine wpList_append _ rfl _ _ _ rfl 5 i0 _ 1 1 Tryz.underlying27 hi hz0 hz1 hz2 rfl (by decide) _ _ _ rfl ho12 _ 4 c2 _ rfl hl2 hr2 (bys_one _) (by simp only [maxLen]; omega) (by omega) ?_; intro v3 w3 hap3)
  have hb03 := hb02.grown hap3.grown hb02.size hn1
  have hn3 := new_append hb02.size hn1 hap3.lies
  have ho3 := hap3.own
  clear hap3 ho12 ho2 hr2 hl2 hn2
  refine (rsum_calls A c n b _ (HR.out.keep hb03) HN.out (by unfold reach; omega)).mono ?_
  rintro e w4 ⟨v4, rfl, ho4, hb4, hn4⟩
  rw [Psha.sha_length] at ho4
  have hb04 := hb03.trans (hb4.mono hb03.size)
  have ho34 := ho3.below hb4 (fun g hg => ho3.block_lt hg)
  obtain ⟨A4, c4, rfl, hr4, _⟩ := ho4.form
  have hl4 : (bys (Psha.sha b)).length = 32 * 1 := by rw [bys_length, Psha.sha_length]
  have hlb : (bys b).length = n * 1 := by rw [bys_length, HN.out]; omega
  have HRB := Shut.mk (fun (W : World) (h : Below w.heap.size w W) => rd_of_rdB (HR.out.keep h))
  clear hb4 hb03 ho3
  go_wp2_with (first
    | (at_builtin; refine wpList_append _ rfl _ _ _ rfl 5 i0 _ 1 1 Tryz.underlying27 hi hz0 hz1 hz2 rfl (by decide) _ _ _ rfl ho34 _ 32 c4 _ rfl hl4 hr4 (bys_one _) (by simp only [maxLen]; omega) (by omega) ?_; intro v5 w5 hap5)
    | (at_builtin; refine wpList_append _ rfl _ _ _ rfl 5 i0 _ 1 1 Tryz.underlying27 hi hz0 hz1 hz2 rfl (by decide) _ _ _ rfl hap5.own _ n c _ rfl hlb (HRB.out _ (hb04.grown hap5.grown hb04.size hn3)) (bys_one _) (by simp only [maxLen]; omega) (by omega) ?_; intro v6 w6 hap6))
  go_ret2
  have hb05 := hb04.grown hap5.grown hb04.size hn3
  have hn5 := new_append hb04.size hn3 hap5.lies
  refine ⟨v6, rfl, hap6.own.cast (by omega) ?_, hb05.grown hap6.grown hb05.size hn5, new_append hb05.size hn5 hap6.lies⟩
  rw [frm, HN.out]
  simp only [bys_append, List.append_assoc]
theorem rframe_not (A : Option Addr) (c n : Nat) (w : World) (h : n < 1 ∨ 4000 < n) :
    Calls Tryz.prog 98 #[.slice A n c] w fun e w' => e = .returned (.tuple #[.slice none 0 0, .int .i64 1]) ∧ w = w' := by
  go_enter Tryz.func98, Tryz.ntmps98
  rcases h with h | h
  · obtain rfl : n = 0 := by omega
    go_wp2_with fail
    go_ret2
    exact ⟨rfl, rfl⟩
  · go_wp2_with fail
    go_ret2
    exact ⟨rfl, rfl⟩
end Go.Proofs.YtmlfeljhojmbbaaGreatDoor
