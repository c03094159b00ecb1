/- Walk: the law SeglogFrames answers true, whatever the record. -/
import Derived.Test.YtmlfeljhojmbbaaDoorFrame
namespace Go.Proofs.YtmlfeljhojmbbaaDoor
open Go.RowKit
set_option linter.unusedSimpArgs false
set_option linter.unusedVariables false
set_option maxRecDepth 100000

theorem rd_lit (w : World) : RdB (w.alloc (.cells #[.int .u8 1] 5)) (some ⟨w.heap.size, 0, none⟩) [1] :=
  rdB_of_rd (rd_new w #[.int .u8 1] 5)
set_option maxHeartbeats 1000000 in
theorem seglogFrames_walk (A : Option Addr) (b : List UInt8) (c : Nat) (w : World) (hr : RdB w A b) (hc : b.length ≤ c) (hcm : c ≤ maxLen) (hm : b.length ≤ reach)
    (hk : Rd w (some ⟨1, 0, none⟩) (wds Psha.ks)) (hbg : Rd w (some ⟨0, 0, none⟩) (wds Psha.iv.list)) :
    Calls Tryd.prog 3 #[.slice A b.length c] w fun e w' => e = .returned (.bool true) ∧ Below w.heap.size w w' := by
  have HR := Shut.mk hr
  have HGK := Shut.mk hk
  have HGB := Shut.mk hbg
  clear hr hk hbg
  obtain ⟨n, hn⟩ : ∃ n, n = b.length := ⟨_, rfl⟩
  rw [← hn] at hm hc ⊢
  have HN := Shut.mk hn.symm
  clear hn
  by_cases hlen : 1 ≤ n ∧ n ≤ 4000
  · obtain ⟨h1, h2⟩ := hlen
    go_enter Tryd.func3, Tryd.ntmps3
    go_wp2_with fail
    refine (frame_calls A c n b _ HR.out HN.out h1 h2 HGK.out HGB.out).mono ?_
    rintro e w1 ⟨v1, rfl, ho1, hb1, hn1⟩
    go_wp2_with fail
    refine (rframe_calls A c n b _ (HR.out.keep hb1) HN.out h1 h2).mono ?_
    rintro e w2 ⟨v2, rfl, ho2, hb2, hn2⟩
    have hb02 := hb1.trans (hb2.mono hb1.size)
    have ho12 := ho1.below hb2 (fun g hg => ho1.block_lt hg)
    clear ho1 hb1 hb2 hn1 hn2
    go_wp2_with fail
    have hb3 := hb02.alloc hb02.size (.cells #[.int .u8 1] 5)
    refine (frame_calls _ 1 1 [1] _ (rd_lit w2) rfl (by omega) (by omega) (HGK.out.keep hb3) (HGB.out.keep hb3)).mono ?_
    rintro e w3 ⟨v3, rfl, ho3, hb33, hn3⟩
    have hb03 := hb3.trans (hb33.mono hb3.size)
    have hb23 : Below w2.heap.size w2 w3 := ((Below.refl _ w2).alloc (Nat.le_refl _) _).trans (hb33.mono (by simp))
    obtain ⟨A1, c1, rfl, _⟩ := ho12.form
    obtain ⟨A2, c2, rfl, _⟩ := ho2.form
    obtain ⟨A3, c3, rfl, _⟩ := ho3.form
    have HE := Shut.mk (equal_calls A1 A2 (40 + n) c1 (40 + n) c2 (frm b) (frm b) w3 (rdb_own _ (ho12.below hb23 (fun g hg => ho12.block_lt hg))) (rdb_own _ (ho2.below hb23 (fun g hg => ho2.block_lt hg))) (by rw [frm_length, HN.out]) (by rw [frm_length, HN.out]))
    clear ho12 ho2 hb02 hb3 hb33 hn3 hb23 ho3
    go_wp2_with fail
    refine HE.out.mono ?_
    rintro e w' ⟨rfl, rfl⟩
    rw [beq_self_eq_true]
    go_wp2
    go_ret
    exact ⟨rfl, hb03⟩
  · have hlen' : n < 1 ∨ 4000 < n := by omega
    go_enter Tryd.func3, Tryd.ntmps3
    go_wp2_with fail
    refine (frame_not A c n _ hlen').mono ?_
    rintro e w' ⟨rfl, rfl⟩
    go_wp2_with fail
    refine (rframe_not A c n _ hlen').mono ?_
    rintro e w' ⟨rfl, rfl⟩
    go_wp2_with fail
    have hb3 := (Below.refl w.heap.size w).alloc (Nat.le_refl _) (.cells #[.int .u8 1] 5)
    refine (frame_calls _ 1 1 [1] _ (rd_lit w) rfl (by omega) (by omega) (HGK.out.keep hb3) (HGB.out.keep hb3)).mono ?_
    rintro e w3 ⟨v3, rfl, ho3, hb33, hn3⟩
    have hb03 := hb3.trans (hb33.mono hb3.size)
    obtain ⟨A3, c3, rfl, _⟩ := ho3.form
    have HE := Shut.mk (equal_calls none none 0 0 0 0 [] [] w3 (fun k hk => by simp at hk) (fun k hk => by simp at hk) rfl rfl)
    clear ho3 hb3 hb33 hn3
    go_wp2_with fail
    refine HE.out.mono ?_
    rintro e w' ⟨rfl, rfl⟩
    rw [beq_self_eq_true]
    go_wp2
    go_ret
    exact ⟨rfl, hb03⟩
end Go.Proofs.YtmlfeljhojmbbaaDoor
