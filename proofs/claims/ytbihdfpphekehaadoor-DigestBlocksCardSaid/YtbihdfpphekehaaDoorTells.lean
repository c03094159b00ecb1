/- Walk: the law DigestTells answers true, whatever the slice. -/
import Derived.Test.YtbihdfpphekehaaDoorSum
import Derived.Test.YtbihdfpphekehaaDoorCrc
import Derived.Test.YtbihdfpphekehaaDoorEqual
import Derived.Lib.SlBytesConst
namespace Go.Proofs.YtbihdfpphekehaaDoor
open Go.RowKit
set_option linter.unusedSimpArgs false
set_option linter.unusedVariables false

theorem rcrc_n (A : Option Addr) (cap n : Nat) (l : List UInt8) (w : World) (hr : RdB w A l) (hm : l.length ≤ maxLen) (hn : l.length = n) :
    Calls Tryd.prog 10 #[.slice A n cap] w fun e w' => e = .returned (.int .u32 ((Pcrc.crc l).toNat : Int)) ∧ w = w' := by
  subst hn
  exact rcrc_calls A cap l w hr hm
theorem rd_own {w : World} {e size : Nat} {A : Option Addr} {cap : Nat} (n : Nat) {l : List UInt8} (h : Own w e size (.slice A n cap) n (bys l)) : RdB w A l := by
  obtain ⟨A7, c7, e7, hr7, _⟩ := h.form
  injection e7 with e7
  subst e7
  exact rdB_of_rd hr7
theorem turned_ne (x : UInt8) (h : x ^^^ 1 = x) : False := by
  have h1 : x ^^^ (x ^^^ 1) = x ^^^ x := by rw [h]
  rw [← UInt8.xor_assoc, UInt8.xor_self, UInt8.zero_xor] at h1
  exact absurd h1 (by decide)
theorem rd_mark (w : World) (l : List UInt8) (t : TypeId) (fr : Nat × Nat) : RdB (w.alloc (.cells (bys l).toArray t fr)) (some ⟨w.heap.size, 0, none⟩) l := by
  intro k hk
  refine ⟨_, rfl, ?_⟩
  rw [add_head, World.cell?_alloc_mark, List.getElem?_toArray, bys_get l k hk]
set_option maxRecDepth 100000 in
set_option maxHeartbeats 1000000 in
theorem digestTells_walk (A : Option Addr) (b : List UInt8) (c : Nat) (w : World) (hr : RdB w A b) (hc : b.length ≤ c) (hcm : c ≤ maxLen) (hm : b.length ≤ reach)
    (hk : Rd w (some ⟨1, 0, none⟩) (wds Psha.ks)) (hbg : Rd w (some ⟨0, 0, none⟩) (wds Psha.iv.list)) :
    Calls Tryd.prog 4 #[.slice A b.length c] w fun e w' => e = .returned (.bool true) ∧ Below w.heap.size w w' := by
  have hm' : b.length ≤ maxLen := by unfold reach at hm; unfold maxLen; omega
  have HR := Shut.mk hr
  have HGK := Shut.mk hk
  have HGB := Shut.mk hbg
  clear hr hk hbg
  obtain ⟨n, hn⟩ : ∃ n, n = b.length := ⟨_, rfl⟩
  rw [← hn] at hm hm' hc ⊢
  have HN := Shut.mk hn.symm
  clear hn
  go_enter Tryd.func4, Tryd.ntmps4
  go_wp2_with fail
  refine (clone_n A c n b _ HR.out (by rw [HN.out]; exact hm) HN.out).mono ?_
  rintro e w1 ⟨v1, rfl, ho1, hb1, hn1⟩
  rw [HN.out] at ho1
  obtain ⟨A1, c1, rfl, hr1, _⟩ := ho1.form
  have HR1 := Shut.mk (rdB_of_rd hr1)
  have HO1 := Shut.mk ho1
  have HN1 := Shut.mk hn1
  clear hr1 ho1 hn1
  go_wp2_with fail
  refine (dsum_calls A1 c1 n b _ HR1.out HN.out hm (HGK.out.keep hb1) (HGB.out.keep hb1)).mono ?_
  rintro e w2 ⟨v2, rfl, ho2, hb2, hn2⟩
  have hb02 : Below w.heap.size w w2 := hb1.trans (hb2.mono hb1.size)
  rw [Psha.sha_length] at ho2
  obtain ⟨g2, c2, rfl, hc2, _⟩ := ho2.head (by omega)
  have hg2 : w.heap.size ≤ g2 := Nat.le_trans hb1.size (hn2 g2 rfl)
  have HO2 := Shut.mk ho2
  have HO12 := Shut.mk (HO1.out.below hb2 (fun g hg => HO1.out.block_lt hg))
  have HNE := Shut.mk (fun g (hg : (Value.slice A1 n c1).ownBlock = some g) => Nat.ne_of_lt (Nat.lt_of_lt_of_le (HO1.out.block_lt hg) (hn2 g2 rfl)))
  clear ho2 hn2 hb1
  go_wp2_with fail
  refine (rsum_calls A c n b _ (HR.out.keep hb02) HN.out hm).mono ?_
  rintro e w3 ⟨v3, rfl, ho3, hb3, hn3⟩
  have hb03 : Below w.heap.size w w3 := hb02.trans (hb3.mono hb02.size)
  rw [Psha.sha_length] at ho3
  obtain ⟨g3, c3, rfl, hc3, _⟩ := ho3.head (by omega)
  have HO23 := Shut.mk (HO2.out.below hb3 (fun g hg => HO2.out.block_lt hg))
  have HO13 := Shut.mk (HO12.out.below hb3 (fun g hg => HO12.out.block_lt hg))
  have hr3 := rdB_of_rd ho3.rd_of
  have hr2 := rdB_of_rd HO23.out.rd_of
  have hr1 := rd_own n HO13.out
  clear ho3 hn3 hb02 hb2 hb3
  have HSL := Shut.mk (Psha.sha_length b)
  go_wp2_with fail
  refine (equal_calls _ _ 32 c2 32 c3 (Psha.sha b) (Psha.sha b) _ hr2 hr3 HSL.out HSL.out).mono ?_
  rintro e w' ⟨rfl, rfl⟩
  rw [beq_self_eq_true]
  go_wp2_with fail
  refine (crc_n A1 c1 n b _ hr1 (by rw [HN.out]; exact hm') HN.out).mono ?_
  rintro e w' ⟨rfl, rfl⟩
  go_wp2_with fail
  refine (rcrc_n A c n b _ (HR.out.keep hb03) (by rw [HN.out]; exact hm') HN.out).mono ?_
  rintro e w' ⟨rfl, rfl⟩
  have hs0 := HO23.out.cell 0 (bys_get (Psha.sha b) 0 (by rw [HSL.out]; omega))
  have hf0 := HO23.out.free 0
  generalize hx : (Psha.sha b).getD 0 0 = x at hs0
  have HX := Shut.mk hx
  clear hx hr3 hr2 hr1
  have HXR := Shut.mk (Pcrc.xor_u8 x 1)
  have kc := fun (w : World) (C : Array Value) (n c : Nat) => Lib.run_convert_bytes_const (P := Tryd.prog) w 23 5 C n c Tryd.underlying23 Tryd.underlying5
  go_wp2_with fail
  rw [show bits BinOp.xor IntKind.u8 (x.toNat : Int) 1 = ((x ^^^ 1).toNat : Int) from HXR.out]
  have ho4 : Own (w3.setCell ⟨g2, 0, none⟩ (.int .u8 ((x ^^^ 1).toNat : Int))) 5 1 (.slice (some ⟨g2, 0, none⟩) 32 c2) 32 (bys ((Psha.sha b).set 0 (x ^^^ 1))) := (HO23.out.set 0 _).cast rfl (by rw [bys_set])
  have ho14 : Own (w3.setCell ⟨g2, 0, none⟩ (.int .u8 ((x ^^^ 1).toNat : Int))) 5 1 (.slice A1 n c1) n (bys b) := HO13.out.keep (fun g hg => Below.heap_setCell w3 _ _ g (HNE.out g hg))
  have hb04 : Below w.heap.size w (w3.setCell ⟨g2, 0, none⟩ (.int .u8 ((x ^^^ 1).toNat : Int))) := hb03.setCell (p := ⟨g2, 0, none⟩) hg2 _
  generalize w3.setCell ⟨g2, 0, none⟩ (.int .u8 ((x ^^^ 1).toNat : Int)) = w4 at ho4 ho14 hb04 ⊢
  have HO4 := Shut.mk ho4
  have HO14 := Shut.mk ho14
  clear ho4 ho14 hs0 hf0
  refine (equal_calls _ _ n c1 n c b b _ (rd_own n HO14.out) (HR.out.keep hb04) HN.out HN.out).mono ?_
  rintro e w' ⟨rfl, rfl⟩
  rw [beq_self_eq_true]
  go_wp2_with fail
  refine (dsum_calls A1 c1 n b _ (rd_own n HO14.out) HN.out hm (HGK.out.keep hb04) (HGB.out.keep hb04)).mono ?_
  rintro e w5 ⟨v5, rfl, ho5, hb5, hn5⟩
  have hb05 : Below w.heap.size w w5 := hb04.trans (hb5.mono hb04.size)
  rw [Psha.sha_length] at ho5
  obtain ⟨g5, c5, rfl, hc5, _⟩ := ho5.head (by omega)
  have hr5 := rdB_of_rd ho5.rd_of
  have hr4 := rdB_of_rd (HO4.out.below hb5 (fun g hg => HO4.out.block_lt hg)).rd_of
  have hne : ((Psha.sha b).set 0 (x ^^^ 1) == Psha.sha b) = false := by
    rw [beq_eq_false_iff_ne]
    intro e
    have h0 := congrArg (fun l => l.getD 0 0) e
    have hl : 0 < (Psha.sha b).length := by rw [HSL.out]; omega
    simp only [List.getD_eq_getElem?_getD, List.getElem?_set_self hl, Option.getD_some] at h0
    rw [← List.getD_eq_getElem?_getD, HX.out] at h0
    exact turned_ne x h0
  have HE := Shut.mk (equal_calls _ _ 32 c2 32 c5 ((Psha.sha b).set 0 (x ^^^ 1)) (Psha.sha b) _ hr4 hr5 (by rw [List.length_set]; exact HSL.out) HSL.out)
  clear hr4 hr5 ho5 hn5
  go_wp2_with fail
  refine HE.out.mono ?_
  rintro e w' ⟨rfl, rfl⟩
  rw [hne]
  go_wp2_with fail
  refine (crc_n _ 9 9 [49, 50, 51, 52, 53, 54, 55, 56, 57] _ (rd_mark w5 _ _ _) (by simp [maxLen]) rfl).mono ?_
  rintro e w' ⟨rfl, rfl⟩
  rw [Pcrc.crc_digits]
  go_wp2_with fail
  go_ret
  refine ⟨rfl, ?_⟩
  have hs5 := hb05.size
  exact hb05.alloc hs5 _
end Go.Proofs.YtbihdfpphekehaaDoor
