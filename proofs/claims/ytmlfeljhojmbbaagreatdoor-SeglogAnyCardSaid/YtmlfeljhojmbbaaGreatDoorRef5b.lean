/- Walks: the reference's rounds and block. -/
import Derived.Test.YtmlfeljhojmbbaaGreatDoorRef5
namespace Go.Proofs.YtmlfeljhojmbbaaGreatDoor
open Go.RowKit
set_option linter.unusedSimpArgs false
set_option linter.unusedVariables false
set_option maxRecDepth 100000

set_option maxHeartbeats 400000 in
theorem rounds_calls (w : World) : Calls Tryz.prog 140 #[] w fun e w' => e = .returned (.slice (some ⟨w.heap.size, 0, none⟩) 64 64) ∧ w' = w.alloc (.cells (wds Psha.ks).toArray 127) := by
  have hk : wds Psha.ks = (wds Psha.ks) := rfl
  go_enter Tryz.func140, Tryz.ntmps140
  go_wp2
  go_ret
  exact ⟨rfl, rfl⟩

theorem ks_length : Psha.ks.length = 64 := rfl
theorem rounds_new (w : World) : Calls Tryz.prog 140 #[] w (NewW w Psha.ks) :=
  (rounds_calls w).mono fun e w' ⟨he, hw⟩ => by
    subst he
    subst hw
    exact ⟨_, rfl, ⟨by rw [wds_length, Nat.mul_one], .inr ⟨w.heap.size, 64, (wds Psha.ks).toArray, by rw [ks_length], heap_alloc_new w _, by rw [ks_length]; exact Nat.le_refl _, by simp [maxLen], by simp [wds_length, ks_length], by simp [wds_length, ks_length, List.take_of_length_le]⟩⟩,
      (Below.refl _ _).alloc (Nat.le_refl _) _, fun g hg => by cases hg; exact Nat.le_refl _⟩

set_option maxRecDepth 100000 in
set_option maxHeartbeats 1000000 in
theorem rblock_calls (ad ah : Addr) (cap ch : Nat) (b : List UInt8) (s : Psha.St) (w : World) (hr : RdB w (some ad) b) (hb : b.length = 64) (hcap : 64 ≤ cap) (hcm : cap ≤ maxLen)
    (hh : Rd w (some ah) (wds s.list)) :
    Calls Tryz.prog 128 #[.slice (some ah) 8 ch, .slice (some ad) 64 cap] w (NewW w (Psha.block s b).list) := by
  obtain ⟨i0, hi, hz0, hz1, hz2⟩ := info_parts info_u32
  have HB := Shut.mk hb
  clear hb
  have HR := Shut.mk hr
  clear hr
  have HH := Shut.mk hh
  clear hh
  go_enter Tryz.func128, Tryz.ntmps128
  go_wp2_with fail
  refine (schedule_calls ad cap b _ HR.out HB.out hcap hcm).mono ?_
  rintro e w1 ⟨vw, rfl, how, hb1, hnw⟩
  have HNW := Shut.mk hnw
  clear hnw
  go_wp2_with fail
  refine (rounds_new w1).mono ?_
  rintro e wk ⟨vk, rfl, hok, hbk, hnk⟩
  have hbk1 : Below w.heap.size w wk := hb1.trans (hbk.mono hb1.size)
  have how1 := how.below hbk (fun g hg => how.block_lt hg)
  obtain ⟨gk, ck, rfl, _, _⟩ := hok.head (by rw [ks_length]; omega)
  rw [ks_length] at hok
  obtain ⟨gw, cw, rfl, _, _⟩ := how1.head (by rw [Psha.sched_length]; omega)
  rw [Psha.sched_length] at how1
  have HNK := Shut.mk hnk
  clear hnk how hb1
  have hb2 := hbk1.alloc hbk1.size (.cells #[] 127)
  have hh2 := HH.out.keep hb2
  have ho0 := own_empty wk 127 1
  have hbs := hbk1.size
  rw [Psha.sched_length, ks_length]
  have HWl := Shut.mk (Psha.sched_length b 64)
  generalize hW : Psha.sched b 64 = W at how1 HWl
  have HW := Shut.mk hW
  clear hW
  go_wp2_with (at_builtin; refine wpList_append _ rfl _ _ _ rfl 127 i0 _ 1 4 Tryz.underlying147 hi hz0 hz1 hz2 rfl (by decide) _ _ _ rfl ho0 _ 8 ch _ rfl rfl hh2 (wds_one _) (by simp [maxLen]) (by omega) ?_; intro v2 w2 hap)
  obtain ⟨A2, c2, hv2, _⟩ := hap.own.form
  have hb2w : Below w.heap.size w w2 := hb2.grown hap.grown (by simp; omega) (fun g hg => by cases hg; exact hbs)
  have hnv : Hid (∀ g, v2.ownBlock = some g → w.heap.size ≤ g) := new_append (v := .slice (some ⟨wk.heap.size, 0, none⟩) 0 0) (w1 := wk.alloc (.cells #[] 127)) (by simp; omega) (fun g hg => by cases hg; exact hbs) hap.lies
  have hov : Own w2 127 1 v2 8 (wds s.list) := hap.own.cast rfl rfl
  have hlw := how1.block_lt (g := gw) rfl
  have hlk := hok.block_lt (g := gk) rfl
  have how2 : Own w2 127 1 (.slice (some ⟨gw, 0, none⟩) 64 cw) 64 (wds W) := (how1.alloc _).other (r := wk.heap.size) hap.grown (fun g hg => by cases hg; exact Nat.ne_of_lt hlw)
  have hok2 : Own w2 127 1 (.slice (some ⟨gk, 0, none⟩) 64 ck) 64 (wds Psha.ks) := (hok.alloc _).other (r := wk.heap.size) hap.grown (fun g hg => by cases hg; exact Nat.ne_of_lt hlk)
  clear hap how1 hok ho0 hh2 hb2 hbk1 hbk hv2
  go_loopw [7, 20] (fun v i wr => ∃ k : Nat, k ≤ 64 ∧ i = .int .i64 k ∧ Own wr 127 1 v 8 (wds (Psha.rounds s W k).list) ∧ Below w2.heap.size w2 wr ∧ Hid (∀ g, v.ownBlock = some g → w.heap.size ≤ g)) (fun _ i _ => 64 - (intOf i).toNat)
  case atStart => exact ⟨0, Nat.zero_le _, rfl, hov, Below.refl _ _, hnv⟩
  case round =>
    obtain ⟨k, hk, rfl, ho, hbr, hnw⟩ := hrel
    by_cases hlt : k < 64
    · have hwk := how2.below hbr (fun g hg => how2.block_lt hg)
      have hkk := hok2.below hbr (fun g hg => hok2.block_lt hg)
      have cw' := hwk.cell k (wds_get W k (by rw [HWl.out]; exact hlt))
      have ck' := hkk.cell k (wds_get Psha.ks k (by rw [ks_length]; exact hlt))
      have HS := Shut.mk (show Psha.rounds s W (k + 1) = Psha.rnd (Psha.rounds s W k) (Psha.ks.getD k 0) (W.getD k 0) from rfl)
      obtain ⟨gv, cv, rfl, _, _⟩ := ho.head (by omega)
      generalize W.getD k 0 = xw at cw' HS
      generalize Psha.ks.getD k 0 = xk at ck' HS
      generalize Psha.rounds s W k = st at ho HS
      obtain ⟨sa, sb, sc, sd, se, sf, sg, sh⟩ := st
      have q0 : wr.cell? ⟨gv, 0, none⟩ = some (.int .u32 (sa.toNat : Int)) := ho.cell 0 rfl
      have q1 : wr.cell? ⟨gv, 1, none⟩ = some (.int .u32 (sb.toNat : Int)) := ho.cell 1 rfl
      have q2 : wr.cell? ⟨gv, 2, none⟩ = some (.int .u32 (sc.toNat : Int)) := ho.cell 2 rfl
      have q3 : wr.cell? ⟨gv, 3, none⟩ = some (.int .u32 (sd.toNat : Int)) := ho.cell 3 rfl
      have q4 : wr.cell? ⟨gv, 4, none⟩ = some (.int .u32 (se.toNat : Int)) := ho.cell 4 rfl
      have q5 : wr.cell? ⟨gv, 5, none⟩ = some (.int .u32 (sf.toNat : Int)) := ho.cell 5 rfl
      have q6 : wr.cell? ⟨gv, 6, none⟩ = some (.int .u32 (sg.toNat : Int)) := ho.cell 6 rfl
      have q7 : wr.cell? ⟨gv, 7, none⟩ = some (.int .u32 (sh.toNat : Int)) := ho.cell 7 rfl
      clear ho hwk hkk how2 hok2 hov
      go_wp2_with fail
      go_quiet (fail)
      go_wp2_with fail
      go_quiet ((go_at_call 141; first | exact quiet_more (right_int _ _ _ (by decide) (by decide)) | exact Calls.quiet_of (right_int _ _ _ (by decide) (by decide))))
      go_wp2_with fail
      rw [Psha.bs1_walk, Psha.ch_walk, Psha.t1_walk ⟨sa, sb, sc, sd, se, sf, sg, sh⟩ xk xw]
      go_quiet ((go_at_call 141; first | exact quiet_more (right_int _ _ _ (by decide) (by decide)) | exact Calls.quiet_of (right_int _ _ _ (by decide) (by decide))))
      go_wp2_with fail
      rw [Psha.bs0_walk, Psha.maj_walk, Psha.t2_walk ⟨sa, sb, sc, sd, se, sf, sg, sh⟩]
      have n0 := World.new_ne wr _ q0
      have n1 := World.new_ne wr _ q1
      have n2 := World.new_ne wr _ q2
      have n3 := World.new_ne wr _ q3
      have n4 := World.new_ne wr _ q4
      have n5 := World.new_ne wr _ q5
      have n6 := World.new_ne wr _ q6
      go_region_held3 (fun w' => w'.cell? ⟨gv, 0, none⟩ = some (.int .u32 (sa.toNat : Int)) ∧ w'.cell? ⟨gv, 1, none⟩ = some (.int .u32 (sb.toNat : Int)) ∧ w'.cell? ⟨gv, 2, none⟩ = some (.int .u32 (sc.toNat : Int)) ∧ w'.cell? ⟨gv, 3, none⟩ = some (.int .u32 (sd.toNat : Int)) ∧ w'.cell? ⟨gv, 4, none⟩ = some (.int .u32 (se.toNat : Int)) ∧ w'.cell? ⟨gv, 5, none⟩ = some (.int .u32 (sf.toNat : Int)) ∧ w'.cell? ⟨gv, 6, none⟩ = some (.int .u32 (sg.toNat : Int))) (go_keep) (fail)
      go_wp2
      have hs2 : w2.heap.size ≤ wr.heap.size := hbr.size
      have hs1 : w.heap.size ≤ w2.heap.size := hb2w.size
      refine ⟨⟨k + 1, by omega, by go_num, ?_, (below_drewN hbr _).alloc hs2 _, fun g hg => ?_⟩, by simp [intOf]; omega⟩
      · rw [Psha.add_u32, Psha.add_u32, HS.out]
        exact own_words (wr.drewN _) (Psha.rnd ⟨sa, sb, sc, sd, se, sf, sg, sh⟩ xk xw).list (by simp [Psha.St.list, maxLen])
      · cases hg
        exact Nat.le_trans hs1 hs2
    · obtain rfl : k = 64 := by omega
      obtain ⟨gv, cv, rfl, _, _⟩ := ho.head (by omega)
      generalize hst : Psha.rounds s W 64 = st at ho
      have HST := Shut.mk hst
      clear hst
      have hbw : Below w.heap.size w wr := hb2w.trans (hbr.mono hb2w.size)
      have hgv : w.heap.size ≤ gv := hnw.out gv rfl
      clear hbr how2 hok2 hov hlt
      go_wp2_with fail
      go_loopw [122] (fun i wq => ∃ k : Nat, k ≤ 8 ∧ i = .int .i64 k ∧ Own wq 127 1 (.slice (some ⟨gv, 0, none⟩) 8 cv) 8 (wds (Psha.addTo st.list s.list k)) ∧ Below w.heap.size w wq) (fun i _ => 8 - (intOf i).toNat)
      case atStart => exact ⟨0, Nat.zero_le _, rfl, ho, hbw⟩
      case round =>
        clear ho hbw
        rename_i wq
        obtain ⟨k, hk, rfl, ho, hbw⟩ := hrel
        have hl1 := Psha.addTo_length st.list s.list k
        have hl2 : st.list.length = 8 := rfl
        have hl3 : s.list.length = 8 := rfl
        by_cases hlt : k < 8
        · have cv' := ho.cell k (wds_get (Psha.addTo st.list s.list k) k (by omega))
          have fv := ho.free k
          have hh3 := HH.out.keep hbw
          have ch' : wr.cell? (ah.add k) = some (.int .u32 ((s.list.getD k 0).toNat : Int)) := by
            obtain ⟨ad', e, hc⟩ := hh3 (by simp [wds, Psha.St.list])
            injection e with e
            subst e
            exact hc k _ (wds_get s.list k (by omega))
          have HS := Shut.mk (show Psha.addTo st.list s.list (k + 1) = (Psha.addTo st.list s.list k).set k ((Psha.addTo st.list s.list k).getD k 0 + s.list.getD k 0) from rfl)
          generalize (Psha.addTo st.list s.list k).getD k 0 = x at cv' HS
          generalize s.list.getD k 0 = y at ch' HS
          generalize Psha.addTo st.list s.list k = l at ho HS hl1
          clear hh3 hl1 hl2 hl3
          go_wp2_with fail
          go_region
          go_wp2
          refine ⟨⟨k + 1, by omega, by go_num, ?_, (hbw.setCell (p := ⟨gv, k, none⟩) hgv _).drew⟩, by simp [intOf]; omega⟩
          rw [Psha.add_u32, HS.out, wds_set]
          exact (ho.set k _).drew
        · obtain rfl : k = 8 := by omega
          go_wp2
          go_ret
          refine ⟨_, rfl, ho.cast rfl ?_, hbw, fun g hg => by cases hg; exact hgv⟩
          rw [Psha.addTo_plus, Psha.block, HW.out, HST.out]
end Go.Proofs.YtmlfeljhojmbbaaGreatDoor
