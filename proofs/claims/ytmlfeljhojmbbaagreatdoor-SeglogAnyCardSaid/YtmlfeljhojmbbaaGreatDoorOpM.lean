/- Walk: the log's scan, on any disk (printed by wip/genscan.py). What stands while Open goes on, on any disk; Open as a function, case by case. Walk: Open of any disk (printed by wip/genopa.py). -/
import Derived.Test.YtmlfeljhojmbbaaGreatDoorLgP
namespace Go.Proofs.YtmlfeljhojmbbaaGreatDoor
open Go.RowKit Go.Maps Go.Sort
set_option linter.unusedSimpArgs false
set_option linter.unusedVariables false
set_option maxRecDepth 100000

section
variable {w w' : World} {gl gd Z : Nat} {H : List Nat} {d : Ds} {l : List Nat} {dead : Bool}
set_option maxHeartbeats 8000000 in
theorem scan_any (h : LD w gl gd Z H d l dead) (hH : ∀ x ∈ H, x < w.heap.size) (ho : OkN d 2) (hl : l ≠ []) (h9 : ∀ n ∈ l, n ≤ 99999999) (hm : l.length ≤ 500) :
    Calls Tryz.prog 46 #[gp gl] w fun e w' => ScnTo w w' gl gd Z H (gScan d l) e := by
  obtain ⟨i0, hi, hz0, hz1, hz2⟩ := info_parts info_rows
  have hnil := fun (W : World) (g n c : Nat) => Lib.run_eql_slice_nil (P := Tryz.prog) W 27 5 (some ⟨g, 0, none⟩) n c 0 0 Tryz.underlying27
  have hnil2 := fun (W : World) => Lib.run_eql_slice_nil (P := Tryz.prog) W 27 5 none 0 0 0 0 Tryz.underlying27
  obtain ⟨A, c, q1, g2, hlc, hgl, g3⟩ := h.row
  obtain ⟨N, hN⟩ : ∃ N, N = l.length := ⟨_, rfl⟩
  rw [← hN] at q1 hm hlc
  have hrow := hlc
  have hlc := hlc.1
  have hpos : 0 < N := by rw [hN]; exact List.length_pos_iff.2 hl
  have hrecle : ∀ n, (rdL (cont d n)).length ≤ 30000 := fun n => by
    have h1 := rdL_many _ (cont d n) (Nat.le_refl _)
    have h2 := rdL_len (cont d n)
    have h3 := h.cont_le n
    omega
  have HR := Shut.mk g2
  have HL := Shut.mk h
  have HHL := Shut.mk hH
  have HO := Shut.mk ho
  have HROW := Shut.mk hrow
  have HZ := Shut.mk (And.intro h.z h.zs)
  have HLL := Shut.mk h9
  have HN := Shut.mk hN
  have HRC := Shut.mk hrecle
  have HQ1 := Shut.mk q1
  obtain ⟨cy, rfl⟩ : ∃ cy, c = N + cy := ⟨c - N, by omega⟩
  clear h g2 g3 hlc hrow hH ho h9 hN hrecle
  go_enter Tryz.func46, Tryz.ntmps46
  go_wp2_with fail
  go_loopw [4, 21] (fun u i wr => ∃ k : Nat, k ≤ N ∧ i = .int .i64 k ∧ Below w.heap.size w wr ∧ (∀ j, (hj : j < l.length) → j < k → whole d l[j]) ∧
    Shut (Recs wr w.heap.size (fun x => w.heap.size ≤ x) u (recsL d (l.take k))) ∧ (recsL d (l.take k)).length ≤ 30000 * k) (fun _ i _ => N - (intOf i).toNat)
  case atStart => exact ⟨0, Nat.zero_le _, rfl, Below.refl _ _, fun j _ h => by omega, ⟨Recs.nil _ _ _⟩, Nat.le_refl _⟩
  case round =>
    obtain ⟨k, hk, rfl, hbr, hwk, HREC, hcnt⟩ := hrel
    obtain ⟨Av, cv, rfl⟩ : ∃ Av cv, u4 = .slice Av (recsL d (l.take k)).length cv := by
      obtain ⟨vs, hov, _⟩ := HREC.out
      obtain ⟨Av, cv, h, _⟩ := hov.form
      exact ⟨Av, cv, h⟩
    have hsz := hbr.size
    have HLR := Shut.mk (HL.out.quiet hbr)
    by_cases hlt : k < N
    · have hkl : k < l.length := by rw [← HN.out]; exact hlt
      obtain ⟨a, hA, hcc⟩ := HR.out (its_ne (fun e => by rw [e] at hkl; simp at hkl))
      subst hA
      have c0 := hcc k _ (its_get hkl)
      have c2 := (hbr.cell (World.block_lt_of_cell? w _ c0)).trans c0
      obtain ⟨n, hn⟩ : ∃ n, n = l[k] := ⟨_, rfl⟩
      have hn9 : n ≤ 99999999 := by rw [hn]; exact HLL.out _ (List.getElem_mem _)
      rw [← hn] at c2
      have HTK : Shut (recsL d (l.take (k + 1)) = recsL d (l.take k) ++ rdL (cont d n)) := ⟨by
        rw [List.take_succ_eq_append_getElem hkl, recsL, List.flatMap_append, ← hn]
        simp [recsL]⟩
      have HNK := Shut.mk hn
      have HBR := Shut.mk hbr
      have HWK := Shut.mk hwk
      obtain ⟨b, hb⟩ : ∃ b, b = cont d n := ⟨_, rfl⟩
      have HBN := Shut.mk hb
      have hblen : b.length ≤ 1048576 := by rw [hb]; exact HL.out.cont_le n
      obtain ⟨NB, hNB⟩ : ∃ NB, NB = b.length := ⟨_, rfl⟩
      have HNB := Shut.mk hNB
      rw [← hNB] at hblen
      have hcn := HRC.out n
      rw [← hb] at HTK hcn
      have hkI : (k : Int) < (N : Int) := by omega
      have s0 := HLR.out.c0
      have HF := Shut.mk (file_calls n wr.drew hn9 (HLR.out.quiet (w' := wr.drew) ((Below.refl _ wr).drew)).tb.p)
      clear hcc c0 hn hbr hwk hb hNB
      go_wp2_with fail
      go_region_held3 (fun w' => w'.cell? ⟨gl, 0, none⟩ = some (gp gd)) (first | exact s0 | exact t0 | exact t1 | go_keep)
        (first
          | (go_at_call 49; refine HF.out.mono ?_; rintro e w4 ⟨rfl, hb4⟩; have HB4 := Shut.mk (HBR.out.trans ((below_drewR (w := wr) hb4).mono HBR.out.size)); have HB4R := Shut.mk (below_drewR (w := wr) hb4); have HL4 := Shut.mk (HL.out.quiet HB4.out); have t0 := HL4.out.c0)
          | (go_at_call 40; refine (seg_read HL4.out n hn9).mono ?_; rintro e w5 ⟨A5, c5, E5, rfl, _, ho5, hb5, hn5⟩; have HB5 := Shut.mk (HB4.out.trans (hb5.mono HB4.out.size)); have HB5R := Shut.mk (HB4R.out.trans (hb5.mono HB4R.out.size)); have HL5 := Shut.mk (HL.out.quiet HB5.out); have t1 := HL5.out.c0; have HO5 := Shut.mk ho5; have HN5 := Shut.mk (fun g hg => Nat.le_trans (below_drewR (w := wr) hb4).size (hn5 g hg)); clear hb5 hn5 ho5))
      rw [← HBN.out] at HO5 ⊢
      rw [← HNB.out] at HO5 ⊢
      have hac5 : NB ≤ c5 := by
        obtain ⟨A6, c6, e6, _, h6, _⟩ := HO5.out.form
        cases e6
        exact h6
      obtain ⟨cx, rfl⟩ : ∃ cx, c5 = NB + cx := ⟨c5 - NB, by omega⟩
      have HRB5 := Shut.mk (rdb_own _ HO5.out)
      have HFI := Shut.mk (first_calls A5 (NB + cx) NB b w5 HRB5.out HNB.out.symm hac5 hblen HL5.out.tb.k HL5.out.tb.b)
      clear s0 t0 t1
      go_wp2_with fail
      refine HFI.out.mono ?_
      rintro e w6 ⟨hb6, hor⟩
      have hr0 : ∃ r, e = .returned r ∧ ((fstL b = none ∧ r = .slice none 0 0) ∨ ∃ x g c', fstL b = some x ∧ r = .slice (some ⟨g, 0, none⟩) x.length c' ∧ Own w6 5 1 r x.length (bys x) ∧ w5.heap.size ≤ g) := by
        rcases hor with ⟨h1, h2⟩ | ⟨x, g, c', h1, h2, h3, h4⟩
        · exact ⟨_, h2, .inl ⟨h1, rfl⟩⟩
        · exact ⟨_, h2, .inr ⟨x, g, c', h1, rfl, h3, h4⟩⟩
      obtain ⟨r6, rfl, hor6⟩ := hr0
      have HB6 := Shut.mk (HB5.out.trans (hb6.mono HB5.out.size))
      have HB6R := Shut.mk (HB5R.out.trans (hb6.mono HB5R.out.size))
      have HOR6 := Shut.mk hor6
      have HRC6 := Shut.mk (HREC.out.quiet HB6R.out)
      have HA5 : Shut (∀ a, A5 = some a → wr.heap.size ≤ a.block) := ⟨fun a ha => by
        obtain ⟨A6, c6, e6, _, _, _, h6, _⟩ := HO5.out.form
        injection e6 with e6
        rw [← e6] at h6
        refine HN5.out a.block (Eq.trans ?_ (h6.trans (by rw [ha]; rfl)))
        cases A5 <;> rfl⟩
      have HAR : Shut (∀ g, (Value.slice Av (recsL d (l.take k)).length cv).ownBlock = some g → ∀ a, A5 = some a → a.block ≠ g) := ⟨fun g hg a ha e => by
        obtain ⟨vs, hov, _⟩ := HREC.out
        have h1 := hov.block_lt hg
        have h2 := HA5.out a ha
        omega⟩
      have HRB6 := Shut.mk (HRB5.out.keep hb6)
      have hs56 := HB5.out.size
      have hs66 := HB6.out.size
      clear hb6 hor hor6
      go_wp2_with fail
      go_loopw [4, 9, 10] (fun u at_ r wr2 => ∃ done : List (List UInt8), at_ = .int .i64 ((frs done).length : Int) ∧ Shut (rdL b = done ++ rdL (b.drop (frs done).length)) ∧ (frs done).length ≤ NB ∧ 41 * done.length ≤ (frs done).length ∧ Below w.heap.size w wr2 ∧ Shut (RdB wr2 A5 b) ∧
        Shut (Recs wr2 w.heap.size (fun x => w.heap.size ≤ x) u (recsL d (l.take k) ++ done)) ∧ Shut (∀ g, u.ownBlock = some g → ∀ a, A5 = some a → a.block ≠ g) ∧
        ((fstL (b.drop (frs done).length) = none ∧ r = .slice none 0 0) ∨ ∃ x g c', fstL (b.drop (frs done).length) = some x ∧ r = .slice (some ⟨g, 0, none⟩) x.length c' ∧ Own wr2 5 1 r x.length (bys x) ∧ w.heap.size ≤ g ∧ Shut (u.ownBlock ≠ some g))) (fun _ i _ _ => NB - (intOf i).toNat)
      case atStart =>
        refine ⟨[], rfl, ⟨rfl⟩, Nat.zero_le _, Nat.le_refl _, HB6.out, HRB6, by rw [List.append_nil]; exact HRC6, HAR, ?_⟩
        rcases HOR6.out with h | ⟨x, g, c', h1, h2, h3, h4⟩
        · exact .inl h
        · refine .inr ⟨x, g, c', h1, h2, h3, by omega, ⟨fun e => ?_⟩⟩
          obtain ⟨vs, hov, _⟩ := HREC.out
          have h5 := hov.block_lt e
          have h7 := HB5R.out.size
          omega
      case round =>
        obtain ⟨done, rfl, hrd, hdn, hdc, hb7, HRB7, HREC7, HAR7, hor7⟩ := hrel
        have hs77 := hb7.size
        rcases hor7 with ⟨hf7, rfl⟩ | ⟨x, g, c', hf7, rfl, hox, hgx, HGX⟩
        · -- the last of this segment
          have hdone : rdL b = done := by rw [hrd.out, rdL_none hf7, List.append_nil]
          have HDN := Shut.mk hdone
          have HB7 := Shut.mk hb7
          have HWL : Shut (wl d n = (frs done).length) := ⟨by rw [wl, ← HBN.out, hdone]⟩
          obtain ⟨AT, hAT⟩ : ∃ AT, AT = (frs done).length := ⟨_, rfl⟩
          have HATE := Shut.mk hAT
          rw [← hAT] at hdn hdc HWL ⊢
          have HEQ2 : Shut (recsL d (l.take k) ++ done = recsL d (l.take (k + 1))) := ⟨by rw [HTK.out, hdone]⟩
          have hcl : (recsL d (l.take (k + 1))).length ≤ 30000 * (k + 1) := by
            rw [HTK.out, List.length_append]
            omega
          clear hrd hf7 hb7 hdone hAT
          by_cases hwhole : AT = NB
          · subst hwhole
            have HWN : Shut (whole d n) := ⟨by unfold whole; rw [HWL.out, ← HBN.out, HNB.out]⟩
            go_wp2_with fail
            go_roundw
            case rel =>
              refine ⟨k + 1, by omega, by go_num, HB7.out, fun j hj hjk => ?_, ⟨by rw [← HEQ2.out]; exact HREC7.out⟩, hcl⟩
              by_cases hjk2 : j < k
              · exact HWK.out j hj hjk2
              · obtain rfl : j = k := by omega
                rw [← HNK.out]
                exact HWN.out
            case measure => first | (simp [intOf]; done) | (simp [intOf]; omega)
          · have HNW : Shut (¬ whole d n) := ⟨fun e => hwhole (by unfold whole at e; rw [HWL.out, ← HBN.out, ← HNB.out] at e; exact e)⟩
            -- what is behind the last whole record goes
            have hsc := sScn_at d l k hkl (fun j hj hjk => HWK.out j hj hjk) (by rw [← HNK.out]; exact HNW.out)
            rw [← HNK.out] at hsc
            have HQ7 := Shut.mk ((HB7.out.cell (p := ⟨gl, 1, none⟩) hgl).trans HQ1.out)
            have q7 := HQ7.out
            obtain ⟨d2, hd2⟩ : ∃ d2, d2 = (dCut d (seg n) (AT : Int)).2 := ⟨_, rfl⟩
            obtain ⟨E1, hE1⟩ : ∃ E1, E1 = (dCut d (seg n) (AT : Int)).1 := ⟨_, rfl⟩
            have HO2 : Shut (OkN d2 2) := ⟨by rw [hd2]; exact HO.out.cut (seg n) (AT : Int)⟩
            have HCUT : Shut (∀ w10, Below w.heap.size w w10 → Calls Tryz.prog 26 #[gp gd, .string (segS n), .int .i64 (AT : Int)] w10 fun e w' => e = .returned (.int .i64 E1) ∧ LStp w10 w' gl gd Z H d2 l dead) := ⟨fun w10 hb => by
              have := seg_cut (HL.out.quiet hb) HO.out.ok n hn9 (AT : Int)
              rw [← hE1, ← hd2] at this
              exact this⟩
            have HSQ : Shut (sCut d n (l.take (k + 1)) (l.drop (k + 1)) = if E1 = 0 then (if l.drop (k + 1) = [] then (0, d2) else if (dWr d2 (l.take (k + 1))).1 = 0 then lRem (dWr d2 (l.take (k + 1))).2 (l.drop (k + 1)) else dWr d2 (l.take (k + 1))) else (E1, d2)) := ⟨by
              unfold sCut
              rw [HWL.out, ← hE1, ← hd2]
              by_cases h : E1 = 0
              · rw [if_pos h, if_pos h]
              · rw [if_neg h, if_neg h, hE1, hd2]⟩
            have HSC := Shut.mk hsc
            have HUX := Shut.mk (HEQ2.out ▸ HREC7.out.bound : Recs wr w.heap.size (fun x => w.heap.size ≤ x ∧ x < wr.heap.size) u4 (recsL d (l.take (k + 1))))
            clear hsc hd2 hE1
            by_cases hE : E1 = 0
            · have HSQ0 := Shut.mk (HSQ.out.trans (if_pos hE))
              clear HSQ
              subst hE
              by_cases hk1 : k + 1 = N
              · skip
                subst hk1
                go_wp2_with fail
                all_goals refine (sh_CloneI0 _ _ _).mono ?_
                all_goals rintro e w9 ⟨v9, rfl, hro9, _, hb9⟩
                all_goals obtain ⟨A9, c9, rfl, _⟩ := (own_row hro9).1.form
                all_goals have HB9 := Shut.mk (HB7.out.trans (hb9.mono HB7.out.size))
                all_goals have HB9R := Shut.mk hb9
                all_goals have HL9 := Shut.mk (HL.out.quiet HB9.out)
                all_goals have s0 := HL9.out.c0
                all_goals have HF := Shut.mk (file_calls n w9.drew hn9 (HL9.out.quiet (w' := w9.drew) ((Below.refl _ w9).drew)).tb.p)
                all_goals clear hro9 hb9 q7
                all_goals go_wp2_with fail
                · go_region_held3 (fun w' => w'.cell? ⟨gl, 0, none⟩ = some (gp gd)) (first | exact s0 | exact t0 | exact t1 | go_keep)
                    (first
                      | (go_at_call 49; refine HF.out.mono ?_; rintro e w10 ⟨rfl, hb10⟩; have HB10 := Shut.mk (HB9.out.trans ((below_drewR (w := w9) hb10).mono HB9.out.size)); have HB10R := Shut.mk (HB9R.out.trans ((below_drewR (w := w9) hb10).mono HB9R.out.size)); have HB10S := Shut.mk (below_drewR (w := w9) hb10); have HL10 := Shut.mk (HL.out.quiet HB10.out); have t0 := HL10.out.c0; clear hb10)
                      | (go_at_call 26; refine (HCUT.out w10 HB10.out).mono ?_; rintro e w12 ⟨rfl, hst12⟩; obtain ⟨H12, hL12, hk12, hs12⟩ := hst12; have t1 := hL12.c0; have HST12 := Shut.mk (show LStp w10 w12 gl gd Z H d2 l dead from ⟨H12, hL12, hk12, hs12⟩); clear hL12 hk12 hs12))
                  clear s0 t0 t1
                  have hss10 : Sst w w10.heap.size w10 gl gd Z H H d l dead u4 (recsL d (l.take (k + 1))) := ⟨HL10.out, fun x hx => Nat.lt_of_lt_of_le (HHL.out x hx) HB10.out.size, Kb.of_below HB10.out H, fun x hx => .inl hx, HB10.out.size, Nat.le_refl _, HHL.out, (HUX.out.imp (Nat.le_refl _) (fun x hx => ⟨hx.1, Nat.lt_of_lt_of_le hx.2 HB10R.out.size⟩)).quiet HB10R.out, fun g hg => by
                    obtain ⟨vs, hov, _⟩ := HUX.out
                    exact Nat.lt_of_lt_of_le (hov.block_lt hg) HB10R.out.size⟩
                  obtain ⟨H13, hss12⟩ := hss10.step HST12.out
                  have HS12 := Shut.mk hss12
                  clear hss10 hss12

                  have HDE : Shut (l.drop (k + 1) = []) := ⟨List.drop_of_length_le (by rw [← HN.out]; exact Nat.le_refl _)⟩
                  have HTE : Shut (l.take (k + 1) = l) := ⟨List.take_of_length_le (by rw [← HN.out]; exact Nat.le_refl _)⟩
                  have HSC2 : Shut (sScn d [] l = (0, l, recsL d (l.take (k + 1)), d2)) := ⟨by rw [HSC.out, HSQ0.out, if_pos HDE.out, HTE.out]⟩
                  have HNE : Shut (l.length = k + 1) := ⟨HN.out.symm⟩
                  have HO20 : Shut (OkN d2 0) := ⟨HO2.out.mono (by omega)⟩
                  -- the syncs
                  have HSEG := Shut.mk (segments_calls HS12.out.ld HLL.out (by rw [HNE.out]; omega))
                  go_wp2_with fail
                  refine HSEG.out.mono ?_
                  rintro e w20 ⟨v20, rfl, ho20, hb20, hn20⟩
                  obtain ⟨A20, c20, rfl, hr20, _, _, hob20, _⟩ := ho20.form
                  have HA20 : Shut (∀ a, A20 = some a → a.block ∉ H13) := ⟨fun a ha hx => by
                    have h1 := hn20 a.block (hob20.trans (by rw [ha]; rfl))
                    have h2 := HS12.out.lt _ hx
                    omega⟩
                  have HR20 := Shut.mk hr20
                  have HS20 := Shut.mk (HS12.out.quiet hb20)
                  clear ho20 hb20 hn20 hr20 hob20
                  rw [HNE.out]
                  go_wp2_with fail
                  go_loopw [102] (fun i wr => ∃ q : Nat, q ≤ (k + 1) ∧ i = .int .i64 q ∧ Shut (∃ dk, LStp w20 wr gl gd Z H13 dk l dead ∧ sSyn d2 l = sSyn dk ((l).drop q) ∧ OkN dk 0)) (fun i _ => (k + 1) - (intOf i).toNat)
                  case atStart => exact ⟨0, Nat.zero_le _, rfl, ⟨d2, LStp.same HS20.out.ld, rfl, HO20.out⟩⟩
                  case round =>
                    obtain ⟨q, hk, rfl, HST⟩ := hrel
                    obtain ⟨dk, hst, hsy, hok⟩ := HST.out
                    have HSY := Shut.mk hsy
                    have HOK := Shut.mk hok
                    by_cases hlt : q < (k + 1)
                    · have hql : q < (l).length := by rw [HNE.out]; exact hlt
                      obtain ⟨H21, hL21, hk21, hs21⟩ := hst
                      obtain ⟨n', hn'⟩ : ∃ n', n' = (l)[q] := ⟨_, rfl⟩
                      have hn9' : n' ≤ 99999999 := by rw [hn']; exact HLL.out _ (List.getElem_mem _)
                      have hv : (((l).map seg).map Proofs.encStr)[q]? = some (.string (segS n')) := by
                        rw [List.getElem?_map, List.getElem?_map, List.getElem?_eq_getElem hql, hn']
                        rfl
                      obtain ⟨a20, hA20, hc20⟩ := HR20.out (fun e => by rw [e] at hv; cases hv)
                      subst hA20
                      have c0 := hc20 q _ hv
                      have c2 : wr.cell? (a20.add q) = some (.string (segS n')) := (World.cell?_of_block (w := w20) (hk21.block _ (World.block_lt_of_cell? w20 _ c0) (fun hx => by
                        rw [block_of_add] at hx
                        exact HA20.out a20 rfl hx))).trans c0
                      have HDR : Shut ((l).drop q = n' :: (l).drop (q + 1)) := ⟨by rw [List.drop_eq_getElem_cons hql, hn']⟩
                      have HL21 := Shut.mk hL21
                      have HKS21 := Shut.mk (And.intro hk21 hs21)
                      have hkI : (q : Int) < ((k + 1) : Int) := by omega
                      clear hc20 c0 hv hn' hL21 hk21 hs21 hsy hok hql
                      go_wp2_with fail
                      refine (seg_has HL21.out (by have := HOK.out.n; omega) n').mono ?_
                      rintro e w22 ⟨rfl, hb22⟩
                      have HL22 := Shut.mk (HL21.out.quiet hb22)
                      have HB22 := Shut.mk hb22
                      clear hb22
                      by_cases hlk : (look dk.S (seg n')).isSome = true
                      · rw [hlk]
                        have s0 := HL22.out.c0
                        obtain ⟨E3, hE3⟩ : ∃ E3, E3 = (dSync dk (seg n')).1 := ⟨_, rfl⟩
                        obtain ⟨d3, hd3⟩ : ∃ d3, d3 = (dSync dk (seg n')).2 := ⟨_, rfl⟩
                        have hsy3 := seg_sync HL22.out HOK.out.ok n' hn9'
                        rw [← hE3, ← hd3] at hsy3
                        have HSY3 := Shut.mk hsy3
                        have HO3 : Shut (OkN d3 0) := ⟨by rw [hd3]; exact HOK.out.sync _⟩
                        have HSS : Shut (sSyn d2 l = if E3 = 0 then sSyn d3 ((l).drop (q + 1)) else (E3, d3)) := ⟨by
                          rw [HSY.out, HDR.out, hE3, hd3]
                          exact if_pos hlk⟩
                        clear hsy3 hE3 hd3
                        by_cases hE : E3 = 0
                        · have HSS0 := Shut.mk (HSS.out.trans (if_pos hE))
                          clear HSS
                          subst hE
                          go_wp2_with fail
                          refine HSY3.out.mono ?_
                          rintro e w23 ⟨rfl, H23, hL23, hk23, hs23⟩
                          have HS23 : Shut (∃ dk, LStp w20 w23 gl gd Z H13 dk l dead ∧ sSyn d2 l = sSyn dk ((l).drop (q + 1)) ∧ OkN dk 0) := ⟨d3, LStp.trans (HKS21.out.1.below_ HB22.out) HKS21.out.2 (⟨H23, hL23, hk23, fun x hx => hs23 x hx⟩ : LStp w22 w23 gl gd Z H21 d3 l dead), HSS0.out, HO3.out⟩
                          clear hL23 hk23 hs23 s0
                          go_wp2_with fail
                          go_roundw
                          case rel => exact ⟨q + 1, by omega, by go_num, HS23⟩
                          case measure => first | (simp [intOf]; done) | (simp [intOf]; omega)
                        · have HSS0 := Shut.mk (HSS.out.trans (if_neg hE))
                          clear HSS
                          go_wp2_with fail
                          refine HSY3.out.mono ?_
                          rintro e w23 ⟨rfl, H23, hL23, hk23, hs23⟩
                          obtain ⟨H24, hS24⟩ := HS20.out.step (LStp.trans (HKS21.out.1.below_ HB22.out) HKS21.out.2 (⟨H23, hL23, hk23, fun x hx => hs23 x hx⟩ : LStp w22 w23 gl gd Z H21 d3 l dead))
                          have HS24 := Shut.mk hS24
                          clear hL23 hk23 hs23 s0 hS24
                          go_wp2_with fail
                          go_ret2
                          rw [gScan_bad2 HSC2.out (by rw [HSS0.out]; exact hE), HSS0.out]
                          exact HS24.out.bad E3
                      · rw [Bool.not_eq_true] at hlk
                        rw [hlk]
                        have HS23 : Shut (∃ dk, LStp w20 w22 gl gd Z H13 dk l dead ∧ sSyn d2 l = sSyn dk ((l).drop (q + 1)) ∧ OkN dk 0) := ⟨dk, LStp.trans (HKS21.out.1.below_ HB22.out) HKS21.out.2 (LStp.same HL22.out), by
                          rw [HSY.out, HDR.out]
                          exact if_neg (by rw [hlk]; simp), HOK.out⟩
                        go_wp2_with fail
                        go_roundw
                        case rel => exact ⟨q + 1, by omega, by go_num, HS23⟩
                        case measure => first | (simp [intOf]; done) | (simp [intOf]; omega)
                    · obtain rfl : q = (k + 1) := by omega
                      have HEND : Shut (sSyn d2 l = (0, dk)) := ⟨by rw [HSY.out, List.drop_of_length_le (by rw [HNE.out]; exact Nat.le_refl _)]; rfl⟩
                      obtain ⟨H24, hS24⟩ := HS20.out.step hst
                      have HS24 := Shut.mk hS24
                      clear hst hsy hok hS24
                      go_wp2_with fail
                      go_ret2
                      rw [gScan_ok HSC2.out (by rw [HEND.out]), HEND.out]
                      exact HS24.out.fin
                · go_region_held3 (fun w' => w'.cell? ⟨gl, 0, none⟩ = some (gp gd)) (first | exact s0 | exact t0 | exact t1 | go_keep)
                    (first
                      | (go_at_call 49; refine HF.out.mono ?_; rintro e w10 ⟨rfl, hb10⟩; have HB10 := Shut.mk (HB9.out.trans ((below_drewR (w := w9) hb10).mono HB9.out.size)); have HB10R := Shut.mk (HB9R.out.trans ((below_drewR (w := w9) hb10).mono HB9R.out.size)); have HB10S := Shut.mk (below_drewR (w := w9) hb10); have HL10 := Shut.mk (HL.out.quiet HB10.out); have t0 := HL10.out.c0; clear hb10)
                      | (go_at_call 26; refine (HCUT.out w10 HB10.out).mono ?_; rintro e w12 ⟨rfl, hst12⟩; obtain ⟨H12, hL12, hk12, hs12⟩ := hst12; have t1 := hL12.c0; have HST12 := Shut.mk (show LStp w10 w12 gl gd Z H d2 l dead from ⟨H12, hL12, hk12, hs12⟩); clear hL12 hk12 hs12))
                  clear s0 t0 t1
                  have hss10 : Sst w w10.heap.size w10 gl gd Z H H d l dead u4 (recsL d (l.take (k + 1))) := ⟨HL10.out, fun x hx => Nat.lt_of_lt_of_le (HHL.out x hx) HB10.out.size, Kb.of_below HB10.out H, fun x hx => .inl hx, HB10.out.size, Nat.le_refl _, HHL.out, (HUX.out.imp (Nat.le_refl _) (fun x hx => ⟨hx.1, Nat.lt_of_lt_of_le hx.2 HB10R.out.size⟩)).quiet HB10R.out, fun g hg => by
                    obtain ⟨vs, hov, _⟩ := HUX.out
                    exact Nat.lt_of_lt_of_le (hov.block_lt hg) HB10R.out.size⟩
                  obtain ⟨H13, hss12⟩ := hss10.step HST12.out
                  have HS12 := Shut.mk hss12
                  clear hss10 hss12

                  have HDE : Shut (l.drop (k + 1) = []) := ⟨List.drop_of_length_le (by rw [← HN.out]; exact Nat.le_refl _)⟩
                  have HTE : Shut (l.take (k + 1) = l) := ⟨List.take_of_length_le (by rw [← HN.out]; exact Nat.le_refl _)⟩
                  have HSC2 : Shut (sScn d [] l = (0, l, recsL d (l.take (k + 1)), d2)) := ⟨by rw [HSC.out, HSQ0.out, if_pos HDE.out, HTE.out]⟩
                  have HNE : Shut (l.length = k + 1) := ⟨HN.out.symm⟩
                  have HO20 : Shut (OkN d2 0) := ⟨HO2.out.mono (by omega)⟩
                  -- the syncs
                  have HSEG := Shut.mk (segments_calls HS12.out.ld HLL.out (by rw [HNE.out]; omega))
                  go_wp2_with fail
                  refine HSEG.out.mono ?_
                  rintro e w20 ⟨v20, rfl, ho20, hb20, hn20⟩
                  obtain ⟨A20, c20, rfl, hr20, _, _, hob20, _⟩ := ho20.form
                  have HA20 : Shut (∀ a, A20 = some a → a.block ∉ H13) := ⟨fun a ha hx => by
                    have h1 := hn20 a.block (hob20.trans (by rw [ha]; rfl))
                    have h2 := HS12.out.lt _ hx
                    omega⟩
                  have HR20 := Shut.mk hr20
                  have HS20 := Shut.mk (HS12.out.quiet hb20)
                  clear ho20 hb20 hn20 hr20 hob20
                  rw [HNE.out]
                  go_wp2_with fail
                  go_loopw [102] (fun i wr => ∃ q : Nat, q ≤ (k + 1) ∧ i = .int .i64 q ∧ Shut (∃ dk, LStp w20 wr gl gd Z H13 dk l dead ∧ sSyn d2 l = sSyn dk ((l).drop q) ∧ OkN dk 0)) (fun i _ => (k + 1) - (intOf i).toNat)
                  case atStart => exact ⟨0, Nat.zero_le _, rfl, ⟨d2, LStp.same HS20.out.ld, rfl, HO20.out⟩⟩
                  case round =>
                    obtain ⟨q, hk, rfl, HST⟩ := hrel
                    obtain ⟨dk, hst, hsy, hok⟩ := HST.out
                    have HSY := Shut.mk hsy
                    have HOK := Shut.mk hok
                    by_cases hlt : q < (k + 1)
                    · have hql : q < (l).length := by rw [HNE.out]; exact hlt
                      obtain ⟨H21, hL21, hk21, hs21⟩ := hst
                      obtain ⟨n', hn'⟩ : ∃ n', n' = (l)[q] := ⟨_, rfl⟩
                      have hn9' : n' ≤ 99999999 := by rw [hn']; exact HLL.out _ (List.getElem_mem _)
                      have hv : (((l).map seg).map Proofs.encStr)[q]? = some (.string (segS n')) := by
                        rw [List.getElem?_map, List.getElem?_map, List.getElem?_eq_getElem hql, hn']
                        rfl
                      obtain ⟨a20, hA20, hc20⟩ := HR20.out (fun e => by rw [e] at hv; cases hv)
                      subst hA20
                      have c0 := hc20 q _ hv
                      have c2 : wr.cell? (a20.add q) = some (.string (segS n')) := (World.cell?_of_block (w := w20) (hk21.block _ (World.block_lt_of_cell? w20 _ c0) (fun hx => by
                        rw [block_of_add] at hx
                        exact HA20.out a20 rfl hx))).trans c0
                      have HDR : Shut ((l).drop q = n' :: (l).drop (q + 1)) := ⟨by rw [List.drop_eq_getElem_cons hql, hn']⟩
                      have HL21 := Shut.mk hL21
                      have HKS21 := Shut.mk (And.intro hk21 hs21)
                      have hkI : (q : Int) < ((k + 1) : Int) := by omega
                      clear hc20 c0 hv hn' hL21 hk21 hs21 hsy hok hql
                      go_wp2_with fail
                      refine (seg_has HL21.out (by have := HOK.out.n; omega) n').mono ?_
                      rintro e w22 ⟨rfl, hb22⟩
                      have HL22 := Shut.mk (HL21.out.quiet hb22)
                      have HB22 := Shut.mk hb22
                      clear hb22
                      by_cases hlk : (look dk.S (seg n')).isSome = true
                      · rw [hlk]
                        have s0 := HL22.out.c0
                        obtain ⟨E3, hE3⟩ : ∃ E3, E3 = (dSync dk (seg n')).1 := ⟨_, rfl⟩
                        obtain ⟨d3, hd3⟩ : ∃ d3, d3 = (dSync dk (seg n')).2 := ⟨_, rfl⟩
                        have hsy3 := seg_sync HL22.out HOK.out.ok n' hn9'
                        rw [← hE3, ← hd3] at hsy3
                        have HSY3 := Shut.mk hsy3
                        have HO3 : Shut (OkN d3 0) := ⟨by rw [hd3]; exact HOK.out.sync _⟩
                        have HSS : Shut (sSyn d2 l = if E3 = 0 then sSyn d3 ((l).drop (q + 1)) else (E3, d3)) := ⟨by
                          rw [HSY.out, HDR.out, hE3, hd3]
                          exact if_pos hlk⟩
                        clear hsy3 hE3 hd3
                        by_cases hE : E3 = 0
                        · have HSS0 := Shut.mk (HSS.out.trans (if_pos hE))
                          clear HSS
                          subst hE
                          go_wp2_with fail
                          refine HSY3.out.mono ?_
                          rintro e w23 ⟨rfl, H23, hL23, hk23, hs23⟩
                          have HS23 : Shut (∃ dk, LStp w20 w23 gl gd Z H13 dk l dead ∧ sSyn d2 l = sSyn dk ((l).drop (q + 1)) ∧ OkN dk 0) := ⟨d3, LStp.trans (HKS21.out.1.below_ HB22.out) HKS21.out.2 (⟨H23, hL23, hk23, fun x hx => hs23 x hx⟩ : LStp w22 w23 gl gd Z H21 d3 l dead), HSS0.out, HO3.out⟩
                          clear hL23 hk23 hs23 s0
                          go_wp2_with fail
                          go_roundw
                          case rel => exact ⟨q + 1, by omega, by go_num, HS23⟩
                          case measure => first | (simp [intOf]; done) | (simp [intOf]; omega)
                        · have HSS0 := Shut.mk (HSS.out.trans (if_neg hE))
                          clear HSS
                          go_wp2_with fail
                          refine HSY3.out.mono ?_
                          rintro e w23 ⟨rfl, H23, hL23, hk23, hs23⟩
                          obtain ⟨H24, hS24⟩ := HS20.out.step (LStp.trans (HKS21.out.1.below_ HB22.out) HKS21.out.2 (⟨H23, hL23, hk23, fun x hx => hs23 x hx⟩ : LStp w22 w23 gl gd Z H21 d3 l dead))
                          have HS24 := Shut.mk hS24
                          clear hL23 hk23 hs23 s0 hS24
                          go_wp2_with fail
                          go_ret2
                          rw [gScan_bad2 HSC2.out (by rw [HSS0.out]; exact hE), HSS0.out]
                          exact HS24.out.bad E3
                      · rw [Bool.not_eq_true] at hlk
                        rw [hlk]
                        have HS23 : Shut (∃ dk, LStp w20 w22 gl gd Z H13 dk l dead ∧ sSyn d2 l = sSyn dk ((l).drop (q + 1)) ∧ OkN dk 0) := ⟨dk, LStp.trans (HKS21.out.1.below_ HB22.out) HKS21.out.2 (LStp.same HL22.out), by
                          rw [HSY.out, HDR.out]
                          exact if_neg (by rw [hlk]; simp), HOK.out⟩
                        go_wp2_with fail
                        go_roundw
                        case rel => exact ⟨q + 1, by omega, by go_num, HS23⟩
                        case measure => first | (simp [intOf]; done) | (simp [intOf]; omega)
                    · obtain rfl : q = (k + 1) := by omega
                      have HEND : Shut (sSyn d2 l = (0, dk)) := ⟨by rw [HSY.out, List.drop_of_length_le (by rw [HNE.out]; exact Nat.le_refl _)]; rfl⟩
                      obtain ⟨H24, hS24⟩ := HS20.out.step hst
                      have HS24 := Shut.mk hS24
                      clear hst hsy hok hS24
                      go_wp2_with fail
                      go_ret2
                      rw [gScan_ok HSC2.out (by rw [HEND.out]), HEND.out]
                      exact HS24.out.fin
              · skip
                have hkN : k + 1 < N := by omega
                have HRW := HROW.out.2 a rfl
                obtain ⟨ab, ha⟩ : ∃ ab, a = ⟨ab, 0, none⟩ := ⟨a.block, HRW⟩
                subst ha
                have hcapne : ¬ (N + cy = k + 1) := by omega
                have hlenI : (0 : Int) < ((N - (k + 1) : Nat) : Int) := by omega
                have hbe : Rd wr (some ((⟨ab, 0, none⟩ : Addr).add (k + 1))) (its (l.drop (k + 1))) := by
                  have h1 := rd_drop7 (HR.out.keep HB7.out) (k + 1)
                  rw [its, ← List.map_drop] at h1
                  exact h1
                rw [add_head] at hbe
                have HCL := Shut.mk (clone_ints ab (k + 1) (N - (k + 1)) (N + cy - (k + 1)) (l.drop (k + 1)) wr (by rw [List.length_drop, ← HN.out]) (by omega) hbe)
                clear hbe HRW
                go_wp2_with fail
                refine HCL.out.mono ?_
                rintro e w9 ⟨A9, c9, rfl, hr9, _, hb9, hlo9⟩
                have HR9 := Shut.mk (And.intro hr9 hlo9)
                have HB9 := Shut.mk (HB7.out.trans (hb9.mono HB7.out.size))
                have HB9R := Shut.mk hb9
                have HL9 := Shut.mk (HL.out.quiet HB9.out)
                have s0 := HL9.out.c0
                have HF := Shut.mk (file_calls n w9.drew hn9 (HL9.out.quiet (w' := w9.drew) ((Below.refl _ w9).drew)).tb.p)
                clear hr9 hb9 hlo9 q7
                go_wp2_with fail

                go_region_held3 (fun w' => w'.cell? ⟨gl, 0, none⟩ = some (gp gd)) (first | exact s0 | exact t0 | exact t1 | go_keep)
                  (first
                    | (go_at_call 49; refine HF.out.mono ?_; rintro e w10 ⟨rfl, hb10⟩; have HB10 := Shut.mk (HB9.out.trans ((below_drewR (w := w9) hb10).mono HB9.out.size)); have HB10R := Shut.mk (HB9R.out.trans ((below_drewR (w := w9) hb10).mono HB9R.out.size)); have HB10S := Shut.mk (below_drewR (w := w9) hb10); have HL10 := Shut.mk (HL.out.quiet HB10.out); have t0 := HL10.out.c0; clear hb10)
                    | (go_at_call 26; refine (HCUT.out w10 HB10.out).mono ?_; rintro e w12 ⟨rfl, hst12⟩; obtain ⟨H12, hL12, hk12, hs12⟩ := hst12; have t1 := hL12.c0; have HST12 := Shut.mk (show LStp w10 w12 gl gd Z H d2 l dead from ⟨H12, hL12, hk12, hs12⟩); clear hL12 hk12 hs12))
                clear s0 t0 t1
                have hss10 : Sst w w10.heap.size w10 gl gd Z H H d l dead u4 (recsL d (l.take (k + 1))) := ⟨HL10.out, fun x hx => Nat.lt_of_lt_of_le (HHL.out x hx) HB10.out.size, Kb.of_below HB10.out H, fun x hx => .inl hx, HB10.out.size, Nat.le_refl _, HHL.out, (HUX.out.imp (Nat.le_refl _) (fun x hx => ⟨hx.1, Nat.lt_of_lt_of_le hx.2 HB10R.out.size⟩)).quiet HB10R.out, fun g hg => by
                  obtain ⟨vs, hov, _⟩ := HUX.out
                  exact Nat.lt_of_lt_of_le (hov.block_lt hg) HB10R.out.size⟩
                obtain ⟨H13, hss12⟩ := hss10.step HST12.out
                have HS12 := Shut.mk hss12
                clear hss10 hss12

                have hdne : l.drop (k + 1) ≠ [] := fun e => by
                  have h1 := congrArg List.length e
                  rw [List.length_drop, ← HN.out] at h1
                  simp at h1
                  omega
                have hpl : (l.take (k + 1)).length = k + 1 := by rw [List.length_take, ← HN.out]; omega
                have HPL := Shut.mk hpl
                have HSQ1 := Shut.mk (HSQ0.out.trans (if_neg hdne))
                have HA9 : Shut (∀ a, A9 = some a → w.heap.size ≤ a.block ∧ a.block < w10.heap.size) := ⟨fun a ha => ⟨Nat.le_trans HB7.out.size (HR9.out.2 a ha).1, Nat.lt_of_lt_of_le ((HR9.out.2 a ha).2 hdne) HB10S.out.size⟩⟩
                have HR12 : Shut (Rd w12 A9 (its (l.drop (k + 1)))) := ⟨by
                  obtain ⟨H12, _, hk12, _⟩ := HST12.out
                  exact rd_kept (HR9.out.1.keep HB10S.out) hk12 (fun a ha _ hx => by
                    have h1 := HHL.out _ hx
                    have h2 := (HA9.out a ha).1
                    omega)⟩
                obtain ⟨A12, c12, q12, hr12, hrow12, hgl12, _⟩ := HS12.out.ld.row
                rw [← HN.out] at q12 hrow12
                obtain ⟨a12, rfl, _⟩ := hr12 (its_ne hl)
                obtain ⟨b12, ha12⟩ : ∃ b12, a12 = ⟨b12, 0, none⟩ := ⟨a12.block, hrow12.2 a12 rfl⟩
                subst ha12
                have hc12 := hrow12.1
                have HCL2 := Shut.mk (clone_ints b12 0 (k + 1) c12 (l.take (k + 1)) w12 hpl (by omega) (by
                  have h1 := rd_take7 hr12 (k + 1)
                  rw [its, ← List.map_take] at h1
                  exact h1))
                have hc12a : k + 1 ≤ c12 := by omega
                have hc12b : ((k : Int) + 1) ≤ (c12 : Int) := by omega
                clear hr12 hrow12 hgl12 hdne hpl
                go_wp2_with fail
                refine HCL2.out.mono ?_
                rintro e w13 ⟨A13, c13, rfl, hr13, hrow13, hb13, hlo13⟩
                have HS13 := Shut.mk (HS12.out.quiet hb13)
                have HR13 := Shut.mk (HR12.out.keep hb13)
                have hZs := HZ.out.2
                have hs12w := HS12.out.kb.size
                have hs10w := HB10.out.size
                have hi12 := HS12.out.hi
                have hman := man_calls HS13.out.ld HO2.out A13 c13 (l.take (k + 1)) hr13 (by rw [HPL.out]; exact hrow13) (fun a ha => by
                    obtain ⟨h1, h2⟩ := hlo13 a ha
                    refine ⟨fun hx => ?_, by omega, h2 (fun e => by have := HPL.out; rw [e] at this; simp at this)⟩
                    have := HS12.out.lt _ hx
                    omega) (by rw [HPL.out]; omega) (by rw [HPL.out]; omega) (fun x hx => HLL.out x (List.mem_of_mem_take hx))
                rw [lWrite_e, lWrite_d, HPL.out] at hman
                obtain ⟨E2, hE2⟩ : ∃ E2, E2 = (dWr d2 (l.take (k + 1))).1 := ⟨_, rfl⟩
                obtain ⟨d3, hd3⟩ : ∃ d3, d3 = (dWr d2 (l.take (k + 1))).2 := ⟨_, rfl⟩
                obtain ⟨l3, hl3⟩ : ∃ l3, l3 = (lWrite d2 l dead (l.take (k + 1))).2.2.1 := ⟨_, rfl⟩
                obtain ⟨dead3, hdd3⟩ : ∃ dead3, dead3 = (lWrite d2 l dead (l.take (k + 1))).2.2.2 := ⟨_, rfl⟩
                rw [← hE2, ← hd3, ← hl3, ← hdd3] at hman
                have HMAN := Shut.mk hman
                have HLO13 := Shut.mk hlo13
                have HO3 : Shut (OkN d3 0) := ⟨by rw [hd3]; exact HO2.out.wr _⟩
                have HSTW : Shut (∀ w14, LStp w13 w14 gl gd Z (blkOf A13 ++ H13) d3 l3 dead3 → (∃ H14, Sst w w10.heap.size w14 gl gd Z H H14 d3 l3 dead3 u4 (recsL d (l.take (k + 1)))) ∧ Rd w14 A9 (its (l.drop (k + 1))) ∧ w10.heap.size ≤ w14.heap.size) := ⟨fun w14 hst => by
                  have hbx : ∀ x ∈ blkOf A13, w12.heap.size ≤ x := fun x hx => by
                    cases A13 with
                    | none => cases hx
                    | some a =>
                      obtain rfl : x = a.block := by simpa [blkOf] using hx
                      exact (HLO13.out a rfl).1
                  refine ⟨HS13.out.stepW (fun x hx => ?_) hst, ?_, ?_⟩
                  · rcases List.mem_append.1 hx with h | h
                    · exact .inr (Nat.le_trans hi12 (hbx x h))
                    · exact .inl h
                  · obtain ⟨H', _, hk14, _⟩ := hst
                    refine rd_kept HR13.out hk14 (fun a ha _ hx => ?_)
                    obtain ⟨h1, h2⟩ := HA9.out a ha
                    rcases List.mem_append.1 hx with h | h
                    · have := hbx _ h
                      omega
                    · exact HS13.out.free h1 h2 h
                  · obtain ⟨H', _, hk14, _⟩ := hst
                    exact Nat.le_trans HS13.out.hi hk14.size⟩
                clear hman hlo13 hr13 hrow13 hb13
                by_cases hW : E2 = 0
                · have HSQ2 : Shut (sCut d n (l.take (k + 1)) (l.drop (k + 1)) = lRem d3 (l.drop (k + 1))) := ⟨HSQ1.out.trans (by rw [hd3]; exact if_pos (hE2 ▸ hW))⟩
                  obtain rfl : l3 = l.take (k + 1) := hl3.trans (lWrite_l d2 l dead _ (hE2 ▸ hW))
                  subst hW
                  clear hE2 hd3 hl3 hdd3
                  go_wp2_with fail
                  refine HMAN.out.mono ?_
                  rintro e w14 ⟨rfl, hst14⟩
                  obtain ⟨⟨H14, hss14⟩, hr14, hs14⟩ := HSTW.out w14 hst14
                  have hrem := remove_calls hss14.ld HO3.out A9 c9 (l.drop (k + 1)) hr14 (fun a ha => by
                    obtain ⟨h1, h2⟩ := HA9.out a ha
                    exact ⟨hss14.free h1 h2, by omega⟩) (fun x hx => HLL.out x (List.mem_of_mem_drop hx)) (by rw [List.length_drop, ← HN.out]; omega)
                  rw [List.length_drop, ← HN.out] at hrem
                  obtain ⟨E4, hE4⟩ : ∃ E4, E4 = (lRem d3 (l.drop (k + 1))).1 := ⟨_, rfl⟩
                  obtain ⟨d4, hd4⟩ : ∃ d4, d4 = (lRem d3 (l.drop (k + 1))).2 := ⟨_, rfl⟩
                  rw [← hE4, ← hd4] at hrem
                  obtain ⟨dead4, hdd4⟩ : ∃ dead4, dead4 = (dead3 || decide (E4 = 62)) := ⟨_, rfl⟩
                  rw [← hdd4] at hrem
                  have HREM := Shut.mk hrem
                  have HS14 := Shut.mk hss14
                  have HO4 : Shut (OkN d4 0) := ⟨by rw [hd4]; exact OkN.rem _ HO3.out⟩
                  have HSC4 : Shut (sScn d [] l = (E4, l.take (k + 1), recsL d (l.take (k + 1)), d4)) := ⟨by rw [HSC.out, HSQ2.out, ← hE4, ← hd4]⟩
                  clear hrem hss14 hr14 hst14 hE4 hd4 hdd4
                  by_cases hR : E4 = 0
                  · subst hR
                    go_wp2_with fail
                    refine HREM.out.mono ?_
                    rintro e w15 ⟨rfl, hst15⟩
                    obtain ⟨H15, hss15⟩ := HS14.out.step hst15
                    have HS15 := Shut.mk hss15
                    have HLE4 : Shut (∀ x ∈ l.take (k + 1), x ≤ 99999999) := ⟨fun x hx => HLL.out x (List.mem_of_mem_take hx)⟩
                    clear hst15 hss15
                    -- the syncs
                    have HSEG := Shut.mk (segments_calls HS15.out.ld HLE4.out (by rw [HPL.out]; omega))
                    go_wp2_with fail
                    refine HSEG.out.mono ?_
                    rintro e w20 ⟨v20, rfl, ho20, hb20, hn20⟩
                    obtain ⟨A20, c20, rfl, hr20, _, _, hob20, _⟩ := ho20.form
                    have HA20 : Shut (∀ a, A20 = some a → a.block ∉ H15) := ⟨fun a ha hx => by
                      have h1 := hn20 a.block (hob20.trans (by rw [ha]; rfl))
                      have h2 := HS15.out.lt _ hx
                      omega⟩
                    have HR20 := Shut.mk hr20
                    have HS20 := Shut.mk (HS15.out.quiet hb20)
                    clear ho20 hb20 hn20 hr20 hob20
                    rw [HPL.out]
                    go_wp2_with fail
                    go_loopw [102] (fun i wr => ∃ q : Nat, q ≤ (k + 1) ∧ i = .int .i64 q ∧ Shut (∃ dk, LStp w20 wr gl gd Z H15 dk (l.take (k + 1)) dead4 ∧ sSyn d4 (l.take (k + 1)) = sSyn dk (((l.take (k + 1))).drop q) ∧ OkN dk 0)) (fun i _ => (k + 1) - (intOf i).toNat)
                    case atStart => exact ⟨0, Nat.zero_le _, rfl, ⟨d4, LStp.same HS20.out.ld, rfl, HO4.out⟩⟩
                    case round =>
                      obtain ⟨q, hk, rfl, HST⟩ := hrel
                      obtain ⟨dk, hst, hsy, hok⟩ := HST.out
                      have HSY := Shut.mk hsy
                      have HOK := Shut.mk hok
                      by_cases hlt : q < (k + 1)
                      · have hql : q < ((l.take (k + 1))).length := by rw [HPL.out]; exact hlt
                        obtain ⟨H21, hL21, hk21, hs21⟩ := hst
                        obtain ⟨n', hn'⟩ : ∃ n', n' = ((l.take (k + 1)))[q] := ⟨_, rfl⟩
                        have hn9' : n' ≤ 99999999 := by rw [hn']; exact HLE4.out _ (List.getElem_mem _)
                        have hv : ((((l.take (k + 1))).map seg).map Proofs.encStr)[q]? = some (.string (segS n')) := by
                          rw [List.getElem?_map, List.getElem?_map, List.getElem?_eq_getElem hql, hn']
                          rfl
                        obtain ⟨a20, hA20, hc20⟩ := HR20.out (fun e => by rw [e] at hv; cases hv)
                        subst hA20
                        have c0 := hc20 q _ hv
                        have c2 : wr.cell? (a20.add q) = some (.string (segS n')) := (World.cell?_of_block (w := w20) (hk21.block _ (World.block_lt_of_cell? w20 _ c0) (fun hx => by
                          rw [block_of_add] at hx
                          exact HA20.out a20 rfl hx))).trans c0
                        have HDR : Shut (((l.take (k + 1))).drop q = n' :: ((l.take (k + 1))).drop (q + 1)) := ⟨by rw [List.drop_eq_getElem_cons hql, hn']⟩
                        have HL21 := Shut.mk hL21
                        have HKS21 := Shut.mk (And.intro hk21 hs21)
                        have hkI : (q : Int) < ((k + 1) : Int) := by omega
                        clear hc20 c0 hv hn' hL21 hk21 hs21 hsy hok hql
                        go_wp2_with fail
                        refine (seg_has HL21.out (by have := HOK.out.n; omega) n').mono ?_
                        rintro e w22 ⟨rfl, hb22⟩
                        have HL22 := Shut.mk (HL21.out.quiet hb22)
                        have HB22 := Shut.mk hb22
                        clear hb22
                        by_cases hlk : (look dk.S (seg n')).isSome = true
                        · rw [hlk]
                          have s0 := HL22.out.c0
                          obtain ⟨E3, hE3⟩ : ∃ E3, E3 = (dSync dk (seg n')).1 := ⟨_, rfl⟩
                          obtain ⟨d3, hd3⟩ : ∃ d3, d3 = (dSync dk (seg n')).2 := ⟨_, rfl⟩
                          have hsy3 := seg_sync HL22.out HOK.out.ok n' hn9'
                          rw [← hE3, ← hd3] at hsy3
                          have HSY3 := Shut.mk hsy3
                          have HO3 : Shut (OkN d3 0) := ⟨by rw [hd3]; exact HOK.out.sync _⟩
                          have HSS : Shut (sSyn d4 (l.take (k + 1)) = if E3 = 0 then sSyn d3 (((l.take (k + 1))).drop (q + 1)) else (E3, d3)) := ⟨by
                            rw [HSY.out, HDR.out, hE3, hd3]
                            exact if_pos hlk⟩
                          clear hsy3 hE3 hd3
                          by_cases hE : E3 = 0
                          · have HSS0 := Shut.mk (HSS.out.trans (if_pos hE))
                            clear HSS
                            subst hE
                            go_wp2_with fail
                            refine HSY3.out.mono ?_
                            rintro e w23 ⟨rfl, H23, hL23, hk23, hs23⟩
                            have HS23 : Shut (∃ dk, LStp w20 w23 gl gd Z H15 dk (l.take (k + 1)) dead4 ∧ sSyn d4 (l.take (k + 1)) = sSyn dk (((l.take (k + 1))).drop (q + 1)) ∧ OkN dk 0) := ⟨d3, LStp.trans (HKS21.out.1.below_ HB22.out) HKS21.out.2 (⟨H23, hL23, hk23, fun x hx => hs23 x hx⟩ : LStp w22 w23 gl gd Z H21 d3 (l.take (k + 1)) dead4), HSS0.out, HO3.out⟩
                            clear hL23 hk23 hs23 s0
                            go_wp2_with fail
                            go_roundw
                            case rel => exact ⟨q + 1, by omega, by go_num, HS23⟩
                            case measure => first | (simp [intOf]; done) | (simp [intOf]; omega)
                          · have HSS0 := Shut.mk (HSS.out.trans (if_neg hE))
                            clear HSS
                            go_wp2_with fail
                            refine HSY3.out.mono ?_
                            rintro e w23 ⟨rfl, H23, hL23, hk23, hs23⟩
                            obtain ⟨H24, hS24⟩ := HS20.out.step (LStp.trans (HKS21.out.1.below_ HB22.out) HKS21.out.2 (⟨H23, hL23, hk23, fun x hx => hs23 x hx⟩ : LStp w22 w23 gl gd Z H21 d3 (l.take (k + 1)) dead4))
                            have HS24 := Shut.mk hS24
                            clear hL23 hk23 hs23 s0 hS24
                            go_wp2_with fail
                            go_ret2
                            rw [gScan_bad2 HSC4.out (by rw [HSS0.out]; exact hE), HSS0.out]
                            exact HS24.out.bad E3
                        · rw [Bool.not_eq_true] at hlk
                          rw [hlk]
                          have HS23 : Shut (∃ dk, LStp w20 w22 gl gd Z H15 dk (l.take (k + 1)) dead4 ∧ sSyn d4 (l.take (k + 1)) = sSyn dk (((l.take (k + 1))).drop (q + 1)) ∧ OkN dk 0) := ⟨dk, LStp.trans (HKS21.out.1.below_ HB22.out) HKS21.out.2 (LStp.same HL22.out), by
                            rw [HSY.out, HDR.out]
                            exact if_neg (by rw [hlk]; simp), HOK.out⟩
                          go_wp2_with fail
                          go_roundw
                          case rel => exact ⟨q + 1, by omega, by go_num, HS23⟩
                          case measure => first | (simp [intOf]; done) | (simp [intOf]; omega)
                      · obtain rfl : q = (k + 1) := by omega
                        have HEND : Shut (sSyn d4 (l.take (k + 1)) = (0, dk)) := ⟨by rw [HSY.out, List.drop_of_length_le (by rw [HPL.out]; exact Nat.le_refl _)]; rfl⟩
                        obtain ⟨H24, hS24⟩ := HS20.out.step hst
                        have HS24 := Shut.mk hS24
                        clear hst hsy hok hS24
                        go_wp2_with fail
                        go_ret2
                        rw [gScan_ok HSC4.out (by rw [HEND.out]), HEND.out]
                        exact HS24.out.fin
                  · have HG := Shut.mk (gScan_bad HSC4.out hR)
                    go_wp2_with fail
                    refine HREM.out.mono ?_
                    rintro e w15 ⟨rfl, hst15⟩
                    obtain ⟨H15, hss15⟩ := HS14.out.step hst15
                    have HS15 := Shut.mk hss15
                    clear hst15 hss15
                    go_wp2_with fail
                    go_ret2
                    rw [HG.out]
                    exact HS15.out.bad E4
                · have HSQ2 : Shut (sCut d n (l.take (k + 1)) (l.drop (k + 1)) = (E2, d3)) := ⟨HSQ1.out.trans (by rw [hd3, hE2]; exact if_neg (fun e => hW (hE2 ▸ e)))⟩
                  have HG := Shut.mk (gScan_bad HSC.out (by rw [HSQ2.out]; exact hW))
                  rw [HSQ2.out] at HG
                  clear hE2 hd3 hl3 hdd3
                  go_wp2_with fail
                  refine HMAN.out.mono ?_
                  rintro e w14 ⟨rfl, hst14⟩
                  obtain ⟨⟨H14, hss14⟩, _, _⟩ := HSTW.out w14 hst14
                  have HS14 := Shut.mk hss14
                  clear hst14 hss14
                  go_wp2_with fail
                  go_ret2
                  rw [HG.out]
                  exact HS14.out.bad E2
            · have HSQ0 := Shut.mk (HSQ.out.trans (if_neg hE))
              have HG := Shut.mk (gScan_bad HSC.out (by rw [HSQ0.out]; exact hE))
              rw [HSQ0.out] at HG
              clear HSQ
              by_cases hk1 : k + 1 = N
              · skip
                subst hk1
                go_wp2_with fail
                all_goals refine (sh_CloneI0 _ _ _).mono ?_
                all_goals rintro e w9 ⟨v9, rfl, hro9, _, hb9⟩
                all_goals obtain ⟨A9, c9, rfl, _⟩ := (own_row hro9).1.form
                all_goals have HB9 := Shut.mk (HB7.out.trans (hb9.mono HB7.out.size))
                all_goals have HB9R := Shut.mk hb9
                all_goals have HL9 := Shut.mk (HL.out.quiet HB9.out)
                all_goals have s0 := HL9.out.c0
                all_goals have HF := Shut.mk (file_calls n w9.drew hn9 (HL9.out.quiet (w' := w9.drew) ((Below.refl _ w9).drew)).tb.p)
                all_goals clear hro9 hb9 q7
                all_goals go_wp2_with fail
                · go_region_held3 (fun w' => w'.cell? ⟨gl, 0, none⟩ = some (gp gd)) (first | exact s0 | exact t0 | exact t1 | go_keep)
                    (first
                      | (go_at_call 49; refine HF.out.mono ?_; rintro e w10 ⟨rfl, hb10⟩; have HB10 := Shut.mk (HB9.out.trans ((below_drewR (w := w9) hb10).mono HB9.out.size)); have HB10R := Shut.mk (HB9R.out.trans ((below_drewR (w := w9) hb10).mono HB9R.out.size)); have HB10S := Shut.mk (below_drewR (w := w9) hb10); have HL10 := Shut.mk (HL.out.quiet HB10.out); have t0 := HL10.out.c0; clear hb10)
                      | (go_at_call 26; refine (HCUT.out w10 HB10.out).mono ?_; rintro e w12 ⟨rfl, hst12⟩; obtain ⟨H12, hL12, hk12, hs12⟩ := hst12; have t1 := hL12.c0; have HST12 := Shut.mk (show LStp w10 w12 gl gd Z H d2 l dead from ⟨H12, hL12, hk12, hs12⟩); clear hL12 hk12 hs12))
                  clear s0 t0 t1
                  have hss10 : Sst w w10.heap.size w10 gl gd Z H H d l dead u4 (recsL d (l.take (k + 1))) := ⟨HL10.out, fun x hx => Nat.lt_of_lt_of_le (HHL.out x hx) HB10.out.size, Kb.of_below HB10.out H, fun x hx => .inl hx, HB10.out.size, Nat.le_refl _, HHL.out, (HUX.out.imp (Nat.le_refl _) (fun x hx => ⟨hx.1, Nat.lt_of_lt_of_le hx.2 HB10R.out.size⟩)).quiet HB10R.out, fun g hg => by
                    obtain ⟨vs, hov, _⟩ := HUX.out
                    exact Nat.lt_of_lt_of_le (hov.block_lt hg) HB10R.out.size⟩
                  obtain ⟨H13, hss12⟩ := hss10.step HST12.out
                  have HS12 := Shut.mk hss12
                  clear hss10 hss12

                  go_wp2_with fail
                  go_ret2
                  rw [HG.out]
                  exact HS12.out.bad E1
                · go_region_held3 (fun w' => w'.cell? ⟨gl, 0, none⟩ = some (gp gd)) (first | exact s0 | exact t0 | exact t1 | go_keep)
                    (first
                      | (go_at_call 49; refine HF.out.mono ?_; rintro e w10 ⟨rfl, hb10⟩; have HB10 := Shut.mk (HB9.out.trans ((below_drewR (w := w9) hb10).mono HB9.out.size)); have HB10R := Shut.mk (HB9R.out.trans ((below_drewR (w := w9) hb10).mono HB9R.out.size)); have HB10S := Shut.mk (below_drewR (w := w9) hb10); have HL10 := Shut.mk (HL.out.quiet HB10.out); have t0 := HL10.out.c0; clear hb10)
                      | (go_at_call 26; refine (HCUT.out w10 HB10.out).mono ?_; rintro e w12 ⟨rfl, hst12⟩; obtain ⟨H12, hL12, hk12, hs12⟩ := hst12; have t1 := hL12.c0; have HST12 := Shut.mk (show LStp w10 w12 gl gd Z H d2 l dead from ⟨H12, hL12, hk12, hs12⟩); clear hL12 hk12 hs12))
                  clear s0 t0 t1
                  have hss10 : Sst w w10.heap.size w10 gl gd Z H H d l dead u4 (recsL d (l.take (k + 1))) := ⟨HL10.out, fun x hx => Nat.lt_of_lt_of_le (HHL.out x hx) HB10.out.size, Kb.of_below HB10.out H, fun x hx => .inl hx, HB10.out.size, Nat.le_refl _, HHL.out, (HUX.out.imp (Nat.le_refl _) (fun x hx => ⟨hx.1, Nat.lt_of_lt_of_le hx.2 HB10R.out.size⟩)).quiet HB10R.out, fun g hg => by
                    obtain ⟨vs, hov, _⟩ := HUX.out
                    exact Nat.lt_of_lt_of_le (hov.block_lt hg) HB10R.out.size⟩
                  obtain ⟨H13, hss12⟩ := hss10.step HST12.out
                  have HS12 := Shut.mk hss12
                  clear hss10 hss12

                  go_wp2_with fail
                  go_ret2
                  rw [HG.out]
                  exact HS12.out.bad E1
              · skip
                have hkN : k + 1 < N := by omega
                have HRW := HROW.out.2 a rfl
                obtain ⟨ab, ha⟩ : ∃ ab, a = ⟨ab, 0, none⟩ := ⟨a.block, HRW⟩
                subst ha
                have hcapne : ¬ (N + cy = k + 1) := by omega
                have hlenI : (0 : Int) < ((N - (k + 1) : Nat) : Int) := by omega
                have hbe : Rd wr (some ((⟨ab, 0, none⟩ : Addr).add (k + 1))) (its (l.drop (k + 1))) := by
                  have h1 := rd_drop7 (HR.out.keep HB7.out) (k + 1)
                  rw [its, ← List.map_drop] at h1
                  exact h1
                rw [add_head] at hbe
                have HCL := Shut.mk (clone_ints ab (k + 1) (N - (k + 1)) (N + cy - (k + 1)) (l.drop (k + 1)) wr (by rw [List.length_drop, ← HN.out]) (by omega) hbe)
                clear hbe HRW
                go_wp2_with fail
                refine HCL.out.mono ?_
                rintro e w9 ⟨A9, c9, rfl, hr9, _, hb9, hlo9⟩
                have HR9 := Shut.mk (And.intro hr9 hlo9)
                have HB9 := Shut.mk (HB7.out.trans (hb9.mono HB7.out.size))
                have HB9R := Shut.mk hb9
                have HL9 := Shut.mk (HL.out.quiet HB9.out)
                have s0 := HL9.out.c0
                have HF := Shut.mk (file_calls n w9.drew hn9 (HL9.out.quiet (w' := w9.drew) ((Below.refl _ w9).drew)).tb.p)
                clear hr9 hb9 hlo9 q7
                go_wp2_with fail

                go_region_held3 (fun w' => w'.cell? ⟨gl, 0, none⟩ = some (gp gd)) (first | exact s0 | exact t0 | exact t1 | go_keep)
                  (first
                    | (go_at_call 49; refine HF.out.mono ?_; rintro e w10 ⟨rfl, hb10⟩; have HB10 := Shut.mk (HB9.out.trans ((below_drewR (w := w9) hb10).mono HB9.out.size)); have HB10R := Shut.mk (HB9R.out.trans ((below_drewR (w := w9) hb10).mono HB9R.out.size)); have HB10S := Shut.mk (below_drewR (w := w9) hb10); have HL10 := Shut.mk (HL.out.quiet HB10.out); have t0 := HL10.out.c0; clear hb10)
                    | (go_at_call 26; refine (HCUT.out w10 HB10.out).mono ?_; rintro e w12 ⟨rfl, hst12⟩; obtain ⟨H12, hL12, hk12, hs12⟩ := hst12; have t1 := hL12.c0; have HST12 := Shut.mk (show LStp w10 w12 gl gd Z H d2 l dead from ⟨H12, hL12, hk12, hs12⟩); clear hL12 hk12 hs12))
                clear s0 t0 t1
                have hss10 : Sst w w10.heap.size w10 gl gd Z H H d l dead u4 (recsL d (l.take (k + 1))) := ⟨HL10.out, fun x hx => Nat.lt_of_lt_of_le (HHL.out x hx) HB10.out.size, Kb.of_below HB10.out H, fun x hx => .inl hx, HB10.out.size, Nat.le_refl _, HHL.out, (HUX.out.imp (Nat.le_refl _) (fun x hx => ⟨hx.1, Nat.lt_of_lt_of_le hx.2 HB10R.out.size⟩)).quiet HB10R.out, fun g hg => by
                  obtain ⟨vs, hov, _⟩ := HUX.out
                  exact Nat.lt_of_lt_of_le (hov.block_lt hg) HB10R.out.size⟩
                obtain ⟨H13, hss12⟩ := hss10.step HST12.out
                have HS12 := Shut.mk hss12
                clear hss10 hss12

                go_wp2_with fail
                go_ret2
                rw [HG.out]
                exact HS12.out.bad E1
        · -- one more record
          have hox9 := fstL_some hf7
          have hdr : (b.drop (frs done).length).length = NB - (frs done).length := by rw [List.length_drop, ← HNB.out]
          have hxl : 40 + x.length ≤ NB - (frs done).length := by
            have h1 := congrArg List.length hox9.2
            rw [List.length_append, frm_length] at h1
            omega
          have hnx : (frs (done ++ [x])).length = (frs done).length + (40 + x.length) := by rw [frs_append, frs_one, List.length_append, frm_length]
          have HNX := Shut.mk hnx
          have HRD2 : Shut (rdL b = (done ++ [x]) ++ rdL (b.drop (frs (done ++ [x])).length)) := ⟨by
            rw [hrd.out, rdL_some hf7, List.drop_drop, hnx]
            simp⟩
          have hx1 := hox9.1.1
          have hx2 := hox9.1.2
          obtain ⟨XL, hXL⟩ : ∃ XL, XL = x.length := ⟨_, rfl⟩
          have HXL := Shut.mk hXL
          obtain ⟨AT, hAT⟩ : ∃ AT, AT = (frs done).length := ⟨_, rfl⟩
          have HATE := Shut.mk hAT
          rw [← hXL] at hox hxl hx1 hx2 HNX ⊢
          rw [← hAT] at hdn hdc hxl HNX ⊢
          have HOX := Shut.mk hox
          have HB7 := Shut.mk hb7
          have hxc : XL ≤ c' := by
            obtain ⟨A9, c9, e9, _, h9, _⟩ := hox.form
            cases e9
            exact h9
          have hsg : g < wr.heap.size := hox.block_lt rfl
          have hA5 : ∃ a5, A5 = some a5 := by
            obtain ⟨a5, e5, _⟩ := HRB5.out 0 (by rw [← HNB.out]; omega)
            exact ⟨a5, e5⟩
          obtain ⟨a5, rfl⟩ := hA5
          obtain ⟨vs2, ho7, hrw7, hnw7⟩ := HREC7.out
          obtain ⟨A7, c7, rfl, _⟩ := ho7.form
          obtain ⟨RN, hRN⟩ : ∃ RN, RN = (recsL d (l.take k) ++ done).length := ⟨_, rfl⟩
          have HRN := Shut.mk hRN
          have hRNb : RN ≤ 30000 * 1000 + 1048576 := by
            rw [hRN, List.length_append]
            omega
          rw [← hRN] at ho7
          have HO7 := Shut.mk ho7
          have HRW7 := Shut.mk hrw7
          have HNW7 := Shut.mk hnw7
          rw [← hRN] at HRW7 HNW7 HAR7 HGX ⊢
          have HNEXT : Shut (∀ (o : Obj) (v8 : Value) (w8 : World), Appended (wr.alloc o) w8 27 1 (.slice A7 RN c7) v8 RN 1 vs2 [.slice (some ⟨g, 0, none⟩) XL c'] →
              Below w.heap.size w w8 ∧ RdB w8 (some a5) b ∧ Recs w8 w.heap.size (fun x => w.heap.size ≤ x) v8 (recsL d (l.take k) ++ (done ++ [x])) ∧ ∀ q, v8.ownBlock = some q → ∀ a, some a5 = some a → a.block ≠ q) := ⟨by
            intro o v8 w8 hap
            have hkb := kb_appended hap
            have hL : ∀ q, q ∈ (Value.slice A7 RN c7).ownBlock.toList → (Value.slice A7 RN c7).ownBlock = some q := fun q hq => by simpa using hq
            have hap' := hap
            rw [hRN, hXL] at hap'
            refine ⟨hkb.below HB7.out (fun q hq => HNW7.out q (hL q hq)) HB7.out.size, rdB_kept HRB7.out hkb (fun a ha hq => HAR7.out a.block (hL _ hq) a ha rfl), ?_, fun q hq a ha e => ?_⟩
            · rw [← List.append_assoc]
              have h1 := HRW7.out
              have h2 := HNW7.out
              have h3 := HGX.out
              rw [hRN] at h1 h2 h3
              have hown : Own wr 5 1 (.slice (some ⟨g, 0, none⟩) x.length c') x.length (bys x) := by
                rw [← hXL]
                exact HOX.out
              have hown2 := HO7.out
              rw [hRN] at hown2
              refine Recs.append hown2 h1 h2 HB7.out.size hap' (by rw [← hXL]; exact hxc) (rdb_own _ hown) (fun a ha => ?_)
              cases ha
              exact ⟨hgx, hsg, h3⟩
            · rcases hap.lies with h | h
              · exact HAR7.out q (h ▸ hq) a ha e
              · rw [hq] at h
                injection h with h
                rw [World.size_alloc] at h
                cases ha
                obtain ⟨a6, e6, hc6⟩ := HRB7.out 0 (by rw [← HNB.out]; omega)
                cases e6
                have := World.block_lt_of_cell? wr _ hc6
                rw [block_of_add] at this
                omega⟩
          have HFN : Shut ((frs (done ++ [x])).length = AT + (40 + XL)) := HNX
          have HDL : Shut ((b.drop (AT + (40 + XL))).length = NB - (AT + (40 + XL))) := ⟨by rw [List.length_drop, HNB.out]⟩
          clear hrd ho7 hrw7 hnw7 hox hb7 hox9 hdr hnx hXL hAT hRN
          have hatI : (0 : Int) ≤ (AT : Int) := by omega
          go_wp2_with (at_builtin; refine wpList_append _ rfl _ _ _ rfl 27 i0 _ 1 24 Tryz.underlying39 hi hz0 hz1 hz2 rfl (by decide) _ _ _ rfl (HO7.out.alloc _) _ 1 1 _ rfl (by rfl) (rd_new _ _ 27) (by simp [Value.oneCell']) (by simp only [maxLen]; omega) (by omega) ?_; intro v8 w8 hap8)
          · -- the slice at the end of its row
            have hAN : NB - (AT + (40 + XL)) = 0 := by omega
            obtain ⟨hb8, hr8, hrec8, har8⟩ := HNEXT.out _ _ _ hap8
            have hrd9 : RdB w8 (some a5) (b.drop (AT + (40 + XL))) := fun q hq => by rw [HDL.out] at hq; omega
            have HDL2 : Shut ((b.drop (AT + (40 + XL))).length = NB - (NB + cx)) := ⟨by rw [HDL.out, h]⟩
            rw [← h]
            clear h hAN
            have HLW8 := Shut.mk (HL.out.quiet hb8)
            have HB8 := Shut.mk hb8
            have HREC8 := Shut.mk hrec8
            have HAR8 := Shut.mk har8
            have HR8 := Shut.mk hr8
            have hs8 := hb8.size
            have HRD9 := Shut.mk hrd9
            clear hb8 hr8 hrec8 har8 hrd9
            refine (first_calls _ _ (NB - (NB + cx)) (b.drop (AT + (40 + XL))) w8 HRD9.out HDL2.out (by omega) (by omega) HLW8.out.tb.k HLW8.out.tb.b).mono ?_
            rintro e w9 ⟨hb9, hor⟩
            have hr0 : ∃ r, e = .returned r ∧ ((fstL (b.drop (AT + (40 + XL))) = none ∧ r = .slice none 0 0) ∨ ∃ x g c', fstL (b.drop (AT + (40 + XL))) = some x ∧ r = .slice (some ⟨g, 0, none⟩) x.length c' ∧ Own w9 5 1 r x.length (bys x) ∧ w8.heap.size ≤ g) := by
              rcases hor with ⟨h1, h2⟩ | ⟨x, g, c', h1, h2, h3, h4⟩
              · exact ⟨_, h2, .inl ⟨h1, rfl⟩⟩
              · exact ⟨_, h2, .inr ⟨x, g, c', h1, rfl, h3, h4⟩⟩
            obtain ⟨r9, rfl, hor9⟩ := hr0
            have HOR9 := Shut.mk hor9
            have HB9 := Shut.mk hb9
            clear hb9 hor hor9
            go_wp2_with fail
            go_roundw
            case rel =>
              refine ⟨done ++ [x], by rw [HFN.out]; go_num, HRD2, by rw [HFN.out]; omega, by rw [HFN.out, List.length_append, List.length_singleton]; omega, HB8.out.trans (HB9.out.mono HB8.out.size), ⟨HR8.out.keep HB9.out⟩, ⟨HREC8.out.quiet HB9.out⟩, HAR8, ?_⟩
              rw [HFN.out]
              rcases HOR9.out with h | ⟨x9, g9, c9, h1, h2, h3, h4⟩
              · exact .inl h
              · refine .inr ⟨x9, g9, c9, h1, h2, h3, by omega, ⟨fun e => ?_⟩⟩
                obtain ⟨vs9, ho9, _⟩ := HREC8.out
                have h5 := ho9.block_lt e
                omega
            case measure => first | (simp [intOf]; done) | (simp [intOf]; omega)
          · obtain ⟨hb8, hr8, hrec8, har8⟩ := HNEXT.out _ _ _ hap8
            have hrd9 : RdB w8 (some (a5.add (AT + (40 + XL)))) (b.drop (AT + (40 + XL))) := by
              have := rdB_piece hr8 (AT + (40 + XL)) (NB - (AT + (40 + XL)))
              rwa [List.take_of_length_le (by rw [HDL.out]; exact Nat.le_refl _)] at this
            have HLW8 := Shut.mk (HL.out.quiet hb8)
            have HB8 := Shut.mk hb8
            have HREC8 := Shut.mk hrec8
            have HAR8 := Shut.mk har8
            have HR8 := Shut.mk hr8
            have hs8 := hb8.size
            have HRD9 := Shut.mk hrd9
            clear hb8 hr8 hrec8 har8 hrd9
            refine (first_calls _ _ (NB - (AT + (40 + XL))) (b.drop (AT + (40 + XL))) w8 HRD9.out HDL.out (by omega) (by omega) HLW8.out.tb.k HLW8.out.tb.b).mono ?_
            rintro e w9 ⟨hb9, hor⟩
            have hr0 : ∃ r, e = .returned r ∧ ((fstL (b.drop (AT + (40 + XL))) = none ∧ r = .slice none 0 0) ∨ ∃ x g c', fstL (b.drop (AT + (40 + XL))) = some x ∧ r = .slice (some ⟨g, 0, none⟩) x.length c' ∧ Own w9 5 1 r x.length (bys x) ∧ w8.heap.size ≤ g) := by
              rcases hor with ⟨h1, h2⟩ | ⟨x, g, c', h1, h2, h3, h4⟩
              · exact ⟨_, h2, .inl ⟨h1, rfl⟩⟩
              · exact ⟨_, h2, .inr ⟨x, g, c', h1, rfl, h3, h4⟩⟩
            obtain ⟨r9, rfl, hor9⟩ := hr0
            have HOR9 := Shut.mk hor9
            have HB9 := Shut.mk hb9
            clear hb9 hor hor9
            go_wp2_with fail
            go_roundw
            case rel =>
              refine ⟨done ++ [x], by rw [HFN.out]; go_num, HRD2, by rw [HFN.out]; omega, by rw [HFN.out, List.length_append, List.length_singleton]; omega, HB8.out.trans (HB9.out.mono HB8.out.size), ⟨HR8.out.keep HB9.out⟩, ⟨HREC8.out.quiet HB9.out⟩, HAR8, ?_⟩
              rw [HFN.out]
              rcases HOR9.out with h | ⟨x9, g9, c9, h1, h2, h3, h4⟩
              · exact .inl h
              · refine .inr ⟨x9, g9, c9, h1, h2, h3, by omega, ⟨fun e => ?_⟩⟩
                obtain ⟨vs9, ho9, _⟩ := HREC8.out
                have h5 := ho9.block_lt e
                omega
            case measure => first | (simp [intOf]; done) | (simp [intOf]; omega)
    · skip
      obtain rfl : k = N := by omega
      have HNE : Shut (l.length = k) := ⟨HN.out.symm⟩
      have HTE : Shut (l.take k = l) := ⟨List.take_of_length_le (by rw [← HN.out]; exact Nat.le_refl _)⟩
      have HSC2 : Shut (sScn d [] l = (0, l, recsL d l, d)) := ⟨sScn_all d l (fun j hj => hwk j hj (by rw [HN.out]; exact hj))⟩
      have hrec0 := HREC.out
      rw [HTE.out] at hrec0 ⊢
      have HSW : Shut (Sst w wr.heap.size wr gl gd Z H H d l dead (.slice Av (recsL d l).length cv) (recsL d l)) := ⟨⟨HLR.out, fun x hx => Nat.lt_of_lt_of_le (HHL.out x hx) hbr.size, Kb.of_below hbr H, fun x hx => .inl hx, hbr.size, Nat.le_refl _, HHL.out, hrec0.bound, fun g hg => by
        obtain ⟨vs, hov, _⟩ := hrec0
        exact hov.block_lt hg⟩⟩
      have HO20 : Shut (OkN d 0) := ⟨HO.out.mono (by omega)⟩
      clear hrec0 hbr hwk
      -- the syncs
      have HSEG := Shut.mk (segments_calls HSW.out.ld HLL.out (by rw [HNE.out]; omega))
      go_wp2_with fail
      refine HSEG.out.mono ?_
      rintro e w20 ⟨v20, rfl, ho20, hb20, hn20⟩
      obtain ⟨A20, c20, rfl, hr20, _, _, hob20, _⟩ := ho20.form
      have HA20 : Shut (∀ a, A20 = some a → a.block ∉ H) := ⟨fun a ha hx => by
        have h1 := hn20 a.block (hob20.trans (by rw [ha]; rfl))
        have h2 := HSW.out.lt _ hx
        omega⟩
      have HR20 := Shut.mk hr20
      have HS20 := Shut.mk (HSW.out.quiet hb20)
      clear ho20 hb20 hn20 hr20 hob20
      rw [HNE.out]
      go_wp2_with fail
      go_loopw [102] (fun i wr => ∃ q : Nat, q ≤ k ∧ i = .int .i64 q ∧ Shut (∃ dk, LStp w20 wr gl gd Z H dk l dead ∧ sSyn d l = sSyn dk ((l).drop q) ∧ OkN dk 0)) (fun i _ => k - (intOf i).toNat)
      case atStart => exact ⟨0, Nat.zero_le _, rfl, ⟨d, LStp.same HS20.out.ld, rfl, HO20.out⟩⟩
      case round =>
        obtain ⟨q, hk, rfl, HST⟩ := hrel
        obtain ⟨dk, hst, hsy, hok⟩ := HST.out
        have HSY := Shut.mk hsy
        have HOK := Shut.mk hok
        by_cases hlt : q < k
        · have hql : q < (l).length := by rw [HNE.out]; exact hlt
          obtain ⟨H21, hL21, hk21, hs21⟩ := hst
          obtain ⟨n', hn'⟩ : ∃ n', n' = (l)[q] := ⟨_, rfl⟩
          have hn9' : n' ≤ 99999999 := by rw [hn']; exact HLL.out _ (List.getElem_mem _)
          have hv : (((l).map seg).map Proofs.encStr)[q]? = some (.string (segS n')) := by
            rw [List.getElem?_map, List.getElem?_map, List.getElem?_eq_getElem hql, hn']
            rfl
          obtain ⟨a20, hA20, hc20⟩ := HR20.out (fun e => by rw [e] at hv; cases hv)
          subst hA20
          have c0 := hc20 q _ hv
          have c2 : wr.cell? (a20.add q) = some (.string (segS n')) := (World.cell?_of_block (w := w20) (hk21.block _ (World.block_lt_of_cell? w20 _ c0) (fun hx => by
            rw [block_of_add] at hx
            exact HA20.out a20 rfl hx))).trans c0
          have HDR : Shut ((l).drop q = n' :: (l).drop (q + 1)) := ⟨by rw [List.drop_eq_getElem_cons hql, hn']⟩
          have HL21 := Shut.mk hL21
          have HKS21 := Shut.mk (And.intro hk21 hs21)
          have hkI : (q : Int) < (k : Int) := by omega
          clear hc20 c0 hv hn' hL21 hk21 hs21 hsy hok hql
          go_wp2_with fail
          refine (seg_has HL21.out (by have := HOK.out.n; omega) n').mono ?_
          rintro e w22 ⟨rfl, hb22⟩
          have HL22 := Shut.mk (HL21.out.quiet hb22)
          have HB22 := Shut.mk hb22
          clear hb22
          by_cases hlk : (look dk.S (seg n')).isSome = true
          · rw [hlk]
            have s0 := HL22.out.c0
            obtain ⟨E3, hE3⟩ : ∃ E3, E3 = (dSync dk (seg n')).1 := ⟨_, rfl⟩
            obtain ⟨d3, hd3⟩ : ∃ d3, d3 = (dSync dk (seg n')).2 := ⟨_, rfl⟩
            have hsy3 := seg_sync HL22.out HOK.out.ok n' hn9'
            rw [← hE3, ← hd3] at hsy3
            have HSY3 := Shut.mk hsy3
            have HO3 : Shut (OkN d3 0) := ⟨by rw [hd3]; exact HOK.out.sync _⟩
            have HSS : Shut (sSyn d l = if E3 = 0 then sSyn d3 ((l).drop (q + 1)) else (E3, d3)) := ⟨by
              rw [HSY.out, HDR.out, hE3, hd3]
              exact if_pos hlk⟩
            clear hsy3 hE3 hd3
            by_cases hE : E3 = 0
            · have HSS0 := Shut.mk (HSS.out.trans (if_pos hE))
              clear HSS
              subst hE
              go_wp2_with fail
              refine HSY3.out.mono ?_
              rintro e w23 ⟨rfl, H23, hL23, hk23, hs23⟩
              have HS23 : Shut (∃ dk, LStp w20 w23 gl gd Z H dk l dead ∧ sSyn d l = sSyn dk ((l).drop (q + 1)) ∧ OkN dk 0) := ⟨d3, LStp.trans (HKS21.out.1.below_ HB22.out) HKS21.out.2 (⟨H23, hL23, hk23, fun x hx => hs23 x hx⟩ : LStp w22 w23 gl gd Z H21 d3 l dead), HSS0.out, HO3.out⟩
              clear hL23 hk23 hs23 s0
              go_wp2_with fail
              go_roundw
              case rel => exact ⟨q + 1, by omega, by go_num, HS23⟩
              case measure => first | (simp [intOf]; done) | (simp [intOf]; omega)
            · have HSS0 := Shut.mk (HSS.out.trans (if_neg hE))
              clear HSS
              go_wp2_with fail
              refine HSY3.out.mono ?_
              rintro e w23 ⟨rfl, H23, hL23, hk23, hs23⟩
              obtain ⟨H24, hS24⟩ := HS20.out.step (LStp.trans (HKS21.out.1.below_ HB22.out) HKS21.out.2 (⟨H23, hL23, hk23, fun x hx => hs23 x hx⟩ : LStp w22 w23 gl gd Z H21 d3 l dead))
              have HS24 := Shut.mk hS24
              clear hL23 hk23 hs23 s0 hS24
              go_wp2_with fail
              go_ret2
              rw [gScan_bad2 HSC2.out (by rw [HSS0.out]; exact hE), HSS0.out]
              exact HS24.out.bad E3
          · rw [Bool.not_eq_true] at hlk
            rw [hlk]
            have HS23 : Shut (∃ dk, LStp w20 w22 gl gd Z H dk l dead ∧ sSyn d l = sSyn dk ((l).drop (q + 1)) ∧ OkN dk 0) := ⟨dk, LStp.trans (HKS21.out.1.below_ HB22.out) HKS21.out.2 (LStp.same HL22.out), by
              rw [HSY.out, HDR.out]
              exact if_neg (by rw [hlk]; simp), HOK.out⟩
            go_wp2_with fail
            go_roundw
            case rel => exact ⟨q + 1, by omega, by go_num, HS23⟩
            case measure => first | (simp [intOf]; done) | (simp [intOf]; omega)
        · obtain rfl : q = k := by omega
          have HEND : Shut (sSyn d l = (0, dk)) := ⟨by rw [HSY.out, List.drop_of_length_le (by rw [HNE.out]; exact Nat.le_refl _)]; rfl⟩
          obtain ⟨H24, hS24⟩ := HS20.out.step hst
          have HS24 := Shut.mk hS24
          clear hst hsy hok hS24
          go_wp2_with fail
          go_ret2
          rw [gScan_ok HSC2.out (by rw [HEND.out]), HEND.out]
          exact HS24.out.fin
end
end Go.Proofs.YtmlfeljhojmbbaaGreatDoor

namespace Go.Proofs.YtmlfeljhojmbbaaGreatDoor
open Go.RowKit Go.Maps Go.Sort
set_option linter.unusedSimpArgs false
set_option linter.unusedVariables false
set_option maxRecDepth 100000

theorem gOpen1_new {d : Ds} (h : look d.S manN = none) (hl : lsD d = []) : gOpen1 d = ((dWr d [1]).1, [], (dWr d [1]).2) := by
  unfold gOpen1
  rw [h]
  exact if_pos hl
theorem gOpen1_odd {d : Ds} (h : look d.S manN = none) (hl : ¬ lsD d = []) : gOpen1 d = (70, [], d) := by
  unfold gOpen1
  rw [h]
  exact if_neg hl
theorem gOpen1_bad {d : Ds} {b : List UInt8} {sy : Nat} (h : look d.S manN = some (b, sy)) (hp : prsL b = none) : gOpen1 d = (70, [], d) := by
  unfold gOpen1
  rw [h]
  show (match prsL b with | none => _ | some ss => _) = _
  rw [hp]
theorem gOpen1_rmv {d : Ds} {b : List UInt8} {sy : Nat} {ss : List Nat} (h : look d.S manN = some (b, sy)) (hp : prsL b = some ss) :
    gOpen1 d = if (sRmv (mineL ss) d (lsD d)).1 = 0 then gScan (sRmv (mineL ss) d (lsD d)).2 ss else ((sRmv (mineL ss) d (lsD d)).1, [], (sRmv (mineL ss) d (lsD d)).2) := by
  unfold gOpen1
  rw [h]
  show (match prsL b with | none => _ | some ss => _) = _
  rw [hp]
theorem dDel_look {d : Ds} {s t : List UInt8} (h : look (dDel d s).2.S t ≠ none) : look d.S t ≠ none := by
  unfold dDel at h
  split at h
  · exact h
  · split at h
    · exact h
    · intro e
      apply h
      show look (delF d.S s) t = none
      rw [look_delF, e]
      split <;> rfl
theorem gScan_rs {dk d' : Ds} {ss : List Nat} {E : Int} {rs : List (List UInt8)} (h : gScan dk ss = (E, rs, d')) (hE : ¬ E = 0) : rs = [] := by
  unfold gScan at h
  split at h
  · split at h
    · cases h
      exact absurd rfl hE
    · cases h
      rfl
  · cases h
    rfl
/-- what Open leaves -/
def OpTo (w w' : World) (gd : Nat) (F : List Nat) (R : Int × List (List UInt8) × Ds) (e : Ending) : Prop :=
  ∃ p v F', e = .returned (.tuple #[p, v, .int .i64 R.1]) ∧ ((R.1 = 0 ∧ ∃ gl, p = gp gl) ∨ (R.1 ≠ 0 ∧ p = .pointer none)) ∧ Recs w' w.heap.size (fun x => w.heap.size ≤ x) v R.2.1 ∧ DD w' gd F' R.2.2 ∧ Kb w w' F ∧ ∀ x ∈ F', x ∈ F ∨ w.heap.size ≤ x
/-- a log, while Open goes on -/
structure Ost (w w2 : World) (GL gd Z : Nat) (F H2 : List Nat) (d : Ds) (l : List Nat) (dead : Bool) : Prop where
  ld : LD w2 GL gd Z H2 d l dead
  lt : ∀ x ∈ H2, x < w2.heap.size
  kb : Kb w w2 F
  sub : ∀ x ∈ H2, x ∈ F ∨ w.heap.size ≤ x
section
variable {w w2 w3 : World} {GL gd Z : Nat} {F H2 : List Nat} {d d' : Ds} {l l' : List Nat} {dead dead' : Bool}
theorem Ost.quiet (h : Ost w w2 GL gd Z F H2 d l dead) (hb : Below w2.heap.size w2 w3) : Ost w w3 GL gd Z F H2 d l dead :=
  ⟨h.ld.quiet hb, fun x hx => Nat.lt_of_lt_of_le (h.lt x hx) hb.size, h.kb.below_ hb, h.sub⟩
theorem Ost.stepW (h : Ost w w2 GL gd Z F H2 d l dead) {X : List Nat} (hX : ∀ x ∈ X, x ∈ H2 ∨ w.heap.size ≤ x) (hst : LStp w2 w3 GL gd Z X d' l' dead') : ∃ H3, Ost w w3 GL gd Z F H3 d' l' dead' := by
  obtain ⟨H', g1, g2, g3⟩ := hst
  obtain ⟨H3, g4, g5, g6⟩ := g1.trim
  have hX2 : ∀ x ∈ X, x ∈ F ∨ w.heap.size ≤ x := fun x hx => (hX x hx).elim (h.sub x) .inr
  refine ⟨H3, g4, g6, h.kb.trans g2 hX2, fun x hx => ?_⟩
  rcases g3 x (g5 x hx) with h1 | h1
  · exact hX2 x h1
  · exact .inr (Nat.le_trans h.kb.size h1)
theorem Ost.step (h : Ost w w2 GL gd Z F H2 d l dead) (hst : LStp w2 w3 GL gd Z H2 d' l' dead') : ∃ H3, Ost w w3 GL gd Z F H3 d' l' dead' := h.stepW (fun x hx => .inl hx) hst
theorem Ost.bad (h : Ost w w2 GL gd Z F H2 d l dead) {E : Int} (hE : ¬ E = 0) : OpTo w w2 gd F (E, [], d) (.returned (.tuple #[.pointer none, .slice none 0 0, .int .i64 E])) := by
  obtain ⟨F', hD, hs, _⟩ := h.ld.disk2
  exact ⟨_, _, F', rfl, .inr ⟨hE, rfl⟩, Recs.nil _ _ _, hD, h.kb, fun x hx => h.sub x (hs x hx).1⟩
theorem Ost.fin (h : Ost w w2 GL gd Z F H2 d l dead) {v : Value} {rs : List (List UInt8)} (hr : Recs w2 w.heap.size (fun x => w.heap.size ≤ x) v rs) (gl : Nat) : OpTo w w2 gd F (0, rs, d) (.returned (.tuple #[gp gl, v, .int .i64 0])) := by
  obtain ⟨F', hD, hs, _⟩ := h.ld.disk2
  exact ⟨_, _, F', rfl, .inl ⟨rfl, gl, rfl⟩, hr, hD, h.kb, fun x hx => h.sub x (hs x hx).1⟩
theorem Ost.setl (h : Ost w w2 GL gd Z F H2 d l dead) {A : Option Addr} {c : Nat} {l' : List Nat} (hr : Rd w2 A (its l')) (hk : RowOk A l'.length c) (hA : ∀ a, A = some a → a.block ∉ H2 ∧ w.heap.size ≤ a.block ∧ a.block < w2.heap.size ∧ Z ≤ a.block) :
    Ost w (w2.setCell ⟨GL, 1, none⟩ (.slice A l'.length c)) GL gd Z F (blkOf A ++ H2) d l' dead ∧ (w2.setCell ⟨GL, 1, none⟩ (.slice A l'.length c)).cell? ⟨GL, 1, none⟩ = some (.slice A l'.length c) ∧ w2.frozen? ⟨GL, 1, none⟩ = false ∧ ∃ v, w2.cell? ⟨GL, 1, none⟩ = some v := by
  obtain ⟨A7, c7, k1, k2, k3, k4, k5⟩ := h.ld.log
  have hgl : GL ∈ H2 := by
    obtain ⟨_, h5, _⟩ := h.ld
    exact h5
  refine ⟨⟨k5 A c l' hr hk (fun a ha => ⟨(hA a ha).1, (hA a ha).2.2.2⟩), fun x hx => ?_, h.kb.trans ((Kb.refl w2 [GL]).setCell (p := ⟨GL, 1, none⟩) (by simp) _) (fun x hx => ?_), fun x hx => ?_⟩, (k1.set_ 1 (.slice A l'.length c)).cell 1, k1.free 1, _, k1.cell 1⟩
  · rw [show (w2.setCell ⟨GL, 1, none⟩ (.slice A l'.length c)).heap.size = w2.heap.size by simp]
    rcases List.mem_append.1 hx with h1 | h1
    · cases A with
      | none => cases h1
      | some a =>
        obtain rfl : x = a.block := by simpa [blkOf] using h1
        exact (hA a rfl).2.2.1
    · exact h.lt x h1
  · rw [show x = GL by simpa using hx]
    exact h.sub GL hgl
  · rcases List.mem_append.1 hx with h1 | h1
    · cases A with
      | none => cases h1
      | some a =>
        obtain rfl : x = a.block := by simpa [blkOf] using h1
        exact .inr (hA a rfl).2.1
    · exact h.sub x h1
theorem man_read (h : DD w gd F d) {b : List UInt8} {sy : Nat} (hl : look d.S manN = some (b, sy)) : Calls Tryz.prog 40 #[gp gd, .string ⟨#[109, 97, 110, 105, 102, 101, 115, 116]⟩] w fun e w' =>
    ∃ A c, e = .returned (.tuple #[.slice A b.length c, .int .i64 0]) ∧ Own w' 5 1 (.slice A b.length c) b.length (bys b) ∧ Below w.heap.size w w' := by
  refine (dd_read_man h).mono ?_
  rintro e w' ⟨A, c, E, he, hE, ho, hb⟩
  rw [hl] at he ho
  have hE' := hE.out
  rw [hl] at hE'
  obtain rfl : E = 0 := hE'
  exact ⟨A, c, he, ho, hb⟩
theorem man_none (h : DD w gd F d) (hl : look d.S manN = none) : Calls Tryz.prog 40 #[gp gd, .string ⟨#[109, 97, 110, 105, 102, 101, 115, 116]⟩] w fun e w' =>
    ∃ A c, e = .returned (.tuple #[.slice A 0 c, .int .i64 60]) ∧ Below w.heap.size w w' := by
  refine (dd_read_man h).mono ?_
  rintro e w' ⟨A, c, E, he, hE, ho, hb⟩
  rw [hl] at he
  have hE' := hE.out
  rw [hl] at hE'
  obtain rfl : E = 60 := hE'
  exact ⟨A, c, he, hb⟩
end
end Go.Proofs.YtmlfeljhojmbbaaGreatDoor

namespace Go.Proofs.YtmlfeljhojmbbaaGreatDoor
open Go.RowKit Go.Maps Go.Sort
set_option linter.unusedSimpArgs false
set_option linter.unusedVariables false
set_option maxRecDepth 100000

section
variable {w w' : World} {gd Z : Nat} {F : List Nat} {d : Ds}
set_option maxHeartbeats 8000000 in
theorem open_any (h : DD w gd F d) (hF : ∀ x ∈ F, Z ≤ x) (hz : Z ≤ w.heap.size) (ht : Tb w Z) (ho : OkN d 2) (hsz : ∀ s, look d.S s ≠ none → s.length ≤ 100) :
    Calls Tryz.prog 9 #[gp gd] w fun e w' => OpTo w w' gd F (gOpen d) e := by
  obtain ⟨i0, hi, hz0, hz1, hz2⟩ := info_parts info_str7
  have hnil := fun (W : World) (g n c : Nat) => Lib.run_eql_slice_nil (P := Tryz.prog) W 40 3 (some ⟨g, 0, none⟩) n c 0 0 Tryz.underlying40
  have hnil2 := fun (W : World) => Lib.run_eql_slice_nil (P := Tryz.prog) W 40 3 none 0 0 0 0 Tryz.underlying40
  obtain ⟨F0, hD0, hsub, hlt0⟩ := dd_trim h
  have HD := Shut.mk hD0
  have HF0 := Shut.mk (fun x (hx : x ∈ F0) => (⟨hF x (hsub x hx), hlt0 x hx⟩ : Z ≤ x ∧ x < w.heap.size))
  have HSUB := Shut.mk hsub
  have HT := Shut.mk ht
  have HO := Shut.mk ho
  have HSZ := Shut.mk hsz
  have HRM := Shut.mk (dd_read_man hD0)
  obtain ⟨NM, hNM⟩ : ∃ NM, NM = (((look d.S manN).map (·.1)).getD []).length := ⟨_, rfl⟩
  rw [← hNM] at HRM
  clear h hD0 hF hsub hlt0 ht ho hsz hNM
  go_enter Tryz.func9, Tryz.ntmps9
  go_wp2_with fail
  refine HRM.out.mono ?_
  rintro e w1 ⟨A1, c1, E1, rfl, hE1, ho1, hb1⟩
  have hE12 : ¬ E1 = 2 := by
    rw [hE1.out]
    split <;> decide
  have HB1 := Shut.mk hb1
  have hs1 := hb1.size
  have hbox := ld_box (Dsk.below HD.out hb1) (fun x hx => ⟨(HF0.out x hx).1, Nat.lt_of_lt_of_le (HF0.out x hx).2 hs1⟩) (Nat.le_trans hz hs1) (HT.out.below (hb1.mono hz))
  obtain ⟨GL, hGL⟩ : ∃ GL, GL = w1.heap.size := ⟨_, rfl⟩
  have hbb : Below w1.heap.size w1 (w1.alloc (.cells #[gp gd, .slice none 0 0, .bool false] 77)) := (Below.refl _ w1).alloc (Nat.le_refl _) _
  have hos : Ost w (w1.alloc (.cells #[gp gd, .slice none 0 0, .bool false] 77)) w1.heap.size gd Z F (w1.heap.size :: F0) d [] false := ⟨hbox, fun x hx => by
    rw [World.size_alloc]
    rcases List.mem_cons.1 hx with h | h
    · omega
    · have := (HF0.out x h).2
      omega, (Kb.of_below hb1 F).below_ hbb, fun x hx => by
    rcases List.mem_cons.1 hx with h | h
    · right
      omega
    · exact .inl (HSUB.out x h)⟩
  clear hb1 ho1 hbox hE1
  obtain ⟨W2, hW2⟩ : ∃ W2, w1.alloc (.cells #[gp gd, .slice none 0 0, .bool false] 77) = W2 := ⟨_, rfl⟩
  rw [hW2, ← hGL] at hos
  have HS2 := Shut.mk hos
  have HHAS := Shut.mk (has_calls HS2.out.ld (by have := HO.out.n; omega) ⟨#[109, 97, 110, 105, 102, 101, 115, 116, 46, 110, 101, 119]⟩)
  rw [show look d.S (ByteArray.mk #[109, 97, 110, 105, 102, 101, 115, 116, 46, 110, 101, 119]).data.toList = look d.S freshN from rfl] at HHAS
  clear hos hbb
  go_wp2_with fail
  rw [← hGL]
  clear hW2 hGL
  refine HHAS.out.mono ?_
  rintro e w3 ⟨rfl, hb3⟩
  have HS3 := Shut.mk (HS2.out.quiet hb3)
  clear hb3
  by_cases hfr : (look d.S freshN).isSome = true
  · rw [hfr]
    obtain ⟨E4, hE4⟩ : ∃ E4, E4 = (dDel d freshN).1 := ⟨_, rfl⟩
    obtain ⟨d4, hd4⟩ : ∃ d4, d4 = (dDel d freshN).2 := ⟨_, rfl⟩
    have hrf := fresh_remove HS3.out.ld HO.out.ok
    rw [← hE4, ← hd4] at hrf
    have HRF := Shut.mk hrf
    have HO4 : Shut (OkN d4 2) := ⟨by rw [hd4]; exact HO.out.del _⟩
    have HSZ4 : Shut (∀ s, look d4.S s ≠ none → s.length ≤ 100) := ⟨fun s hs => HSZ.out s (dDel_look (by rw [← hd4]; exact hs))⟩
    have hgo : gOpen d = if E4 = 0 then gOpen1 d4 else (E4, [], d4) := by
      rw [hE4, hd4]
      exact if_pos hfr
    clear hrf hE4 hd4
    by_cases hE : E4 = 0
    · have HGO := Shut.mk (hgo.trans (if_pos hE))
      clear hgo
      subst hE
      go_wp2_with fail
      refine HRF.out.mono ?_
      rintro e w4 ⟨rfl, hst⟩
      obtain ⟨H4, hs4⟩ := HS3.out.step hst
      have HS4 := Shut.mk hs4
      clear hst hs4
      obtain ⟨Fr, hDr, _⟩ := HS4.out.ld.disk
      cases hlk : look d4.S manN with
      | none =>
        have HRM4 := Shut.mk (man_none hDr hlk)
        clear hDr
        go_wp2_with fail
        refine HRM4.out.mono ?_
        rintro e w5 ⟨A5, c5, rfl, hb5⟩
        have HS5 := Shut.mk (HS4.out.quiet hb5)
        clear hb5
        obtain ⟨F5, hD5, _⟩ := HS5.out.ld.disk
        obtain ⟨LN, hLN⟩ : ∃ LN, LN = (lsD d4).length := ⟨_, rfl⟩
        have hls5 := dd_ls hD5 (by have := HO4.out.n; omega)
        rw [← hLN] at hls5
        have HLN := Shut.mk hLN
        have HLS := Shut.mk hls5
        clear hD5 hls5 hLN
        go_wp2_with fail
        refine HLS.out.mono ?_
        rintro e w6 ⟨v6, rfl, ho6, hb6, _⟩
        obtain ⟨A6, c6, rfl, _⟩ := ho6.form
        have HS6 := Shut.mk (HS5.out.quiet hb6)
        clear ho6 hb6
        by_cases h0 : LN = 0
        · subst h0
          have HG1 := Shut.mk (HGO.out.trans (gOpen1_new hlk (List.eq_nil_of_length_eq_zero HLN.out.symm)))
          have hb7 : Below w6.heap.size w6 (w6.alloc (.cells #[.int .i64 1] 3)) := (Below.refl _ w6).alloc (Nat.le_refl _) _
          have HS7 := Shut.mk (HS6.out.quiet hb7)
          have hzs6 := HS6.out.ld.zs
          have hman := man_calls HS7.out.ld HO4.out (some ⟨w6.heap.size, 0, none⟩) 1 [1] (show Rd _ _ (its [1]) from rd_new w6 #[.int .i64 1] 3) ⟨Nat.le_refl _, fun a ha => by cases ha; rfl⟩ (fun a ha => by
            cases ha
            exact ⟨fun hx => by have := HS6.out.lt _ hx; simp at this, hzs6, by simp⟩) (by decide) (by decide) (by decide)
          rw [lWrite_e, lWrite_d] at hman
          obtain ⟨E8, hE8⟩ : ∃ E8, E8 = (dWr d4 [1]).1 := ⟨_, rfl⟩
          obtain ⟨d8, hd8⟩ : ∃ d8, d8 = (dWr d4 [1]).2 := ⟨_, rfl⟩
          obtain ⟨l8, hl8⟩ : ∃ l8, l8 = (lWrite d4 [] false [1]).2.2.1 := ⟨_, rfl⟩
          obtain ⟨dead8, hdd8⟩ : ∃ dead8, dead8 = (lWrite d4 [] false [1]).2.2.2 := ⟨_, rfl⟩
          rw [← hE8, ← hd8, ← hl8, ← hdd8] at hman
          rw [← hE8, ← hd8] at HG1
          have HMAN := Shut.mk hman
          have HX : Shut (∀ x ∈ blkOf (some (⟨w6.heap.size, 0, none⟩ : Addr)) ++ H4, x ∈ H4 ∨ w.heap.size ≤ x) := ⟨fun x hx => by
            rcases List.mem_append.1 hx with h | h
            · right
              rw [show x = w6.heap.size by simpa [blkOf] using h]
              exact HS6.out.kb.size
            · exact .inl h⟩
          clear hman hE8 hd8 hl8 hdd8 hb7 hzs6
          by_cases hE8 : E8 = 0
          · subst hE8
            go_wp2_with fail
            refine HMAN.out.mono ?_
            rintro e w8 ⟨rfl, hst⟩
            obtain ⟨H8, hs8⟩ := HS7.out.stepW HX.out hst
            have HS8 := Shut.mk hs8
            clear hst hs8
            go_wp2_with fail
            go_ret3
            rw [HG1.out]
            exact HS8.out.fin (Recs.nil _ _ _) GL
          · go_wp2_with fail
            refine HMAN.out.mono ?_
            rintro e w8 ⟨rfl, hst⟩
            obtain ⟨H8, hs8⟩ := HS7.out.stepW HX.out hst
            have HS8 := Shut.mk hs8
            clear hst hs8
            go_wp2_with fail
            go_ret3
            rw [HG1.out]
            exact HS8.out.bad hE8
        · have HG1 := Shut.mk (HGO.out.trans (gOpen1_odd hlk (fun e => h0 (by rw [HLN.out, e]; rfl))))
          have hLI : (0 : Int) < (LN : Int) := by omega
          go_wp2_with fail
          go_ret3
          rw [HG1.out]
          exact HS6.out.bad (by decide)
      | some p =>
        obtain ⟨b, sy⟩ := p
        have hmr := man_read hDr hlk
        obtain ⟨NB, hNB⟩ : ∃ NB, NB = b.length := ⟨_, rfl⟩
        rw [← hNB] at hmr
        have HRM4 := Shut.mk hmr
        have HNB := Shut.mk hNB
        have hblen : NB ≤ 1048576 := by rw [hNB]; exact (HS4.out.ld.lens hlk).2
        clear hDr hmr hNB
        go_wp2_with fail
        refine HRM4.out.mono ?_
        rintro e w5 ⟨A5, c5, rfl, ho5, hb5⟩
        have HS5 := Shut.mk (HS4.out.quiet hb5)
        have HRB5 := Shut.mk (rdb_own _ ho5)
        have hac5 : NB ≤ c5 := by
          obtain ⟨A6, c6, e6, _, h6, _⟩ := ho5.form
          cases e6
          exact h6
        have HPA := Shut.mk (parse_any A5 c5 NB b w5 HRB5.out HNB.out.symm hac5 hblen HS5.out.ld.tb.k HS5.out.ld.tb.b)
        clear ho5 hb5
        go_wp2_with fail
        refine HPA.out.mono ?_
        rintro e w6 ⟨hb6, hor⟩
        have HS6 := Shut.mk (HS5.out.quiet hb6)
        have hs56 := hb6.size
        rcases hor with ⟨hp, rfl⟩ | ⟨ss, g6, c6, hp, rfl, ho6, hg6⟩
        · have HG1 := Shut.mk (HGO.out.trans (gOpen1_bad hlk hp))
          obtain ⟨hs7, t7, fr1, v1, t1⟩ := HS6.out.setl (A := none) (c := 0) (l' := []) (fun hne => absurd rfl hne) ⟨Nat.le_refl _, fun a ha => by cases ha⟩ (fun a ha => by cases ha)
          have HS7 := Shut.mk hs7
          simp only [List.length_nil] at t7 HS7
          clear hs7 hb6 hp
          go_wp2_with fail
          go_ret3
          rw [HG1.out]
          exact HS7.out.bad (by decide)
        · have hgo2 := HGO.out.trans (gOpen1_rmv hlk hp)
          obtain ⟨hgood, hssne, hss5⟩ := prsL_some hp
          obtain ⟨N, hN⟩ : ∃ N, N = ss.length := ⟨_, rfl⟩
          have hpos : 1 ≤ N := by rw [hN]; exact List.length_pos_iff.2 hssne
          have hrd6 : Rd w6 (some ⟨g6, 0, none⟩) (its ss) := by
            obtain ⟨A8, c8, e8, hr8, _⟩ := ho6.form
            cases e8
            exact hr8
          have hcap6 : ss.length ≤ c6 := by
            obtain ⟨A8, c8, e8, _, h8, _⟩ := ho6.form
            cases e8
            exact h8
          have hg6lt := ho6.block_lt (g := g6) rfl
          have hw5 := HS5.out.kb.size
          have hz5 := HS5.out.ld.zs
          obtain ⟨hs7, t7, fr1, v1, t1⟩ := HS6.out.setl hrd6 (c := c6) ⟨hcap6, fun a ha => by cases ha; rfl⟩ (fun a ha => by
            cases ha
            exact ⟨fun hx => by have := HS5.out.lt _ hx; simp only at this; omega, by show w.heap.size ≤ g6; omega, hg6lt, by show Z ≤ g6; omega⟩)
          rw [← hN] at hs7 t7 hss5 hcap6 ⊢
          obtain ⟨W7, hW7⟩ : ∃ W7, w6.setCell ⟨GL, 1, none⟩ (.slice (some ⟨g6, 0, none⟩) N c6) = W7 := ⟨_, rfl⟩
          rw [hW7] at hs7 t7
          obtain ⟨H7, hH7⟩ : ∃ H7, H7 = blkOf (some (⟨g6, 0, none⟩ : Addr)) ++ H4 := ⟨_, rfl⟩
          rw [← hH7] at hs7
          have HS7 := Shut.mk hs7
          have HN := Shut.mk hN
          have HGO2 := Shut.mk hgo2
          have HGD := Shut.mk (And.intro hgood hssne)
          have hsg := segments_calls HS7.out.ld (fun n hn => (hgood.2 n hn).2) (by rw [← hN]; omega)
          rw [← hN] at hsg
          have HSG := Shut.mk hsg
          clear hsg hgo2 hgood hssne hN hs7 hH7 ho6 hrd6 hb6 hp hg6 hg6lt hw5 hz5 hs56
          go_wp2_with fail
          refine HSG.out.mono ?_
          rintro e w8 ⟨v8, rfl, ho8, hb8, hn8⟩
          have HB8 := Shut.mk hb8
          have HO8 := Shut.mk ho8
          have HN8 := Shut.mk hn8
          have hs8 := hb8.size
          clear ho8 hb8 hn8 hW7 t1 fr1 t7
          go_wp2_with (at_builtin; refine wpList_append _ rfl _ _ _ rfl 9 i0 _ 1 16 Tryz.underlying51 hi hz0 hz1 hz2 rfl (by decide) _ _ _ rfl (HO8.out.alloc _) _ 1 1 _ rfl (by rfl) (rd_new w8 _ 9) (by simp [Value.oneCell']) (by simp only [maxLen]; omega) (by omega) ?_; intro v9 w9 hap9)
          have hmine : (ss.map seg).map Proofs.encStr ++ [Value.string ⟨#[109, 97, 110, 105, 102, 101, 115, 116]⟩] = (mineL ss).map Proofs.encStr := by
            rw [mineL, List.map_append]
            rfl
          have HO9 := Shut.mk (hap9.own.cast rfl hmine)
          have HMLEN : Shut ((mineL ss).length = N + 1) := ⟨by rw [mineL, List.length_append, List.length_map, ← HN.out]; rfl⟩
          have HB9 : Shut (Below W7.heap.size W7 w9) := ⟨(HB8.out.alloc hs8 _).grown hap9.grown (by simp; omega) HN8.out⟩
          have HN9 : Shut (∀ g, v9.ownBlock = some g → W7.heap.size ≤ g) := ⟨new_append (by simp; omega) HN8.out hap9.lies⟩
          have HS9 := Shut.mk (HS7.out.quiet HB9.out)
          obtain ⟨F9, hD9, _⟩ := HS9.out.ld.disk
          obtain ⟨M, hM⟩ : ∃ M, M = (lsD d4).length := ⟨_, rfl⟩
          have hls9 := dd_ls hD9 (by have := HO4.out.n; omega)
          rw [← hM] at hls9
          have HLS := Shut.mk hls9
          have HM := Shut.mk hM
          have hs9 := HB9.out.size
          clear hD9 hap9 hmine hls9 hM
          go_wp2_with fail
          refine HLS.out.mono ?_
          rintro e w10 ⟨v10, rfl, ho10, hb10, hn10⟩
          obtain ⟨A10, c10, rfl, hr10, hlc10, hcm10, hob10, _⟩ := ho10.form
          have hMb : M ≤ 9223372036854775807 := by unfold maxLen at hcm10; omega
          have HA10 : Shut (∀ a, A10 = some a → w9.heap.size ≤ a.block) := ⟨fun a ha => hn10 a.block (hob10.trans (by rw [ha]; rfl))⟩
          have HR10 := Shut.mk hr10
          have HS10 := Shut.mk (HS9.out.quiet hb10)
          have HO10 := Shut.mk (HO9.out.below hb10 (fun g hg => HO9.out.block_lt hg))
          clear ho10 hb10 hn10 hr10 hob10 hlc10 hcm10
          obtain ⟨A9, c9, rfl, _⟩ := HO9.out.form
          go_wp2_with fail
          go_loopw [70] (fun i wr => ∃ k : Nat, k ≤ M ∧ i = .int .i64 k ∧ Shut (∃ dk, LStp w10 wr GL gd Z H7 dk ss false ∧ sRmv (mineL ss) d4 (lsD d4) = sRmv (mineL ss) dk ((lsD d4).drop k) ∧ OkN dk 2)) (fun i _ => M - (intOf i).toNat)
          case atStart => exact ⟨0, Nat.zero_le _, rfl, ⟨d4, LStp.same HS10.out.ld, rfl, HO4.out⟩⟩
          case round =>
            obtain ⟨k, hk, rfl, HST⟩ := hrel
            obtain ⟨dk, hst, hsr, hok⟩ := HST.out
            have HSR := Shut.mk hsr
            have HOK := Shut.mk hok
            clear HST hsr hok
            by_cases hlt : k < M
            · have hkl : k < (lsD d4).length := by rw [← HM.out]; exact hlt
              obtain ⟨H11, hL11, hk11, hs11⟩ := hst
              obtain ⟨f, hf⟩ : ∃ f, f = (lsD d4)[k] := ⟨_, rfl⟩
              have hkn : f.length ≤ 100 := by rw [hf]; exact HSZ4.out _ (lsD_mem.1 (List.getElem_mem hkl))
              have hv : ((lsD d4).map Proofs.encStr)[k]? = some (.string ⟨f.toArray⟩) := by
                rw [List.getElem?_map, List.getElem?_eq_getElem hkl, hf]
                rfl
              obtain ⟨a10, hA10, hc10⟩ := HR10.out (fun e => by rw [e] at hv; cases hv)
              subst hA10
              have c0 := hc10 k _ hv
              have c2 : wr.cell? (a10.add k) = some (.string ⟨f.toArray⟩) := (World.cell?_of_block (w := w10) (hk11.block _ (World.block_lt_of_cell? w10 _ c0) (fun hx => by
                rw [block_of_add] at hx
                have h1 := HS7.out.lt _ hx
                have h3 := HA10.out a10 rfl
                omega))).trans c0
              have ho11 : Own wr 9 1 (.slice A9 (N + 1) c9) (N + 1) ((mineL ss).map Proofs.encStr) := hk11.own HO10.out (fun g hg hx => by
                have h1 := HN9.out g hg
                have h2 := HS7.out.lt g hx
                omega)
              have HCON := Shut.mk (contains_names _ (mineL ss) (N + 1) ⟨f.toArray⟩ wr ho11 HMLEN.out)
              rw [show (ByteArray.mk f.toArray).data.toList = f by simp] at HCON
              have HDR : Shut ((lsD d4).drop k = f :: (lsD d4).drop (k + 1)) := ⟨by rw [List.drop_eq_getElem_cons hkl, hf]⟩
              have HL11 := Shut.mk hL11
              have HKS := Shut.mk (And.intro hk11 hs11)
              have hkI : (k : Int) < (M : Int) := by omega
              have hfsz : (ByteArray.mk f.toArray).size ≤ reach := by
                rw [Lib.size_eq]
                simp
                unfold reach
                omega
              obtain ⟨E12, hE12⟩ : ∃ E12, E12 = (dDel dk f).1 := ⟨_, rfl⟩
              obtain ⟨d12, hd12⟩ : ∃ d12, d12 = (dDel dk f).2 := ⟨_, rfl⟩
              have hrmv := ld_remove HL11.out HOK.out.ok ⟨f.toArray⟩ hfsz
              rw [show (ByteArray.mk f.toArray).data.toList = f by simp, ← hE12, ← hd12] at hrmv
              have HRMV := Shut.mk hrmv
              have HO12 : Shut (OkN d12 2) := ⟨by rw [hd12]; exact HOK.out.del _⟩
              have HSX : Shut (sRmv (mineL ss) d4 (lsD d4) = if f ∈ mineL ss then sRmv (mineL ss) dk ((lsD d4).drop (k + 1)) else if E12 = 0 then sRmv (mineL ss) d12 ((lsD d4).drop (k + 1)) else (E12, d12)) := ⟨by
                rw [HSR.out, HDR.out, hE12, hd12]
                rfl⟩
              clear hv hc10 c0 ho11 hL11 hk11 hs11 hf hfsz hrmv hE12 hd12
              go_wp2_with fail
              refine HCON.out.mono ?_
              rintro e w11 ⟨rfl, rfl⟩
              by_cases hin : f ∈ mineL ss
              · rw [decide_eq_true hin]
                have HSY : Shut (∃ dk, LStp w10 w11 GL gd Z H7 dk ss false ∧ sRmv (mineL ss) d4 (lsD d4) = sRmv (mineL ss) dk ((lsD d4).drop (k + 1)) ∧ OkN dk 2) := ⟨dk, ⟨H11, HL11.out, HKS.out.1, HKS.out.2⟩, HSX.out.trans (if_pos hin), HOK.out⟩
                clear hin
                go_wp2_with fail
                go_roundw
                case rel => exact ⟨k + 1, by omega, by go_num, HSY⟩
                case measure => first | (simp [intOf]; done) | (simp [intOf]; omega)
              · rw [decide_eq_false hin]
                have hsx2 := HSX.out.trans (if_neg hin)
                clear hin
                by_cases hE : E12 = 0
                · have HSX2 := Shut.mk (hsx2.trans (if_pos hE))
                  clear hsx2
                  subst hE
                  go_wp2_with fail
                  refine HRMV.out.mono ?_
                  rintro e w12 ⟨rfl, hst⟩
                  have HSY : Shut (∃ dk, LStp w10 w12 GL gd Z H7 dk ss false ∧ sRmv (mineL ss) d4 (lsD d4) = sRmv (mineL ss) dk ((lsD d4).drop (k + 1)) ∧ OkN dk 2) := ⟨d12, LStp.trans HKS.out.1 HKS.out.2 hst, HSX2.out, HO12.out⟩
                  clear hst
                  go_wp2_with fail
                  go_roundw
                  case rel => exact ⟨k + 1, by omega, by go_num, HSY⟩
                  case measure => first | (simp [intOf]; done) | (simp [intOf]; omega)
                · have HSX2 := Shut.mk (hsx2.trans (if_neg hE))
                  clear hsx2
                  go_wp2_with fail
                  refine HRMV.out.mono ?_
                  rintro e w12 ⟨rfl, hst⟩
                  obtain ⟨H12, hs12⟩ := HS10.out.step (LStp.trans HKS.out.1 HKS.out.2 hst)
                  have HS12 := Shut.mk hs12
                  clear hst hs12
                  go_wp2_with fail
                  go_ret3
                  rw [HGO2.out, HSX2.out, if_neg hE]
                  exact HS12.out.bad hE
            · obtain rfl : k = M := by omega
              have hend : sRmv (mineL ss) d4 (lsD d4) = (0, dk) := by
                rw [HSR.out, List.drop_of_length_le (by rw [← HM.out]; exact Nat.le_refl _)]
                rfl
              obtain ⟨H11, hs11⟩ := HS10.out.step hst
              obtain ⟨⟨E13, rs13, d13⟩, hR⟩ : ∃ R, gScan dk ss = R := ⟨_, rfl⟩
              have HG3 : Shut (gOpen d = (E13, rs13, d13)) := ⟨by rw [HGO2.out, hend, if_pos rfl, hR]⟩
              have hsc := scan_any hs11.ld hs11.lt HOK.out HGD.out.2 (fun n hn => (HGD.out.1.2 n hn).2) (by rw [← HN.out]; exact hss5)
              rw [hR] at hsc
              have HSCN : Shut (Calls Tryz.prog 46 #[gp GL] wr fun e w' => ∃ v H' l' dead', e = .returned (.tuple #[v, .int .i64 E13]) ∧ Recs w' wr.heap.size (fun x => wr.heap.size ≤ x ∧ x ∉ H') v rs13 ∧ LStp wr w' GL gd Z H11 d13 l' dead') := ⟨hsc.mono fun e w' ⟨v, H', l', dead', h1, h2, _, h4, h5, h6⟩ => ⟨v, H', l', dead', h1, h2, H', h4, h5, h6⟩⟩
              have HS11 := Shut.mk hs11
              have HGS := Shut.mk hR
              clear hst hend hs11 hR hsc
              by_cases hE : E13 = 0
              · subst hE
                go_wp2_with fail
                refine HSCN.out.mono ?_
                rintro e w13 ⟨v13, H13, l13, dead13, rfl, hrec, hst13⟩
                obtain ⟨H14, hs14⟩ := HS11.out.step hst13
                have HS14 := Shut.mk hs14
                have hk0 := HS11.out.kb.size
                have HREC := Shut.mk (hrec.imp hk0 (fun x hx => Nat.le_trans hk0 hx.1) : Recs w13 w.heap.size (fun x => w.heap.size ≤ x) v13 rs13)
                clear hst13 hs14 hrec hk0
                go_wp2_with fail
                go_ret3
                rw [HG3.out]
                exact HS14.out.fin HREC.out GL
              · go_wp2_with fail
                refine HSCN.out.mono ?_
                rintro e w13 ⟨v13, H13, l13, dead13, rfl, hrec, hst13⟩
                obtain ⟨H14, hs14⟩ := HS11.out.step hst13
                have HS14 := Shut.mk hs14
                have hrs : rs13 = [] := gScan_rs (dk := dk) (ss := ss) HGS.out hE
                clear hst13 hs14 hrec
                go_wp2_with fail
                go_ret3
                rw [HG3.out, hrs]
                exact HS14.out.bad hE
    · have HGO := Shut.mk (hgo.trans (if_neg hE))
      clear hgo
      go_wp2_with fail
      refine HRF.out.mono ?_
      rintro e w4 ⟨rfl, hst⟩
      obtain ⟨H4, hs4⟩ := HS3.out.step hst
      have HS4 := Shut.mk hs4
      clear hst hs4
      go_wp2_with fail
      go_ret3
      rw [HGO.out]
      exact HS4.out.bad hE
  · have HGO : Shut (gOpen d = gOpen1 d) := ⟨if_neg hfr⟩
    rw [Bool.not_eq_true] at hfr
    rw [hfr]
    obtain ⟨Fr, hDr, _⟩ := HS3.out.ld.disk
    cases hlk : look d.S manN with
    | none =>
      have HRM4 := Shut.mk (man_none hDr hlk)
      clear hDr
      go_wp2_with fail
      refine HRM4.out.mono ?_
      rintro e w5 ⟨A5, c5, rfl, hb5⟩
      have HS5 := Shut.mk (HS3.out.quiet hb5)
      clear hb5
      obtain ⟨F5, hD5, _⟩ := HS5.out.ld.disk
      obtain ⟨LN, hLN⟩ : ∃ LN, LN = (lsD d).length := ⟨_, rfl⟩
      have hls5 := dd_ls hD5 (by have := HO.out.n; omega)
      rw [← hLN] at hls5
      have HLN := Shut.mk hLN
      have HLS := Shut.mk hls5
      clear hD5 hls5 hLN
      go_wp2_with fail
      refine HLS.out.mono ?_
      rintro e w6 ⟨v6, rfl, ho6, hb6, _⟩
      obtain ⟨A6, c6, rfl, _⟩ := ho6.form
      have HS6 := Shut.mk (HS5.out.quiet hb6)
      clear ho6 hb6
      by_cases h0 : LN = 0
      · subst h0
        have HG1 := Shut.mk (HGO.out.trans (gOpen1_new hlk (List.eq_nil_of_length_eq_zero HLN.out.symm)))
        have hb7 : Below w6.heap.size w6 (w6.alloc (.cells #[.int .i64 1] 3)) := (Below.refl _ w6).alloc (Nat.le_refl _) _
        have HS7 := Shut.mk (HS6.out.quiet hb7)
        have hzs6 := HS6.out.ld.zs
        have hman := man_calls HS7.out.ld HO.out (some ⟨w6.heap.size, 0, none⟩) 1 [1] (show Rd _ _ (its [1]) from rd_new w6 #[.int .i64 1] 3) ⟨Nat.le_refl _, fun a ha => by cases ha; rfl⟩ (fun a ha => by
          cases ha
          exact ⟨fun hx => by have := HS6.out.lt _ hx; simp at this, hzs6, by simp⟩) (by decide) (by decide) (by decide)
        rw [lWrite_e, lWrite_d] at hman
        obtain ⟨E8, hE8⟩ : ∃ E8, E8 = (dWr d [1]).1 := ⟨_, rfl⟩
        obtain ⟨d8, hd8⟩ : ∃ d8, d8 = (dWr d [1]).2 := ⟨_, rfl⟩
        obtain ⟨l8, hl8⟩ : ∃ l8, l8 = (lWrite d [] false [1]).2.2.1 := ⟨_, rfl⟩
        obtain ⟨dead8, hdd8⟩ : ∃ dead8, dead8 = (lWrite d [] false [1]).2.2.2 := ⟨_, rfl⟩
        rw [← hE8, ← hd8, ← hl8, ← hdd8] at hman
        rw [← hE8, ← hd8] at HG1
        have HMAN := Shut.mk hman
        have HX : Shut (∀ x ∈ blkOf (some (⟨w6.heap.size, 0, none⟩ : Addr)) ++ (GL :: F0), x ∈ (GL :: F0) ∨ w.heap.size ≤ x) := ⟨fun x hx => by
          rcases List.mem_append.1 hx with h | h
          · right
            rw [show x = w6.heap.size by simpa [blkOf] using h]
            exact HS6.out.kb.size
          · exact .inl h⟩
        clear hman hE8 hd8 hl8 hdd8 hb7 hzs6
        by_cases hE8 : E8 = 0
        · subst hE8
          go_wp2_with fail
          refine HMAN.out.mono ?_
          rintro e w8 ⟨rfl, hst⟩
          obtain ⟨H8, hs8⟩ := HS7.out.stepW HX.out hst
          have HS8 := Shut.mk hs8
          clear hst hs8
          go_wp2_with fail
          go_ret3
          rw [HG1.out]
          exact HS8.out.fin (Recs.nil _ _ _) GL
        · go_wp2_with fail
          refine HMAN.out.mono ?_
          rintro e w8 ⟨rfl, hst⟩
          obtain ⟨H8, hs8⟩ := HS7.out.stepW HX.out hst
          have HS8 := Shut.mk hs8
          clear hst hs8
          go_wp2_with fail
          go_ret3
          rw [HG1.out]
          exact HS8.out.bad hE8
      · have HG1 := Shut.mk (HGO.out.trans (gOpen1_odd hlk (fun e => h0 (by rw [HLN.out, e]; rfl))))
        have hLI : (0 : Int) < (LN : Int) := by omega
        go_wp2_with fail
        go_ret3
        rw [HG1.out]
        exact HS6.out.bad (by decide)
    | some p =>
      obtain ⟨b, sy⟩ := p
      have hmr := man_read hDr hlk
      obtain ⟨NB, hNB⟩ : ∃ NB, NB = b.length := ⟨_, rfl⟩
      rw [← hNB] at hmr
      have HRM4 := Shut.mk hmr
      have HNB := Shut.mk hNB
      have hblen : NB ≤ 1048576 := by rw [hNB]; exact (HS3.out.ld.lens hlk).2
      clear hDr hmr hNB
      go_wp2_with fail
      refine HRM4.out.mono ?_
      rintro e w5 ⟨A5, c5, rfl, ho5, hb5⟩
      have HS5 := Shut.mk (HS3.out.quiet hb5)
      have HRB5 := Shut.mk (rdb_own _ ho5)
      have hac5 : NB ≤ c5 := by
        obtain ⟨A6, c6, e6, _, h6, _⟩ := ho5.form
        cases e6
        exact h6
      have HPA := Shut.mk (parse_any A5 c5 NB b w5 HRB5.out HNB.out.symm hac5 hblen HS5.out.ld.tb.k HS5.out.ld.tb.b)
      clear ho5 hb5
      go_wp2_with fail
      refine HPA.out.mono ?_
      rintro e w6 ⟨hb6, hor⟩
      have HS6 := Shut.mk (HS5.out.quiet hb6)
      have hs56 := hb6.size
      rcases hor with ⟨hp, rfl⟩ | ⟨ss, g6, c6, hp, rfl, ho6, hg6⟩
      · have HG1 := Shut.mk (HGO.out.trans (gOpen1_bad hlk hp))
        obtain ⟨hs7, t7, fr1, v1, t1⟩ := HS6.out.setl (A := none) (c := 0) (l' := []) (fun hne => absurd rfl hne) ⟨Nat.le_refl _, fun a ha => by cases ha⟩ (fun a ha => by cases ha)
        have HS7 := Shut.mk hs7
        simp only [List.length_nil] at t7 HS7
        clear hs7 hb6 hp
        go_wp2_with fail
        go_ret3
        rw [HG1.out]
        exact HS7.out.bad (by decide)
      · have hgo2 := HGO.out.trans (gOpen1_rmv hlk hp)
        obtain ⟨hgood, hssne, hss5⟩ := prsL_some hp
        obtain ⟨N, hN⟩ : ∃ N, N = ss.length := ⟨_, rfl⟩
        have hpos : 1 ≤ N := by rw [hN]; exact List.length_pos_iff.2 hssne
        have hrd6 : Rd w6 (some ⟨g6, 0, none⟩) (its ss) := by
          obtain ⟨A8, c8, e8, hr8, _⟩ := ho6.form
          cases e8
          exact hr8
        have hcap6 : ss.length ≤ c6 := by
          obtain ⟨A8, c8, e8, _, h8, _⟩ := ho6.form
          cases e8
          exact h8
        have hg6lt := ho6.block_lt (g := g6) rfl
        have hw5 := HS5.out.kb.size
        have hz5 := HS5.out.ld.zs
        obtain ⟨hs7, t7, fr1, v1, t1⟩ := HS6.out.setl hrd6 (c := c6) ⟨hcap6, fun a ha => by cases ha; rfl⟩ (fun a ha => by
          cases ha
          exact ⟨fun hx => by have := HS5.out.lt _ hx; simp only at this; omega, by show w.heap.size ≤ g6; omega, hg6lt, by show Z ≤ g6; omega⟩)
        rw [← hN] at hs7 t7 hss5 hcap6 ⊢
        obtain ⟨W7, hW7⟩ : ∃ W7, w6.setCell ⟨GL, 1, none⟩ (.slice (some ⟨g6, 0, none⟩) N c6) = W7 := ⟨_, rfl⟩
        rw [hW7] at hs7 t7
        obtain ⟨H7, hH7⟩ : ∃ H7, H7 = blkOf (some (⟨g6, 0, none⟩ : Addr)) ++ (GL :: F0) := ⟨_, rfl⟩
        rw [← hH7] at hs7
        have HS7 := Shut.mk hs7
        have HN := Shut.mk hN
        have HGO2 := Shut.mk hgo2
        have HGD := Shut.mk (And.intro hgood hssne)
        have hsg := segments_calls HS7.out.ld (fun n hn => (hgood.2 n hn).2) (by rw [← hN]; omega)
        rw [← hN] at hsg
        have HSG := Shut.mk hsg
        clear hsg hgo2 hgood hssne hN hs7 hH7 ho6 hrd6 hb6 hp hg6 hg6lt hw5 hz5 hs56
        go_wp2_with fail
        refine HSG.out.mono ?_
        rintro e w8 ⟨v8, rfl, ho8, hb8, hn8⟩
        have HB8 := Shut.mk hb8
        have HO8 := Shut.mk ho8
        have HN8 := Shut.mk hn8
        have hs8 := hb8.size
        clear ho8 hb8 hn8 hW7 t1 fr1 t7
        go_wp2_with (at_builtin; refine wpList_append _ rfl _ _ _ rfl 9 i0 _ 1 16 Tryz.underlying51 hi hz0 hz1 hz2 rfl (by decide) _ _ _ rfl (HO8.out.alloc _) _ 1 1 _ rfl (by rfl) (rd_new w8 _ 9) (by simp [Value.oneCell']) (by simp only [maxLen]; omega) (by omega) ?_; intro v9 w9 hap9)
        have hmine : (ss.map seg).map Proofs.encStr ++ [Value.string ⟨#[109, 97, 110, 105, 102, 101, 115, 116]⟩] = (mineL ss).map Proofs.encStr := by
          rw [mineL, List.map_append]
          rfl
        have HO9 := Shut.mk (hap9.own.cast rfl hmine)
        have HMLEN : Shut ((mineL ss).length = N + 1) := ⟨by rw [mineL, List.length_append, List.length_map, ← HN.out]; rfl⟩
        have HB9 : Shut (Below W7.heap.size W7 w9) := ⟨(HB8.out.alloc hs8 _).grown hap9.grown (by simp; omega) HN8.out⟩
        have HN9 : Shut (∀ g, v9.ownBlock = some g → W7.heap.size ≤ g) := ⟨new_append (by simp; omega) HN8.out hap9.lies⟩
        have HS9 := Shut.mk (HS7.out.quiet HB9.out)
        obtain ⟨F9, hD9, _⟩ := HS9.out.ld.disk
        obtain ⟨M, hM⟩ : ∃ M, M = (lsD d).length := ⟨_, rfl⟩
        have hls9 := dd_ls hD9 (by have := HO.out.n; omega)
        rw [← hM] at hls9
        have HLS := Shut.mk hls9
        have HM := Shut.mk hM
        have hs9 := HB9.out.size
        clear hD9 hap9 hmine hls9 hM
        go_wp2_with fail
        refine HLS.out.mono ?_
        rintro e w10 ⟨v10, rfl, ho10, hb10, hn10⟩
        obtain ⟨A10, c10, rfl, hr10, hlc10, hcm10, hob10, _⟩ := ho10.form
        have hMb : M ≤ 9223372036854775807 := by unfold maxLen at hcm10; omega
        have HA10 : Shut (∀ a, A10 = some a → w9.heap.size ≤ a.block) := ⟨fun a ha => hn10 a.block (hob10.trans (by rw [ha]; rfl))⟩
        have HR10 := Shut.mk hr10
        have HS10 := Shut.mk (HS9.out.quiet hb10)
        have HO10 := Shut.mk (HO9.out.below hb10 (fun g hg => HO9.out.block_lt hg))
        clear ho10 hb10 hn10 hr10 hob10 hlc10 hcm10
        obtain ⟨A9, c9, rfl, _⟩ := HO9.out.form
        go_wp2_with fail
        go_loopw [70] (fun i wr => ∃ k : Nat, k ≤ M ∧ i = .int .i64 k ∧ Shut (∃ dk, LStp w10 wr GL gd Z H7 dk ss false ∧ sRmv (mineL ss) d (lsD d) = sRmv (mineL ss) dk ((lsD d).drop k) ∧ OkN dk 2)) (fun i _ => M - (intOf i).toNat)
        case atStart => exact ⟨0, Nat.zero_le _, rfl, ⟨d, LStp.same HS10.out.ld, rfl, HO.out⟩⟩
        case round =>
          obtain ⟨k, hk, rfl, HST⟩ := hrel
          obtain ⟨dk, hst, hsr, hok⟩ := HST.out
          have HSR := Shut.mk hsr
          have HOK := Shut.mk hok
          clear HST hsr hok
          by_cases hlt : k < M
          · have hkl : k < (lsD d).length := by rw [← HM.out]; exact hlt
            obtain ⟨H11, hL11, hk11, hs11⟩ := hst
            obtain ⟨f, hf⟩ : ∃ f, f = (lsD d)[k] := ⟨_, rfl⟩
            have hkn : f.length ≤ 100 := by rw [hf]; exact HSZ.out _ (lsD_mem.1 (List.getElem_mem hkl))
            have hv : ((lsD d).map Proofs.encStr)[k]? = some (.string ⟨f.toArray⟩) := by
              rw [List.getElem?_map, List.getElem?_eq_getElem hkl, hf]
              rfl
            obtain ⟨a10, hA10, hc10⟩ := HR10.out (fun e => by rw [e] at hv; cases hv)
            subst hA10
            have c0 := hc10 k _ hv
            have c2 : wr.cell? (a10.add k) = some (.string ⟨f.toArray⟩) := (World.cell?_of_block (w := w10) (hk11.block _ (World.block_lt_of_cell? w10 _ c0) (fun hx => by
              rw [block_of_add] at hx
              have h1 := HS7.out.lt _ hx
              have h3 := HA10.out a10 rfl
              omega))).trans c0
            have ho11 : Own wr 9 1 (.slice A9 (N + 1) c9) (N + 1) ((mineL ss).map Proofs.encStr) := hk11.own HO10.out (fun g hg hx => by
              have h1 := HN9.out g hg
              have h2 := HS7.out.lt g hx
              omega)
            have HCON := Shut.mk (contains_names _ (mineL ss) (N + 1) ⟨f.toArray⟩ wr ho11 HMLEN.out)
            rw [show (ByteArray.mk f.toArray).data.toList = f by simp] at HCON
            have HDR : Shut ((lsD d).drop k = f :: (lsD d).drop (k + 1)) := ⟨by rw [List.drop_eq_getElem_cons hkl, hf]⟩
            have HL11 := Shut.mk hL11
            have HKS := Shut.mk (And.intro hk11 hs11)
            have hkI : (k : Int) < (M : Int) := by omega
            have hfsz : (ByteArray.mk f.toArray).size ≤ reach := by
              rw [Lib.size_eq]
              simp
              unfold reach
              omega
            obtain ⟨E12, hE12⟩ : ∃ E12, E12 = (dDel dk f).1 := ⟨_, rfl⟩
            obtain ⟨d12, hd12⟩ : ∃ d12, d12 = (dDel dk f).2 := ⟨_, rfl⟩
            have hrmv := ld_remove HL11.out HOK.out.ok ⟨f.toArray⟩ hfsz
            rw [show (ByteArray.mk f.toArray).data.toList = f by simp, ← hE12, ← hd12] at hrmv
            have HRMV := Shut.mk hrmv
            have HO12 : Shut (OkN d12 2) := ⟨by rw [hd12]; exact HOK.out.del _⟩
            have HSX : Shut (sRmv (mineL ss) d (lsD d) = if f ∈ mineL ss then sRmv (mineL ss) dk ((lsD d).drop (k + 1)) else if E12 = 0 then sRmv (mineL ss) d12 ((lsD d).drop (k + 1)) else (E12, d12)) := ⟨by
              rw [HSR.out, HDR.out, hE12, hd12]
              rfl⟩
            clear hv hc10 c0 ho11 hL11 hk11 hs11 hf hfsz hrmv hE12 hd12
            go_wp2_with fail
            refine HCON.out.mono ?_
            rintro e w11 ⟨rfl, rfl⟩
            by_cases hin : f ∈ mineL ss
            · rw [decide_eq_true hin]
              have HSY : Shut (∃ dk, LStp w10 w11 GL gd Z H7 dk ss false ∧ sRmv (mineL ss) d (lsD d) = sRmv (mineL ss) dk ((lsD d).drop (k + 1)) ∧ OkN dk 2) := ⟨dk, ⟨H11, HL11.out, HKS.out.1, HKS.out.2⟩, HSX.out.trans (if_pos hin), HOK.out⟩
              clear hin
              go_wp2_with fail
              go_roundw
              case rel => exact ⟨k + 1, by omega, by go_num, HSY⟩
              case measure => first | (simp [intOf]; done) | (simp [intOf]; omega)
            · rw [decide_eq_false hin]
              have hsx2 := HSX.out.trans (if_neg hin)
              clear hin
              by_cases hE : E12 = 0
              · have HSX2 := Shut.mk (hsx2.trans (if_pos hE))
                clear hsx2
                subst hE
                go_wp2_with fail
                refine HRMV.out.mono ?_
                rintro e w12 ⟨rfl, hst⟩
                have HSY : Shut (∃ dk, LStp w10 w12 GL gd Z H7 dk ss false ∧ sRmv (mineL ss) d (lsD d) = sRmv (mineL ss) dk ((lsD d).drop (k + 1)) ∧ OkN dk 2) := ⟨d12, LStp.trans HKS.out.1 HKS.out.2 hst, HSX2.out, HO12.out⟩
                clear hst
                go_wp2_with fail
                go_roundw
                case rel => exact ⟨k + 1, by omega, by go_num, HSY⟩
                case measure => first | (simp [intOf]; done) | (simp [intOf]; omega)
              · have HSX2 := Shut.mk (hsx2.trans (if_neg hE))
                clear hsx2
                go_wp2_with fail
                refine HRMV.out.mono ?_
                rintro e w12 ⟨rfl, hst⟩
                obtain ⟨H12, hs12⟩ := HS10.out.step (LStp.trans HKS.out.1 HKS.out.2 hst)
                have HS12 := Shut.mk hs12
                clear hst hs12
                go_wp2_with fail
                go_ret3
                rw [HGO2.out, HSX2.out, if_neg hE]
                exact HS12.out.bad hE
          · obtain rfl : k = M := by omega
            have hend : sRmv (mineL ss) d (lsD d) = (0, dk) := by
              rw [HSR.out, List.drop_of_length_le (by rw [← HM.out]; exact Nat.le_refl _)]
              rfl
            obtain ⟨H11, hs11⟩ := HS10.out.step hst
            obtain ⟨⟨E13, rs13, d13⟩, hR⟩ : ∃ R, gScan dk ss = R := ⟨_, rfl⟩
            have HG3 : Shut (gOpen d = (E13, rs13, d13)) := ⟨by rw [HGO2.out, hend, if_pos rfl, hR]⟩
            have hsc := scan_any hs11.ld hs11.lt HOK.out HGD.out.2 (fun n hn => (HGD.out.1.2 n hn).2) (by rw [← HN.out]; exact hss5)
            rw [hR] at hsc
            have HSCN : Shut (Calls Tryz.prog 46 #[gp GL] wr fun e w' => ∃ v H' l' dead', e = .returned (.tuple #[v, .int .i64 E13]) ∧ Recs w' wr.heap.size (fun x => wr.heap.size ≤ x ∧ x ∉ H') v rs13 ∧ LStp wr w' GL gd Z H11 d13 l' dead') := ⟨hsc.mono fun e w' ⟨v, H', l', dead', h1, h2, _, h4, h5, h6⟩ => ⟨v, H', l', dead', h1, h2, H', h4, h5, h6⟩⟩
            have HS11 := Shut.mk hs11
            have HGS := Shut.mk hR
            clear hst hend hs11 hR hsc
            by_cases hE : E13 = 0
            · subst hE
              go_wp2_with fail
              refine HSCN.out.mono ?_
              rintro e w13 ⟨v13, H13, l13, dead13, rfl, hrec, hst13⟩
              obtain ⟨H14, hs14⟩ := HS11.out.step hst13
              have HS14 := Shut.mk hs14
              have hk0 := HS11.out.kb.size
              have HREC := Shut.mk (hrec.imp hk0 (fun x hx => Nat.le_trans hk0 hx.1) : Recs w13 w.heap.size (fun x => w.heap.size ≤ x) v13 rs13)
              clear hst13 hs14 hrec hk0
              go_wp2_with fail
              go_ret3
              rw [HG3.out]
              exact HS14.out.fin HREC.out GL
            · go_wp2_with fail
              refine HSCN.out.mono ?_
              rintro e w13 ⟨v13, H13, l13, dead13, rfl, hrec, hst13⟩
              obtain ⟨H14, hs14⟩ := HS11.out.step hst13
              have HS14 := Shut.mk hs14
              have hrs : rs13 = [] := gScan_rs (dk := dk) (ss := ss) HGS.out hE
              clear hst13 hs14 hrec
              go_wp2_with fail
              go_ret3
              rw [HG3.out, hrs]
              exact HS14.out.bad hE
end
end Go.Proofs.YtmlfeljhojmbbaaGreatDoor
