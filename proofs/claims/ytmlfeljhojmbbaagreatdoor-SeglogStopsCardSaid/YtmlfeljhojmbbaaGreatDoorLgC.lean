/- Walk: the log's scan, where all segments but the last are whole, on a disk that does every change (printed by wip/genlg9.py). -/
import Derived.Test.YtmlfeljhojmbbaaGreatDoorLgB
namespace Go.Proofs.YtmlfeljhojmbbaaGreatDoor
open Go.RowKit Go.Maps Go.Sort
set_option linter.unusedSimpArgs false
set_option linter.unusedVariables false
set_option maxRecDepth 100000

/-- the disk behind scan's cut -/
def dScut (d : Ds) (n : Nat) : Ds := if wl d n = (cont d n).length then d else (dCut d (seg n) (wl d n)).2
section
variable {w w' : World} {gl gd Z : Nat} {H : List Nat} {d : Ds} {l : List Nat} {dead : Bool}
set_option maxHeartbeats 2000000 in
theorem scan_calls (h : LD w gl gd Z H d l dead) (hH : ∀ x ∈ H, x < w.heap.size) {NN UU : Nat} (hN9 : NN ≤ 700000000) (hc : Calm d NN UU) (hl : l ≠ []) (hwh : ∀ k, (hk : k + 1 < l.length) → whole d l[k]) (h9 : ∀ n ∈ l, n ≤ 99999999) (hm : l.length ≤ 1000) :
    Calls Tryz.prog 46 #[gp gl] w fun e w' => ∃ v H', e = .returned (.tuple #[v, .int .i64 0]) ∧ Recs w' w.heap.size (fun x => w.heap.size ≤ x ∧ x ∉ H') v (recsL d l) ∧ (∀ g, v.ownBlock = some g → g ∉ H') ∧
      LD w' gl gd Z H' (dSyncs (dScut d (l.getLast hl)) (l.map seg)) l dead ∧ Kb w w' H ∧ (∀ x ∈ H', x ∈ H ∨ w.heap.size ≤ x) ∧ Calm (dSyncs (dScut d (l.getLast hl)) (l.map seg)) NN UU := by
  obtain ⟨i0, hi, hz0, hz1, hz2⟩ := info_parts info_rows
  have hnil := fun (W : World) (g n c : Nat) => Lib.run_eql_slice_nil (P := Tryz.prog) W 27 5 (some ⟨g, 0, none⟩) n c 0 0 Tryz.underlying27
  have hnil2 := fun (W : World) => Lib.run_eql_slice_nil (P := Tryz.prog) W 27 5 none 0 0 0 0 Tryz.underlying27
  obtain ⟨A, c, q1, g2, hlc, hgl, g3⟩ := h.row
  obtain ⟨N, hN⟩ : ∃ N, N = l.length := ⟨_, rfl⟩
  rw [← hN] at q1 hm hlc
  have hlc := hlc.1
  have hpos : 0 < N := by rw [hN]; exact List.length_pos_iff.2 hl
  have hrecle : ∀ n, (rdL (cont d n)).length ≤ 30000 := fun n => by
    have h1 := rdL_many _ (cont d n) (Nat.le_refl _)
    have h2 := rdL_len (cont d n)
    have h3 := h.cont_le n
    omega
  have HR := Shut.mk g2
  have HL := Shut.mk h
  have HHL := Shut.mk hH
  have HC := Shut.mk hc
  have HWH := Shut.mk hwh
  have HLL := Shut.mk h9
  have HN := Shut.mk hN
  have HRC := Shut.mk hrecle
  have HQ1 := Shut.mk q1
  obtain ⟨cy, rfl⟩ : ∃ cy, c = N + cy := ⟨c - N, by omega⟩
  clear h g2 g3 hlc hH hc hwh h9 hN hrecle
  go_enter Tryz.func46, Tryz.ntmps46
  go_wp2_with fail
  go_loopw [4, 21] (fun u i wr => ∃ k : Nat, k ≤ N ∧ i = .int .i64 k ∧ Below w.heap.size w wr ∧ (∀ j, (hj : j < l.length) → j < k → whole d l[j]) ∧
    Shut (Recs wr w.heap.size (fun x => w.heap.size ≤ x) u (recsL d (l.take k))) ∧ (recsL d (l.take k)).length ≤ 30000 * k) (fun _ i _ => N - (intOf i).toNat)
  case atStart => exact ⟨0, Nat.zero_le _, rfl, Below.refl _ _, fun j _ h => by omega, ⟨Recs.nil _ _ _⟩, Nat.le_refl _⟩
  case round =>
    obtain ⟨k, hk, rfl, hbr, hwk, HREC, hcnt⟩ := hrel
    obtain ⟨Av, cv, rfl⟩ : ∃ Av cv, u4 = .slice Av (recsL d (l.take k)).length cv := by
      obtain ⟨vs, hov, _⟩ := HREC.out
      obtain ⟨Av, cv, h, _⟩ := hov.form
      exact ⟨Av, cv, h⟩
    have hsz := hbr.size
    have HLR := Shut.mk (HL.out.quiet hbr)
    by_cases hlt : k < N
    · have hkl : k < l.length := by rw [← HN.out]; exact hlt
      obtain ⟨a, hA, hcc⟩ := HR.out (its_ne (fun e => by rw [e] at hkl; simp at hkl))
      subst hA
      have c0 := hcc k _ (its_get hkl)
      have c2 := (hbr.cell (World.block_lt_of_cell? w _ c0)).trans c0
      obtain ⟨n, hn⟩ : ∃ n, n = l[k] := ⟨_, rfl⟩
      have hn9 : n ≤ 99999999 := by rw [hn]; exact HLL.out _ (List.getElem_mem _)
      rw [← hn] at c2
      have HTK : Shut (recsL d (l.take (k + 1)) = recsL d (l.take k) ++ rdL (cont d n)) := ⟨by
        rw [List.take_succ_eq_append_getElem hkl, recsL, List.flatMap_append, ← hn]
        simp [recsL]⟩
      have HNK := Shut.mk hn
      have HBR := Shut.mk hbr
      have HWK := Shut.mk hwk
      obtain ⟨b, hb⟩ : ∃ b, b = cont d n := ⟨_, rfl⟩
      have HBN := Shut.mk hb
      have hblen : b.length ≤ 1048576 := by rw [hb]; exact HL.out.cont_le n
      obtain ⟨NB, hNB⟩ : ∃ NB, NB = b.length := ⟨_, rfl⟩
      have HNB := Shut.mk hNB
      rw [← hNB] at hblen
      have hcn := HRC.out n
      rw [← hb] at HTK hcn
      have hkI : (k : Int) < (N : Int) := by omega
      have s0 := HLR.out.c0
      have HF := Shut.mk (file_calls n wr.drew hn9 (HLR.out.quiet (w' := wr.drew) ((Below.refl _ wr).drew)).tb.p)
      clear hcc c0 hn hbr hwk hb hNB
      go_wp2_with fail
      go_region_held3 (fun w' => w'.cell? ⟨gl, 0, none⟩ = some (gp gd)) (first | exact s0 | exact t0 | exact t1 | go_keep)
        (first
          | (go_at_call 49; refine HF.out.mono ?_; rintro e w4 ⟨rfl, hb4⟩; have HB4 := Shut.mk (HBR.out.trans ((below_drewR (w := wr) hb4).mono HBR.out.size)); have HB4R := Shut.mk (below_drewR (w := wr) hb4); have HL4 := Shut.mk (HL.out.quiet HB4.out); have t0 := HL4.out.c0)
          | (go_at_call 40; refine (seg_read HL4.out n hn9).mono ?_; rintro e w5 ⟨A5, c5, E5, rfl, _, ho5, hb5, hn5⟩; have HB5 := Shut.mk (HB4.out.trans (hb5.mono HB4.out.size)); have HB5R := Shut.mk (HB4R.out.trans (hb5.mono HB4R.out.size)); have HL5 := Shut.mk (HL.out.quiet HB5.out); have t1 := HL5.out.c0; have HO5 := Shut.mk ho5; have HN5 := Shut.mk (fun g hg => Nat.le_trans (below_drewR (w := wr) hb4).size (hn5 g hg)); clear hb5 hn5 ho5))
      rw [← HBN.out] at HO5 ⊢
      rw [← HNB.out] at HO5 ⊢
      have hac5 : NB ≤ c5 := by
        obtain ⟨A6, c6, e6, _, h6, _⟩ := HO5.out.form
        cases e6
        exact h6
      obtain ⟨cx, rfl⟩ : ∃ cx, c5 = NB + cx := ⟨c5 - NB, by omega⟩
      have HRB5 := Shut.mk (rdb_own _ HO5.out)
      have HFI := Shut.mk (first_calls A5 (NB + cx) NB b w5 HRB5.out HNB.out.symm hac5 hblen HL5.out.tb.k HL5.out.tb.b)
      clear s0 t0 t1
      go_wp2_with fail
      refine HFI.out.mono ?_
      rintro e w6 ⟨hb6, hor⟩
      have hr0 : ∃ r, e = .returned r ∧ ((fstL b = none ∧ r = .slice none 0 0) ∨ ∃ x g c', fstL b = some x ∧ r = .slice (some ⟨g, 0, none⟩) x.length c' ∧ Own w6 5 1 r x.length (bys x) ∧ w5.heap.size ≤ g) := by
        rcases hor with ⟨h1, h2⟩ | ⟨x, g, c', h1, h2, h3, h4⟩
        · exact ⟨_, h2, .inl ⟨h1, rfl⟩⟩
        · exact ⟨_, h2, .inr ⟨x, g, c', h1, rfl, h3, h4⟩⟩
      obtain ⟨r6, rfl, hor6⟩ := hr0
      have HB6 := Shut.mk (HB5.out.trans (hb6.mono HB5.out.size))
      have HB6R := Shut.mk (HB5R.out.trans (hb6.mono HB5R.out.size))
      have HOR6 := Shut.mk hor6
      have HRC6 := Shut.mk (HREC.out.quiet HB6R.out)
      have HA5 : Shut (∀ a, A5 = some a → wr.heap.size ≤ a.block) := ⟨fun a ha => by
        obtain ⟨A6, c6, e6, _, _, _, h6, _⟩ := HO5.out.form
        injection e6 with e6
        rw [← e6] at h6
        refine HN5.out a.block (Eq.trans ?_ (h6.trans (by rw [ha]; rfl)))
        cases A5 <;> rfl⟩
      have HAR : Shut (∀ g, (Value.slice Av (recsL d (l.take k)).length cv).ownBlock = some g → ∀ a, A5 = some a → a.block ≠ g) := ⟨fun g hg a ha e => by
        obtain ⟨vs, hov, _⟩ := HREC.out
        have h1 := hov.block_lt hg
        have h2 := HA5.out a ha
        omega⟩
      have HRB6 := Shut.mk (HRB5.out.keep hb6)
      have hs56 := HB5.out.size
      have hs66 := HB6.out.size
      clear hb6 hor hor6
      go_wp2_with fail
      go_loopw [4, 9, 10] (fun u at_ r wr2 => ∃ done : List (List UInt8), at_ = .int .i64 ((frs done).length : Int) ∧ Shut (rdL b = done ++ rdL (b.drop (frs done).length)) ∧ (frs done).length ≤ NB ∧ 41 * done.length ≤ (frs done).length ∧ Below w.heap.size w wr2 ∧ Shut (RdB wr2 A5 b) ∧
        Shut (Recs wr2 w.heap.size (fun x => w.heap.size ≤ x) u (recsL d (l.take k) ++ done)) ∧ Shut (∀ g, u.ownBlock = some g → ∀ a, A5 = some a → a.block ≠ g) ∧
        ((fstL (b.drop (frs done).length) = none ∧ r = .slice none 0 0) ∨ ∃ x g c', fstL (b.drop (frs done).length) = some x ∧ r = .slice (some ⟨g, 0, none⟩) x.length c' ∧ Own wr2 5 1 r x.length (bys x) ∧ w.heap.size ≤ g ∧ Shut (u.ownBlock ≠ some g))) (fun _ i _ _ => NB - (intOf i).toNat)
      case atStart =>
        refine ⟨[], rfl, ⟨rfl⟩, Nat.zero_le _, Nat.le_refl _, HB6.out, HRB6, by rw [List.append_nil]; exact HRC6, HAR, ?_⟩
        rcases HOR6.out with h | ⟨x, g, c', h1, h2, h3, h4⟩
        · exact .inl h
        · refine .inr ⟨x, g, c', h1, h2, h3, by omega, ⟨fun e => ?_⟩⟩
          obtain ⟨vs, hov, _⟩ := HREC.out
          have h5 := hov.block_lt e
          have h7 := HB5R.out.size
          omega
      case round =>
        obtain ⟨done, rfl, hrd, hdn, hdc, hb7, HRB7, HREC7, HAR7, hor7⟩ := hrel
        have hs77 := hb7.size
        rcases hor7 with ⟨hf7, rfl⟩ | ⟨x, g, c', hf7, rfl, hox, hgx, HGX⟩
        · -- the last of this segment
          have hdone : rdL b = done := by rw [hrd.out, rdL_none hf7, List.append_nil]
          have HDN := Shut.mk hdone
          have HB7 := Shut.mk hb7
          have HWL : Shut (wl d n = (frs done).length) := ⟨by rw [wl, ← HBN.out, hdone]⟩
          obtain ⟨AT, hAT⟩ : ∃ AT, AT = (frs done).length := ⟨_, rfl⟩
          have HATE := Shut.mk hAT
          rw [← hAT] at hdn hdc HWL ⊢
          have HEQ2 : Shut (recsL d (l.take k) ++ done = recsL d (l.take (k + 1))) := ⟨by rw [HTK.out, hdone]⟩
          have hcl : (recsL d (l.take (k + 1))).length ≤ 30000 * (k + 1) := by
            rw [HTK.out, List.length_append]
            omega
          clear hrd hf7 hb7 hdone hAT
          by_cases hwhole : AT = NB
          · subst hwhole
            have HWN : Shut (whole d n) := ⟨by unfold whole; rw [HWL.out, ← HBN.out, HNB.out]⟩
            go_wp2_with fail
            go_roundw
            case rel =>
              refine ⟨k + 1, by omega, by go_num, HB7.out, fun j hj hjk => ?_, ⟨by rw [← HEQ2.out]; exact HREC7.out⟩, hcl⟩
              by_cases hjk2 : j < k
              · exact HWK.out j hj hjk2
              · obtain rfl : j = k := by omega
                rw [← HNK.out]
                exact HWN.out
            case measure => first | (simp [intOf]; done) | (simp [intOf]; omega)
          · have hlast : k + 1 = N := by
              rcases Nat.lt_or_ge (k + 1) N with hlt2 | hge
              · exfalso
                have h1 := HWH.out k (by rw [← HN.out]; exact hlt2)
                rw [← HNK.out] at h1
                unfold whole at h1
                rw [HWL.out, ← HBN.out, ← HNB.out] at h1
                exact hwhole h1
              · omega
            -- what is behind the last whole record goes
            have hrp := HLR.out.row
            subst hlast
            have HBE : Shut (look d.S (seg n) ≠ none) := ⟨fun e => by
              have h1 := HBN.out
              unfold cont at h1
              rw [e] at h1
              have h2 := HNB.out
              rw [h1] at h2
              simp at h2
              omega⟩
            have HLST : Shut (l.getLast hl = n) := ⟨by rw [List.getLast_eq_getElem, HNK.out]; congr 1; rw [← HN.out]; omega⟩
            have HQ7 := Shut.mk ((HB7.out.cell (p := ⟨gl, 1, none⟩) hgl).trans HQ1.out)
            have HL7 := Shut.mk (HL.out.quiet HB7.out)
            have q7 := HQ7.out
            obtain ⟨d2, hd2⟩ : ∃ d2, d2 = (dCut d (seg n) (AT : Int)).2 := ⟨_, rfl⟩
            have hcc : (dCut d (seg n) (AT : Int)).1 = 0 ∧ Calm d2 NN UU := by
              cases hlk : look d.S (seg n) with
              | none => exact absurd hlk HBE.out
              | some p =>
                obtain ⟨b0, sy0⟩ := p
                have hb0 : b0 = b := by
                  rw [HBN.out, cont, hlk]
                  rfl
                rcases cut_cases HC.out.liv HC.out.key hlk (k := AT) (by rw [hb0, ← HNB.out]; exact hdn) with ⟨_, h0⟩ | ⟨d', e, v, _, f, S', n'⟩
                · have := HC.out.f
                  omega
                · rw [hd2, e]
                  exact ⟨rfl, v, f HC.out.f, by unfold Key7; rw [S']; exact keys_setF HC.out.key _ _ _⟩
            obtain ⟨hce, hcalm2⟩ := hcc
            have HCE := Shut.mk hce
            have HC12 := Shut.mk hcalm2
            have HDS : Shut (dScut d (l.getLast hl) = d2) := ⟨by rw [HLST.out, dScut, HWL.out, if_neg (by rw [← HBN.out, ← HNB.out]; exact hwhole), hd2]⟩
            have HD2 := Shut.mk hd2
            have HCUT : Shut (∀ w10, Below w.heap.size w w10 → Calls Tryz.prog 26 #[gp gd, .string (segS n), .int .i64 (AT : Int)] w10 fun e w' => e = .returned (.int .i64 0) ∧ LStp w10 w' gl gd Z H d2 l dead) := ⟨fun w10 hb => by
              have := seg_cut (HL.out.quiet hb) (HC.out.liv.okN 0 (by omega)).ok n hn9 (AT : Int)
              rw [hce, ← hd2] at this
              exact this⟩
            clear hce hcalm2 hd2 hrp
            go_wp2_with fail
            all_goals refine (sh_CloneI0 _ _ _).mono ?_
            all_goals rintro e w9 ⟨v9, rfl, hro9, _, hb9⟩
            all_goals obtain ⟨A9, c9, rfl, _⟩ := (own_row hro9).1.form
            all_goals have HB9 := Shut.mk (HB7.out.trans (hb9.mono HB7.out.size))
            all_goals have HB9R := Shut.mk hb9
            all_goals have HL9 := Shut.mk (HL.out.quiet HB9.out)
            all_goals have s0 := HL9.out.c0
            all_goals have HF := Shut.mk (file_calls n w9.drew hn9 (HL9.out.quiet (w' := w9.drew) ((Below.refl _ w9).drew)).tb.p)
            all_goals clear hro9 hb9 q7
            all_goals go_wp2_with fail
            · go_region_held3 (fun w' => w'.cell? ⟨gl, 0, none⟩ = some (gp gd)) (first | exact s0 | exact t0 | exact t1 | go_keep)
                (first
                  | (go_at_call 49; refine HF.out.mono ?_; rintro e w10 ⟨rfl, hb10⟩; have HB10 := Shut.mk (HB9.out.trans ((below_drewR (w := w9) hb10).mono HB9.out.size)); have HB10R := Shut.mk (HB9R.out.trans ((below_drewR (w := w9) hb10).mono HB9R.out.size)); have HL10 := Shut.mk (HL.out.quiet HB10.out); have t0 := HL10.out.c0; clear hb10)
                  | (go_at_call 26; refine (HCUT.out w10 HB10.out).mono ?_; rintro e w12 ⟨rfl, H12, hL11, hk12, hs11⟩; obtain ⟨H13, hL12, hsub, hlt13⟩ := hL11.trim; have HHS13 := Shut.mk hlt13; have hs12 : ∀ x ∈ H13, x ∈ H ∨ w10.heap.size ≤ x := fun x hx => hs11 x (hsub x hx); have HL12 := Shut.mk hL12; have t1 := HL12.out.c0; have HK12 := Shut.mk (And.intro hk12 hs12); clear hL12 hk12 hs12 hL11 hs11 hsub hlt13))
              clear s0 t0 t1
              have HKB12 : Shut (Kb w w12 H) := ⟨(Kb.of_below HB10.out H).trans HK12.out.1 (fun x hx => .inl hx)⟩
              have hs10 := HB10R.out.size
              have hs12 := HK12.out.1.size
              have HP0 : Shut (∀ x, (w.heap.size ≤ x ∧ x < wr.heap.size) → w.heap.size ≤ x ∧ x ∉ H13) := ⟨fun x hx => ⟨hx.1, fun hx2 => by
                rcases HK12.out.2 x hx2 with h | h
                · have := HHL.out x h
                  omega
                · omega⟩⟩
              have HHL13 : Shut (∀ x ∈ H13, x ∈ H ∨ w10.heap.size ≤ x) := HK12.out.2 |> Shut.mk
              have HUX := HREC7.out
              rw [HEQ2.out, List.take_of_length_le (by rw [← HN.out]; exact Nat.le_refl _)] at HUX
              have HU0 : Shut (∀ g, u4.ownBlock = some g → g < w12.heap.size ∧ g ∉ H13) := ⟨fun g hg => by
                obtain ⟨vs, hov, _, hlo⟩ := HUX
                have h1 := hov.block_lt hg
                have h2 := hlo g hg
                exact ⟨by omega, (HP0.out g ⟨h2, h1⟩).2⟩⟩
              have HRC12 : Shut (Recs w12 w.heap.size (fun x => w.heap.size ≤ x ∧ x < wr.heap.size) u4 (recsL d l)) := ⟨(HUX.bound.quiet HB10R.out).kept HK12.out.1 (fun g hg hx => by
                obtain ⟨vs, hov, _, hlo⟩ := HUX
                have h2 := hlo g hg
                have := HHL.out g hx
                omega) (fun x hx _ hx2 => by have := HHL.out x hx2; omega)⟩
              clear HUX
              obtain ⟨Av, cv, rfl⟩ : ∃ Av cv, u4 = .slice Av (recsL d l).length cv := by
                obtain ⟨vs, hov, _⟩ := HRC12.out
                obtain ⟨Av, cv, h, _⟩ := hov.form
                exact ⟨Av, cv, h⟩
              -- the syncs
              have HSEG := Shut.mk (segments_calls HL12.out HLL.out (by rw [HN.out] at hm; omega))
              go_wp2_with fail
              refine HSEG.out.mono ?_
              rintro e w20 ⟨v20, rfl, ho20, hb20, hn20⟩
              obtain ⟨A20, c20, rfl, hr20, _, _, hob20, _⟩ := ho20.form
              have HA20 : Shut (∀ a, A20 = some a → w12.heap.size ≤ a.block) := ⟨fun a ha => hn20 a.block (hob20.trans (by rw [ha]; rfl))⟩
              have HR20 := Shut.mk hr20
              have HL20 := Shut.mk (HL12.out.quiet hb20)
              have HB20 := Shut.mk hb20
              have HRW20 := Shut.mk (HRC12.out.quiet hb20)
              have HSZ20 := hb20.size
              clear ho20 hb20 hn20 hr20 hob20
              rw [← HN.out]
              go_wp2_with fail
              go_loopw [102] (fun i wr => ∃ q : Nat, q ≤ (k + 1) ∧ i = .int .i64 q ∧ Shut (LStp w20 wr gl gd Z H13 (dSyncs d2 ((l.take q).map seg)) l dead ∧ Calm (dSyncs d2 ((l.take q).map seg)) NN UU)) (fun i _ => (k + 1) - (intOf i).toNat)
              case atStart => exact ⟨0, Nat.zero_le _, rfl, ⟨LStp.same HL20.out, HC12.out⟩⟩
              case round =>
                obtain ⟨q, hk, rfl, HST⟩ := hrel
                by_cases hlt : q < (k + 1)
                · have hql : q < l.length := by rw [← HN.out]; exact hlt
                  obtain ⟨hst, hcalm⟩ := HST.out
                  obtain ⟨H21, hL21, hk21, hs21⟩ := hst
                  obtain ⟨n, hn⟩ : ∃ n, n = l[q] := ⟨_, rfl⟩
                  have hn9 : n ≤ 99999999 := by rw [hn]; exact HLL.out _ (List.getElem_mem _)
                  have hv : ((l.map seg).map Proofs.encStr)[q]? = some (.string (segS n)) := by
                    rw [List.getElem?_map, List.getElem?_map, List.getElem?_eq_getElem hql, hn]
                    rfl
                  obtain ⟨a20, hA20, hc20⟩ := HR20.out (fun e => by rw [e] at hv; cases hv)
                  subst hA20
                  have c0 := hc20 q _ hv
                  have c2 : wr.cell? (a20.add q) = some (.string (segS n)) := (World.cell?_of_block (w := w20) (hk21.block _ (World.block_lt_of_cell? w20 _ c0) (fun hx => by
                    rw [block_of_add] at hx
                    have h1 := HHS13.out _ hx
                    have h3 := HA20.out a20 rfl
                    omega))).trans c0
                  have hstep := syn_calm hcalm (seg n)
                  have hnx : dSyncs d2 ((l.take (q + 1)).map seg) = dSyn (dSyncs d2 ((l.take q).map seg)) (seg n) := by
                    rw [List.take_succ_eq_append_getElem hql, List.map_append, dSyncs, List.foldl_append, ← hn]
                    rfl
                  have HL21 := Shut.mk hL21
                  have HC21 := Shut.mk hcalm
                  have HKS21 := Shut.mk (And.intro hk21 hs21)
                  have HNX := Shut.mk hnx
                  have HSP := Shut.mk hstep
                  have hkI : (q : Int) < ((k + 1) : Int) := by omega
                  obtain ⟨dk, hdk⟩ : ∃ dk, dk = dSyncs d2 ((l.take q).map seg) := ⟨_, rfl⟩
                  rw [← hdk] at HL21 HC21 HNX HSP HST
                  have hOK : dk.Ok := (HC21.out.liv.okN 0 (by omega)).ok
                  have HOK := Shut.mk hOK
                  clear hc20 c0 hv hn hcalm hL21 hk21 hs21 hstep hnx hdk hOK
                  go_wp2_with fail
                  refine (seg_has HL21.out (by have := HOK.out.n; omega) n).mono ?_
                  rintro e w22 ⟨rfl, hb22⟩
                  have HL22 := Shut.mk (HL21.out.quiet hb22)
                  have HB22 := Shut.mk hb22
                  clear hb22
                  by_cases hlk : (look dk.S (seg n)).isSome = true
                  · rw [hlk]
                    have s0 := HL22.out.c0
                    have h62 : (dSync dk (seg n)).1 = 0 := HSP.out.2.2.1 hlk
                    have h63 : dSyn dk (seg n) = (dSync dk (seg n)).2 := if_pos hlk
                    have HSY := Shut.mk (seg_sync HL22.out HOK.out n hn9)
                    rw [h62, ← h63] at HSY
                    clear h62 h63
                    go_wp2_with fail
                    refine HSY.out.mono ?_
                    rintro e w23 ⟨rfl, H23, hL23, hk23, hs23⟩
                    have HS23 := Shut.mk (LStp.trans (HKS21.out.1.below_ HB22.out) HKS21.out.2 (⟨H23, hL23, hk23, fun x hx => hs23 x hx⟩ : LStp w22 w23 gl gd Z H21 (dSyn dk (seg n)) l dead))
                    clear hL23 hk23 hs23 s0
                    go_wp2_with fail
                    go_roundw
                    case rel => exact ⟨q + 1, by omega, by go_num, ⟨by rw [HNX.out]; exact HS23.out, by rw [HNX.out]; exact HSP.out.1⟩⟩
                    case measure => first | (simp [intOf]; done) | (simp [intOf]; omega)
                  · rw [Bool.not_eq_true] at hlk
                    rw [hlk]
                    have h63 : dSyn dk (seg n) = dk := if_neg (by rw [hlk]; simp)
                    have HS23 := Shut.mk (LStp.trans (HKS21.out.1.below_ HB22.out) HKS21.out.2 (LStp.same HL22.out))
                    rw [h63] at HNX HSP
                    clear h63
                    go_wp2_with fail
                    go_roundw
                    case rel => exact ⟨q + 1, by omega, by go_num, ⟨by rw [HNX.out]; exact HS23.out, by rw [HNX.out]; exact HSP.out.1⟩⟩
                    case measure => first | (simp [intOf]; done) | (simp [intOf]; omega)
                · obtain rfl : q = (k + 1) := by omega
                  obtain ⟨hst, hcalm⟩ := HST.out
                  rw [List.take_of_length_le (by rw [← HN.out]; exact Nat.le_refl _)] at hst hcalm
                  obtain ⟨H21, hL21, hk21, hs21⟩ := hst
                  have HF := Shut.mk (And.intro hL21 (And.intro hk21 (And.intro hs21 hcalm)))
                  clear hL21 hk21 hs21 hcalm
                  go_wp2_with fail
                  go_ret2
                  obtain ⟨hL21, hk21, hs21, hcalm⟩ := HF.out
                  rw [HDS.out]
                  have hq : ∀ x, x < w20.heap.size → x ∉ H13 → x ∉ H21 := fun x h1 h2 hx => by
                    rcases hs21 x hx with h | h
                    · exact h2 h
                    · omega
                  have hrecs := (HRW20.out.bound.kept hk21 (fun g hg => (HU0.out g hg).2) (fun x hx _ => (HP0.out x hx.1).2)).imp (Nat.le_refl _) (P' := fun x => w.heap.size ≤ x ∧ x ∉ H21) (fun x hx => ⟨(HP0.out x hx.1).1, hq x hx.2 (HP0.out x hx.1).2⟩)
                  refine ⟨_, H21, rfl, hrecs, fun g hg => hq g (by have := (HU0.out g hg).1; omega) (HU0.out g hg).2, hL21, (HKB12.out.below_ HB20.out).trans hk21 (fun x hx => (HHL13.out x hx).imp id (fun h => by have := HB10.out.size; omega)), fun x hx => (hs21 x hx).elim (fun h => (HHL13.out x h).imp id (fun h => by have := HB10.out.size; omega)) (fun h => .inr (by have := HKB12.out.size; omega)), hcalm⟩
            · go_region_held3 (fun w' => w'.cell? ⟨gl, 0, none⟩ = some (gp gd)) (first | exact s0 | exact t0 | exact t1 | go_keep)
                (first
                  | (go_at_call 49; refine HF.out.mono ?_; rintro e w10 ⟨rfl, hb10⟩; have HB10 := Shut.mk (HB9.out.trans ((below_drewR (w := w9) hb10).mono HB9.out.size)); have HB10R := Shut.mk (HB9R.out.trans ((below_drewR (w := w9) hb10).mono HB9R.out.size)); have HL10 := Shut.mk (HL.out.quiet HB10.out); have t0 := HL10.out.c0; clear hb10)
                  | (go_at_call 26; refine (HCUT.out w10 HB10.out).mono ?_; rintro e w12 ⟨rfl, H12, hL11, hk12, hs11⟩; obtain ⟨H13, hL12, hsub, hlt13⟩ := hL11.trim; have HHS13 := Shut.mk hlt13; have hs12 : ∀ x ∈ H13, x ∈ H ∨ w10.heap.size ≤ x := fun x hx => hs11 x (hsub x hx); have HL12 := Shut.mk hL12; have t1 := HL12.out.c0; have HK12 := Shut.mk (And.intro hk12 hs12); clear hL12 hk12 hs12 hL11 hs11 hsub hlt13))
              clear s0 t0 t1
              have HKB12 : Shut (Kb w w12 H) := ⟨(Kb.of_below HB10.out H).trans HK12.out.1 (fun x hx => .inl hx)⟩
              have hs10 := HB10R.out.size
              have hs12 := HK12.out.1.size
              have HP0 : Shut (∀ x, (w.heap.size ≤ x ∧ x < wr.heap.size) → w.heap.size ≤ x ∧ x ∉ H13) := ⟨fun x hx => ⟨hx.1, fun hx2 => by
                rcases HK12.out.2 x hx2 with h | h
                · have := HHL.out x h
                  omega
                · omega⟩⟩
              have HHL13 : Shut (∀ x ∈ H13, x ∈ H ∨ w10.heap.size ≤ x) := HK12.out.2 |> Shut.mk
              have HUX := HREC7.out
              rw [HEQ2.out, List.take_of_length_le (by rw [← HN.out]; exact Nat.le_refl _)] at HUX
              have HU0 : Shut (∀ g, u4.ownBlock = some g → g < w12.heap.size ∧ g ∉ H13) := ⟨fun g hg => by
                obtain ⟨vs, hov, _, hlo⟩ := HUX
                have h1 := hov.block_lt hg
                have h2 := hlo g hg
                exact ⟨by omega, (HP0.out g ⟨h2, h1⟩).2⟩⟩
              have HRC12 : Shut (Recs w12 w.heap.size (fun x => w.heap.size ≤ x ∧ x < wr.heap.size) u4 (recsL d l)) := ⟨(HUX.bound.quiet HB10R.out).kept HK12.out.1 (fun g hg hx => by
                obtain ⟨vs, hov, _, hlo⟩ := HUX
                have h2 := hlo g hg
                have := HHL.out g hx
                omega) (fun x hx _ hx2 => by have := HHL.out x hx2; omega)⟩
              clear HUX
              obtain ⟨Av, cv, rfl⟩ : ∃ Av cv, u4 = .slice Av (recsL d l).length cv := by
                obtain ⟨vs, hov, _⟩ := HRC12.out
                obtain ⟨Av, cv, h, _⟩ := hov.form
                exact ⟨Av, cv, h⟩
              -- the syncs
              have HSEG := Shut.mk (segments_calls HL12.out HLL.out (by rw [HN.out] at hm; omega))
              go_wp2_with fail
              refine HSEG.out.mono ?_
              rintro e w20 ⟨v20, rfl, ho20, hb20, hn20⟩
              obtain ⟨A20, c20, rfl, hr20, _, _, hob20, _⟩ := ho20.form
              have HA20 : Shut (∀ a, A20 = some a → w12.heap.size ≤ a.block) := ⟨fun a ha => hn20 a.block (hob20.trans (by rw [ha]; rfl))⟩
              have HR20 := Shut.mk hr20
              have HL20 := Shut.mk (HL12.out.quiet hb20)
              have HB20 := Shut.mk hb20
              have HRW20 := Shut.mk (HRC12.out.quiet hb20)
              have HSZ20 := hb20.size
              clear ho20 hb20 hn20 hr20 hob20
              rw [← HN.out]
              go_wp2_with fail
              go_loopw [102] (fun i wr => ∃ q : Nat, q ≤ (k + 1) ∧ i = .int .i64 q ∧ Shut (LStp w20 wr gl gd Z H13 (dSyncs d2 ((l.take q).map seg)) l dead ∧ Calm (dSyncs d2 ((l.take q).map seg)) NN UU)) (fun i _ => (k + 1) - (intOf i).toNat)
              case atStart => exact ⟨0, Nat.zero_le _, rfl, ⟨LStp.same HL20.out, HC12.out⟩⟩
              case round =>
                obtain ⟨q, hk, rfl, HST⟩ := hrel
                by_cases hlt : q < (k + 1)
                · have hql : q < l.length := by rw [← HN.out]; exact hlt
                  obtain ⟨hst, hcalm⟩ := HST.out
                  obtain ⟨H21, hL21, hk21, hs21⟩ := hst
                  obtain ⟨n, hn⟩ : ∃ n, n = l[q] := ⟨_, rfl⟩
                  have hn9 : n ≤ 99999999 := by rw [hn]; exact HLL.out _ (List.getElem_mem _)
                  have hv : ((l.map seg).map Proofs.encStr)[q]? = some (.string (segS n)) := by
                    rw [List.getElem?_map, List.getElem?_map, List.getElem?_eq_getElem hql, hn]
                    rfl
                  obtain ⟨a20, hA20, hc20⟩ := HR20.out (fun e => by rw [e] at hv; cases hv)
                  subst hA20
                  have c0 := hc20 q _ hv
                  have c2 : wr.cell? (a20.add q) = some (.string (segS n)) := (World.cell?_of_block (w := w20) (hk21.block _ (World.block_lt_of_cell? w20 _ c0) (fun hx => by
                    rw [block_of_add] at hx
                    have h1 := HHS13.out _ hx
                    have h3 := HA20.out a20 rfl
                    omega))).trans c0
                  have hstep := syn_calm hcalm (seg n)
                  have hnx : dSyncs d2 ((l.take (q + 1)).map seg) = dSyn (dSyncs d2 ((l.take q).map seg)) (seg n) := by
                    rw [List.take_succ_eq_append_getElem hql, List.map_append, dSyncs, List.foldl_append, ← hn]
                    rfl
                  have HL21 := Shut.mk hL21
                  have HC21 := Shut.mk hcalm
                  have HKS21 := Shut.mk (And.intro hk21 hs21)
                  have HNX := Shut.mk hnx
                  have HSP := Shut.mk hstep
                  have hkI : (q : Int) < ((k + 1) : Int) := by omega
                  obtain ⟨dk, hdk⟩ : ∃ dk, dk = dSyncs d2 ((l.take q).map seg) := ⟨_, rfl⟩
                  rw [← hdk] at HL21 HC21 HNX HSP HST
                  have hOK : dk.Ok := (HC21.out.liv.okN 0 (by omega)).ok
                  have HOK := Shut.mk hOK
                  clear hc20 c0 hv hn hcalm hL21 hk21 hs21 hstep hnx hdk hOK
                  go_wp2_with fail
                  refine (seg_has HL21.out (by have := HOK.out.n; omega) n).mono ?_
                  rintro e w22 ⟨rfl, hb22⟩
                  have HL22 := Shut.mk (HL21.out.quiet hb22)
                  have HB22 := Shut.mk hb22
                  clear hb22
                  by_cases hlk : (look dk.S (seg n)).isSome = true
                  · rw [hlk]
                    have s0 := HL22.out.c0
                    have h62 : (dSync dk (seg n)).1 = 0 := HSP.out.2.2.1 hlk
                    have h63 : dSyn dk (seg n) = (dSync dk (seg n)).2 := if_pos hlk
                    have HSY := Shut.mk (seg_sync HL22.out HOK.out n hn9)
                    rw [h62, ← h63] at HSY
                    clear h62 h63
                    go_wp2_with fail
                    refine HSY.out.mono ?_
                    rintro e w23 ⟨rfl, H23, hL23, hk23, hs23⟩
                    have HS23 := Shut.mk (LStp.trans (HKS21.out.1.below_ HB22.out) HKS21.out.2 (⟨H23, hL23, hk23, fun x hx => hs23 x hx⟩ : LStp w22 w23 gl gd Z H21 (dSyn dk (seg n)) l dead))
                    clear hL23 hk23 hs23 s0
                    go_wp2_with fail
                    go_roundw
                    case rel => exact ⟨q + 1, by omega, by go_num, ⟨by rw [HNX.out]; exact HS23.out, by rw [HNX.out]; exact HSP.out.1⟩⟩
                    case measure => first | (simp [intOf]; done) | (simp [intOf]; omega)
                  · rw [Bool.not_eq_true] at hlk
                    rw [hlk]
                    have h63 : dSyn dk (seg n) = dk := if_neg (by rw [hlk]; simp)
                    have HS23 := Shut.mk (LStp.trans (HKS21.out.1.below_ HB22.out) HKS21.out.2 (LStp.same HL22.out))
                    rw [h63] at HNX HSP
                    clear h63
                    go_wp2_with fail
                    go_roundw
                    case rel => exact ⟨q + 1, by omega, by go_num, ⟨by rw [HNX.out]; exact HS23.out, by rw [HNX.out]; exact HSP.out.1⟩⟩
                    case measure => first | (simp [intOf]; done) | (simp [intOf]; omega)
                · obtain rfl : q = (k + 1) := by omega
                  obtain ⟨hst, hcalm⟩ := HST.out
                  rw [List.take_of_length_le (by rw [← HN.out]; exact Nat.le_refl _)] at hst hcalm
                  obtain ⟨H21, hL21, hk21, hs21⟩ := hst
                  have HF := Shut.mk (And.intro hL21 (And.intro hk21 (And.intro hs21 hcalm)))
                  clear hL21 hk21 hs21 hcalm
                  go_wp2_with fail
                  go_ret2
                  obtain ⟨hL21, hk21, hs21, hcalm⟩ := HF.out
                  rw [HDS.out]
                  have hq : ∀ x, x < w20.heap.size → x ∉ H13 → x ∉ H21 := fun x h1 h2 hx => by
                    rcases hs21 x hx with h | h
                    · exact h2 h
                    · omega
                  have hrecs := (HRW20.out.bound.kept hk21 (fun g hg => (HU0.out g hg).2) (fun x hx _ => (HP0.out x hx.1).2)).imp (Nat.le_refl _) (P' := fun x => w.heap.size ≤ x ∧ x ∉ H21) (fun x hx => ⟨(HP0.out x hx.1).1, hq x hx.2 (HP0.out x hx.1).2⟩)
                  refine ⟨_, H21, rfl, hrecs, fun g hg => hq g (by have := (HU0.out g hg).1; omega) (HU0.out g hg).2, hL21, (HKB12.out.below_ HB20.out).trans hk21 (fun x hx => (HHL13.out x hx).imp id (fun h => by have := HB10.out.size; omega)), fun x hx => (hs21 x hx).elim (fun h => (HHL13.out x h).imp id (fun h => by have := HB10.out.size; omega)) (fun h => .inr (by have := HKB12.out.size; omega)), hcalm⟩

        · -- one more record
          have hox9 := fstL_some hf7
          have hdr : (b.drop (frs done).length).length = NB - (frs done).length := by rw [List.length_drop, ← HNB.out]
          have hxl : 40 + x.length ≤ NB - (frs done).length := by
            have h1 := congrArg List.length hox9.2
            rw [List.length_append, frm_length] at h1
            omega
          have hnx : (frs (done ++ [x])).length = (frs done).length + (40 + x.length) := by rw [frs_append, frs_one, List.length_append, frm_length]
          have HNX := Shut.mk hnx
          have HRD2 : Shut (rdL b = (done ++ [x]) ++ rdL (b.drop (frs (done ++ [x])).length)) := ⟨by
            rw [hrd.out, rdL_some hf7, List.drop_drop, hnx]
            simp⟩
          have hx1 := hox9.1.1
          have hx2 := hox9.1.2
          obtain ⟨XL, hXL⟩ : ∃ XL, XL = x.length := ⟨_, rfl⟩
          have HXL := Shut.mk hXL
          obtain ⟨AT, hAT⟩ : ∃ AT, AT = (frs done).length := ⟨_, rfl⟩
          have HATE := Shut.mk hAT
          rw [← hXL] at hox hxl hx1 hx2 HNX ⊢
          rw [← hAT] at hdn hdc hxl HNX ⊢
          have HOX := Shut.mk hox
          have HB7 := Shut.mk hb7
          have hxc : XL ≤ c' := by
            obtain ⟨A9, c9, e9, _, h9, _⟩ := hox.form
            cases e9
            exact h9
          have hsg : g < wr.heap.size := hox.block_lt rfl
          have hA5 : ∃ a5, A5 = some a5 := by
            obtain ⟨a5, e5, _⟩ := HRB5.out 0 (by rw [← HNB.out]; omega)
            exact ⟨a5, e5⟩
          obtain ⟨a5, rfl⟩ := hA5
          obtain ⟨vs2, ho7, hrw7, hnw7⟩ := HREC7.out
          obtain ⟨A7, c7, rfl, _⟩ := ho7.form
          obtain ⟨RN, hRN⟩ : ∃ RN, RN = (recsL d (l.take k) ++ done).length := ⟨_, rfl⟩
          have HRN := Shut.mk hRN
          have hRNb : RN ≤ 30000 * 1000 + 1048576 := by
            rw [hRN, List.length_append]
            omega
          rw [← hRN] at ho7
          have HO7 := Shut.mk ho7
          have HRW7 := Shut.mk hrw7
          have HNW7 := Shut.mk hnw7
          rw [← hRN] at HRW7 HNW7 HAR7 HGX ⊢
          have HNEXT : Shut (∀ (o : Obj) (v8 : Value) (w8 : World), Appended (wr.alloc o) w8 27 1 (.slice A7 RN c7) v8 RN 1 vs2 [.slice (some ⟨g, 0, none⟩) XL c'] →
              Below w.heap.size w w8 ∧ RdB w8 (some a5) b ∧ Recs w8 w.heap.size (fun x => w.heap.size ≤ x) v8 (recsL d (l.take k) ++ (done ++ [x])) ∧ ∀ q, v8.ownBlock = some q → ∀ a, some a5 = some a → a.block ≠ q) := ⟨by
            intro o v8 w8 hap
            have hkb := kb_appended hap
            have hL : ∀ q, q ∈ (Value.slice A7 RN c7).ownBlock.toList → (Value.slice A7 RN c7).ownBlock = some q := fun q hq => by simpa using hq
            have hap' := hap
            rw [hRN, hXL] at hap'
            refine ⟨hkb.below HB7.out (fun q hq => HNW7.out q (hL q hq)) HB7.out.size, rdB_kept HRB7.out hkb (fun a ha hq => HAR7.out a.block (hL _ hq) a ha rfl), ?_, fun q hq a ha e => ?_⟩
            · rw [← List.append_assoc]
              have h1 := HRW7.out
              have h2 := HNW7.out
              have h3 := HGX.out
              rw [hRN] at h1 h2 h3
              have hown : Own wr 5 1 (.slice (some ⟨g, 0, none⟩) x.length c') x.length (bys x) := by
                rw [← hXL]
                exact HOX.out
              have hown2 := HO7.out
              rw [hRN] at hown2
              refine Recs.append hown2 h1 h2 HB7.out.size hap' (by rw [← hXL]; exact hxc) (rdb_own _ hown) (fun a ha => ?_)
              cases ha
              exact ⟨hgx, hsg, h3⟩
            · rcases hap.lies with h | h
              · exact HAR7.out q (h ▸ hq) a ha e
              · rw [hq] at h
                injection h with h
                rw [World.size_alloc] at h
                cases ha
                obtain ⟨a6, e6, hc6⟩ := HRB7.out 0 (by rw [← HNB.out]; omega)
                cases e6
                have := World.block_lt_of_cell? wr _ hc6
                rw [block_of_add] at this
                omega⟩
          have HFN : Shut ((frs (done ++ [x])).length = AT + (40 + XL)) := HNX
          have HDL : Shut ((b.drop (AT + (40 + XL))).length = NB - (AT + (40 + XL))) := ⟨by rw [List.length_drop, HNB.out]⟩
          clear hrd ho7 hrw7 hnw7 hox hb7 hox9 hdr hnx hXL hAT hRN
          have hatI : (0 : Int) ≤ (AT : Int) := by omega
          go_wp2_with (at_builtin; refine wpList_append _ rfl _ _ _ rfl 27 i0 _ 1 24 Tryz.underlying39 hi hz0 hz1 hz2 rfl (by decide) _ _ _ rfl (HO7.out.alloc _) _ 1 1 _ rfl (by rfl) (rd_new _ _ 27) (by simp [Value.oneCell']) (by simp only [maxLen]; omega) (by omega) ?_; intro v8 w8 hap8)
          · -- the slice at the end of its row
            have hAN : NB - (AT + (40 + XL)) = 0 := by omega
            obtain ⟨hb8, hr8, hrec8, har8⟩ := HNEXT.out _ _ _ hap8
            have hrd9 : RdB w8 (some a5) (b.drop (AT + (40 + XL))) := fun q hq => by rw [HDL.out] at hq; omega
            have HDL2 : Shut ((b.drop (AT + (40 + XL))).length = NB - (NB + cx)) := ⟨by rw [HDL.out, h]⟩
            rw [← h]
            clear h hAN
            have HLW8 := Shut.mk (HL.out.quiet hb8)
            have HB8 := Shut.mk hb8
            have HREC8 := Shut.mk hrec8
            have HAR8 := Shut.mk har8
            have HR8 := Shut.mk hr8
            have hs8 := hb8.size
            have HRD9 := Shut.mk hrd9
            clear hb8 hr8 hrec8 har8 hrd9
            refine (first_calls _ _ (NB - (NB + cx)) (b.drop (AT + (40 + XL))) w8 HRD9.out HDL2.out (by omega) (by omega) HLW8.out.tb.k HLW8.out.tb.b).mono ?_
            rintro e w9 ⟨hb9, hor⟩
            have hr0 : ∃ r, e = .returned r ∧ ((fstL (b.drop (AT + (40 + XL))) = none ∧ r = .slice none 0 0) ∨ ∃ x g c', fstL (b.drop (AT + (40 + XL))) = some x ∧ r = .slice (some ⟨g, 0, none⟩) x.length c' ∧ Own w9 5 1 r x.length (bys x) ∧ w8.heap.size ≤ g) := by
              rcases hor with ⟨h1, h2⟩ | ⟨x, g, c', h1, h2, h3, h4⟩
              · exact ⟨_, h2, .inl ⟨h1, rfl⟩⟩
              · exact ⟨_, h2, .inr ⟨x, g, c', h1, rfl, h3, h4⟩⟩
            obtain ⟨r9, rfl, hor9⟩ := hr0
            have HOR9 := Shut.mk hor9
            have HB9 := Shut.mk hb9
            clear hb9 hor hor9
            go_wp2_with fail
            go_roundw
            case rel =>
              refine ⟨done ++ [x], by rw [HFN.out]; go_num, HRD2, by rw [HFN.out]; omega, by rw [HFN.out, List.length_append, List.length_singleton]; omega, HB8.out.trans (HB9.out.mono HB8.out.size), ⟨HR8.out.keep HB9.out⟩, ⟨HREC8.out.quiet HB9.out⟩, HAR8, ?_⟩
              rw [HFN.out]
              rcases HOR9.out with h | ⟨x9, g9, c9, h1, h2, h3, h4⟩
              · exact .inl h
              · refine .inr ⟨x9, g9, c9, h1, h2, h3, by omega, ⟨fun e => ?_⟩⟩
                obtain ⟨vs9, ho9, _⟩ := HREC8.out
                have h5 := ho9.block_lt e
                omega
            case measure => first | (simp [intOf]; done) | (simp [intOf]; omega)
          · obtain ⟨hb8, hr8, hrec8, har8⟩ := HNEXT.out _ _ _ hap8
            have hrd9 : RdB w8 (some (a5.add (AT + (40 + XL)))) (b.drop (AT + (40 + XL))) := by
              have := rdB_piece hr8 (AT + (40 + XL)) (NB - (AT + (40 + XL)))
              rwa [List.take_of_length_le (by rw [HDL.out]; exact Nat.le_refl _)] at this
            have HLW8 := Shut.mk (HL.out.quiet hb8)
            have HB8 := Shut.mk hb8
            have HREC8 := Shut.mk hrec8
            have HAR8 := Shut.mk har8
            have HR8 := Shut.mk hr8
            have hs8 := hb8.size
            have HRD9 := Shut.mk hrd9
            clear hb8 hr8 hrec8 har8 hrd9
            refine (first_calls _ _ (NB - (AT + (40 + XL))) (b.drop (AT + (40 + XL))) w8 HRD9.out HDL.out (by omega) (by omega) HLW8.out.tb.k HLW8.out.tb.b).mono ?_
            rintro e w9 ⟨hb9, hor⟩
            have hr0 : ∃ r, e = .returned r ∧ ((fstL (b.drop (AT + (40 + XL))) = none ∧ r = .slice none 0 0) ∨ ∃ x g c', fstL (b.drop (AT + (40 + XL))) = some x ∧ r = .slice (some ⟨g, 0, none⟩) x.length c' ∧ Own w9 5 1 r x.length (bys x) ∧ w8.heap.size ≤ g) := by
              rcases hor with ⟨h1, h2⟩ | ⟨x, g, c', h1, h2, h3, h4⟩
              · exact ⟨_, h2, .inl ⟨h1, rfl⟩⟩
              · exact ⟨_, h2, .inr ⟨x, g, c', h1, rfl, h3, h4⟩⟩
            obtain ⟨r9, rfl, hor9⟩ := hr0
            have HOR9 := Shut.mk hor9
            have HB9 := Shut.mk hb9
            clear hb9 hor hor9
            go_wp2_with fail
            go_roundw
            case rel =>
              refine ⟨done ++ [x], by rw [HFN.out]; go_num, HRD2, by rw [HFN.out]; omega, by rw [HFN.out, List.length_append, List.length_singleton]; omega, HB8.out.trans (HB9.out.mono HB8.out.size), ⟨HR8.out.keep HB9.out⟩, ⟨HREC8.out.quiet HB9.out⟩, HAR8, ?_⟩
              rw [HFN.out]
              rcases HOR9.out with h | ⟨x9, g9, c9, h1, h2, h3, h4⟩
              · exact .inl h
              · refine .inr ⟨x9, g9, c9, h1, h2, h3, by omega, ⟨fun e => ?_⟩⟩
                obtain ⟨vs9, ho9, _⟩ := HREC8.out
                have h5 := ho9.block_lt e
                omega
            case measure => first | (simp [intOf]; done) | (simp [intOf]; omega)
    · obtain rfl : k = N := by omega
      have HEQL : Shut (recsL d (l.take k) = recsL d l) := ⟨by rw [List.take_of_length_le (by rw [← HN.out]; exact Nat.le_refl _)]⟩
      have HDS : Shut (dScut d (l.getLast hl) = d) := ⟨by
        have h1 := hwk (l.length - 1) (by rw [← HN.out]; omega) (by rw [← HN.out]; omega)
        rw [← List.getLast_eq_getElem hl] at h1
        exact if_pos h1⟩
      have hrec0 := HREC.out
      rw [HEQL.out] at hrec0 ⊢
      have HRX := Shut.mk hrec0
      have HP0 : Shut (∀ x, w.heap.size ≤ x → w.heap.size ≤ x ∧ x ∉ H) := ⟨fun x hx => ⟨hx, fun hx2 => by have := HHL.out x hx2; omega⟩⟩
      have HU0 : Shut (∀ g, (Value.slice Av (recsL d l).length cv).ownBlock = some g → g < wr.heap.size ∧ g ∉ H) := ⟨fun g hg => by
        obtain ⟨vs, hov, _, hlo⟩ := hrec0
        exact ⟨hov.block_lt hg, (HP0.out g (hlo g hg)).2⟩⟩
      have HBX := Shut.mk hbr
      clear hrec0 hbr hwk
      -- the syncs
      have HSEG := Shut.mk (segments_calls HLR.out HLL.out (by rw [HN.out] at hm; omega))
      go_wp2_with fail
      refine HSEG.out.mono ?_
      rintro e w20 ⟨v20, rfl, ho20, hb20, hn20⟩
      obtain ⟨A20, c20, rfl, hr20, _, _, hob20, _⟩ := ho20.form
      have HA20 : Shut (∀ a, A20 = some a → wr.heap.size ≤ a.block) := ⟨fun a ha => hn20 a.block (hob20.trans (by rw [ha]; rfl))⟩
      have HR20 := Shut.mk hr20
      have HL20 := Shut.mk (HLR.out.quiet hb20)
      have HB20 := Shut.mk hb20
      have HRW20 := Shut.mk (HRX.out.quiet hb20)
      have HSZ20 := hb20.size
      clear ho20 hb20 hn20 hr20 hob20
      rw [← HN.out]
      go_wp2_with fail
      go_loopw [102] (fun i wr => ∃ q : Nat, q ≤ k ∧ i = .int .i64 q ∧ Shut (LStp w20 wr gl gd Z H (dSyncs d ((l.take q).map seg)) l dead ∧ Calm (dSyncs d ((l.take q).map seg)) NN UU)) (fun i _ => k - (intOf i).toNat)
      case atStart => exact ⟨0, Nat.zero_le _, rfl, ⟨LStp.same HL20.out, HC.out⟩⟩
      case round =>
        obtain ⟨q, hk, rfl, HST⟩ := hrel
        by_cases hlt : q < k
        · have hql : q < l.length := by rw [← HN.out]; exact hlt
          obtain ⟨hst, hcalm⟩ := HST.out
          obtain ⟨H21, hL21, hk21, hs21⟩ := hst
          obtain ⟨n, hn⟩ : ∃ n, n = l[q] := ⟨_, rfl⟩
          have hn9 : n ≤ 99999999 := by rw [hn]; exact HLL.out _ (List.getElem_mem _)
          have hv : ((l.map seg).map Proofs.encStr)[q]? = some (.string (segS n)) := by
            rw [List.getElem?_map, List.getElem?_map, List.getElem?_eq_getElem hql, hn]
            rfl
          obtain ⟨a20, hA20, hc20⟩ := HR20.out (fun e => by rw [e] at hv; cases hv)
          subst hA20
          have c0 := hc20 q _ hv
          have c2 : wr.cell? (a20.add q) = some (.string (segS n)) := (World.cell?_of_block (w := w20) (hk21.block _ (World.block_lt_of_cell? w20 _ c0) (fun hx => by
            rw [block_of_add] at hx
            have h1 := HHL.out _ hx
            have h3 := HA20.out a20 rfl
            omega))).trans c0
          have hstep := syn_calm hcalm (seg n)
          have hnx : dSyncs d ((l.take (q + 1)).map seg) = dSyn (dSyncs d ((l.take q).map seg)) (seg n) := by
            rw [List.take_succ_eq_append_getElem hql, List.map_append, dSyncs, List.foldl_append, ← hn]
            rfl
          have HL21 := Shut.mk hL21
          have HC21 := Shut.mk hcalm
          have HKS21 := Shut.mk (And.intro hk21 hs21)
          have HNX := Shut.mk hnx
          have HSP := Shut.mk hstep
          have hkI : (q : Int) < (k : Int) := by omega
          obtain ⟨dk, hdk⟩ : ∃ dk, dk = dSyncs d ((l.take q).map seg) := ⟨_, rfl⟩
          rw [← hdk] at HL21 HC21 HNX HSP HST
          have hOK : dk.Ok := (HC21.out.liv.okN 0 (by omega)).ok
          have HOK := Shut.mk hOK
          clear hc20 c0 hv hn hcalm hL21 hk21 hs21 hstep hnx hdk hOK
          go_wp2_with fail
          refine (seg_has HL21.out (by have := HOK.out.n; omega) n).mono ?_
          rintro e w22 ⟨rfl, hb22⟩
          have HL22 := Shut.mk (HL21.out.quiet hb22)
          have HB22 := Shut.mk hb22
          clear hb22
          by_cases hlk : (look dk.S (seg n)).isSome = true
          · rw [hlk]
            have s0 := HL22.out.c0
            have h62 : (dSync dk (seg n)).1 = 0 := HSP.out.2.2.1 hlk
            have h63 : dSyn dk (seg n) = (dSync dk (seg n)).2 := if_pos hlk
            have HSY := Shut.mk (seg_sync HL22.out HOK.out n hn9)
            rw [h62, ← h63] at HSY
            clear h62 h63
            go_wp2_with fail
            refine HSY.out.mono ?_
            rintro e w23 ⟨rfl, H23, hL23, hk23, hs23⟩
            have HS23 := Shut.mk (LStp.trans (HKS21.out.1.below_ HB22.out) HKS21.out.2 (⟨H23, hL23, hk23, fun x hx => hs23 x hx⟩ : LStp w22 w23 gl gd Z H21 (dSyn dk (seg n)) l dead))
            clear hL23 hk23 hs23 s0
            go_wp2_with fail
            go_roundw
            case rel => exact ⟨q + 1, by omega, by go_num, ⟨by rw [HNX.out]; exact HS23.out, by rw [HNX.out]; exact HSP.out.1⟩⟩
            case measure => first | (simp [intOf]; done) | (simp [intOf]; omega)
          · rw [Bool.not_eq_true] at hlk
            rw [hlk]
            have h63 : dSyn dk (seg n) = dk := if_neg (by rw [hlk]; simp)
            have HS23 := Shut.mk (LStp.trans (HKS21.out.1.below_ HB22.out) HKS21.out.2 (LStp.same HL22.out))
            rw [h63] at HNX HSP
            clear h63
            go_wp2_with fail
            go_roundw
            case rel => exact ⟨q + 1, by omega, by go_num, ⟨by rw [HNX.out]; exact HS23.out, by rw [HNX.out]; exact HSP.out.1⟩⟩
            case measure => first | (simp [intOf]; done) | (simp [intOf]; omega)
        · obtain rfl : q = k := by omega
          obtain ⟨hst, hcalm⟩ := HST.out
          rw [List.take_of_length_le (by rw [← HN.out]; exact Nat.le_refl _)] at hst hcalm
          obtain ⟨H21, hL21, hk21, hs21⟩ := hst
          have HF := Shut.mk (And.intro hL21 (And.intro hk21 (And.intro hs21 hcalm)))
          clear hL21 hk21 hs21 hcalm
          go_wp2_with fail
          go_ret2
          obtain ⟨hL21, hk21, hs21, hcalm⟩ := HF.out
          rw [HDS.out]
          have hq : ∀ x, x < w20.heap.size → x ∉ H → x ∉ H21 := fun x h1 h2 hx => by
            rcases hs21 x hx with h | h
            · exact h2 h
            · omega
          have hrecs := (HRW20.out.bound.kept hk21 (fun g hg => (HU0.out g hg).2) (fun x hx _ => (HP0.out x hx.1).2)).imp (Nat.le_refl _) (P' := fun x => w.heap.size ≤ x ∧ x ∉ H21) (fun x hx => ⟨(HP0.out x hx.1).1, hq x hx.2 (HP0.out x hx.1).2⟩)
          refine ⟨_, H21, rfl, hrecs, fun g hg => hq g (by have := (HU0.out g hg).1; omega) (HU0.out g hg).2, hL21, ((Kb.of_below HBX.out H).below_ HB20.out).trans hk21 (fun x hx => .inl hx), fun x hx => (hs21 x hx).imp id (fun h => by have := HBX.out.size; omega), hcalm⟩
end
end Go.Proofs.YtmlfeljhojmbbaaGreatDoor
