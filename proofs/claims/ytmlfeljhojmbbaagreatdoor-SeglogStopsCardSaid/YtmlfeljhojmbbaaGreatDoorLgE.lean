/- Walk: Append of a record that may be (printed by wip/genlg13.py). Walks: the log's Bytes and Sync. The log as the laws use it: a log all of whose blocks are new; Open anew. -/
import Derived.Test.YtmlfeljhojmbbaaGreatDoorLgD
import Derived.Test.YtmlfeljhojmbbaaGreatDoorMake
import Derived.Test.YtmlfeljhojmbbaaGreatDoorSum
namespace Go.Proofs.YtmlfeljhojmbbaaGreatDoor
open Go.RowKit Go.Maps Go.Sort
set_option linter.unusedSimpArgs false
set_option linter.unusedVariables false
set_option maxRecDepth 100000

theorem dig_dec (n : Nat) : ∀ x ∈ Lib.decDigits n, 48 ≤ x.toNat ∧ x.toNat ≤ 57 := by
  induction n using Nat.strongRecOn with
  | ind n ih =>
    intro x hx
    by_cases h : n < 10
    · rw [Lib.decDigits_one h, List.mem_singleton] at hx
      rw [hx, UInt8.toNat_ofNat']
      omega
    · rw [decDigits_big h] at hx
      rcases List.mem_append.1 hx with h1 | h1
      · exact ih (n / 10) (by omega) x h1
      · rw [List.mem_singleton] at h1
        rw [h1, UInt8.toNat_ofNat']
        omega
theorem odd_dig {x : UInt8} (h : 48 ≤ x.toNat ∧ x.toNat ≤ 57) : oddB x = false := by
  have h1 : ¬ x < 48 := by rw [UInt8.lt_iff_toNat_lt]; simp; omega
  have h2 : ¬ x > 57 := by rw [gt_iff_lt, UInt8.lt_iff_toNat_lt]; simp; omega
  unfold oddB
  simp [h1, h2]
theorem nameOk_seg {n : Nat} (h : n ≤ 99999999) : nameOk (seg n) = true := by
  unfold nameOk
  rw [seg_length h]
  have : (seg n).any oddB = false := by
    rw [List.any_eq_false]
    intro x hx
    unfold seg at hx
    rcases List.mem_cons.1 hx with h1 | h1
    · rw [h1]
      decide
    · rcases List.mem_append.1 h1 with h1 | h1
      · rw [(List.mem_replicate.1 h1).2]
        decide
      · rw [odd_dig (dig_dec n x h1)]
        decide
  rw [this]
  decide
section
variable {w w' : World} {gl gd Z : Nat} {H : List Nat} {d : Ds} {cs : List (Nat × List (List UInt8))} {m j : Nat} {rm : List (List UInt8)} {dead : Bool}
theorem append_not (h : LD w gl gd Z H d (lsq cs m) dead) (A : Option Addr) (n c : Nat) (hn : n < 1 ∨ 4000 < n) : Calls Tryz.prog 10 #[gp gl, .slice A n c] w fun e w' => e = .returned (.int .i64 1) ∧ w = w' := by
  have HL := Shut.mk h
  clear h
  go_enter Tryz.func10, Tryz.ntmps10
  go_wp2_with fail
  refine (none_calls HL.out).mono ?_
  rintro e w1 ⟨rfl, rfl⟩
  go_wp2_with fail
  refine (frame_not A c n w hn).mono ?_
  rintro e w2 ⟨rfl, rfl⟩
  go_wp2_with fail
  go_ret
  exact ⟨rfl, rfl⟩
theorem kstep {w w1 w2 : World} {H H1 H2 : List Nat} (h : Kb w w1 H ∧ ∀ x ∈ H1, x ∈ H ∨ w.heap.size ≤ x) (h2 : Kb w1 w2 H1 ∧ ∀ x ∈ H2, x ∈ H1 ∨ w1.heap.size ≤ x) : Kb w w2 H ∧ ∀ x ∈ H2, x ∈ H ∨ w.heap.size ≤ x :=
  ⟨h.1.trans h2.1 h.2, fun x hx => (h2.2 x hx).elim (h.2 x) fun h3 => .inr (Nat.le_trans h.1.size h3)⟩
theorem kquiet {w w1 w2 : World} {H H1 : List Nat} (h : Kb w w1 H ∧ ∀ x ∈ H1, x ∈ H ∨ w.heap.size ≤ x) (hb : Below w1.heap.size w1 w2) : Kb w w2 H ∧ ∀ x ∈ H1, x ∈ H ∨ w.heap.size ≤ x := ⟨h.1.below_ hb, h.2⟩
set_option maxHeartbeats 8000000 in
theorem append_calls (h : LD w gl gd Z H d (lsq cs m) false) (hH : ∀ x ∈ H, x < w.heap.size) (hg : Lgd d cs m rm j) (hfr : look d.S freshN = none) {NN UU : Nat} (hv : Liv d NN UU) (hm : m ≤ 400) (hN9 : NN ≤ 700000000) (hU : UU + 8000 ≤ 1048576)
    (A : Option Addr) (R c : Nat) (r : List UInt8) (hr : RdB w A r) (hR : r.length = R) (h1R : 1 ≤ R) (h2R : R ≤ 4000) :
    Calls Tryz.prog 10 #[gp gl, .slice A R c] w fun e w' => ∃ E d' cs' m' rm' j' dead', e = .returned (.int .i64 E) ∧ AppTo gl gd Z H d cs m rm j NN UU r w E w' d' cs' m' rm' j' dead' := by
  obtain ⟨i0, hi, hz0, hz1, hz2⟩ := info_parts info_i64b
  have hlen := hg.len
  have hkey := h.keys
  have hcl := hg.cont_last
  have HL := Shut.mk h
  have HHL := Shut.mk hH
  have HG := Shut.mk hg
  have HFR := Shut.mk hfr
  have HV := Shut.mk hv
  have HR := Shut.mk hr
  have HRL := Shut.mk hR
  have HKEY := Shut.mk hkey
  have HCL := Shut.mk hcl
  have HLENS : Shut ((lsq cs m).length ≤ 400) := ⟨by omega⟩
  have hm9 : m ≤ 99999999 := by omega
  have HM9 : Shut (m + 1 ≤ 99999999) := ⟨by omega⟩
  have HOKR : Shut (Okr r) := ⟨⟨by omega, by omega⟩⟩
  have HFRL : Shut ((frm r).length = 40 + R) := ⟨by rw [frm_length, hR]⟩
  clear h hH hg hfr hv hr hR hkey hcl hlen
  go_enter Tryz.func10, Tryz.ntmps10
  go_wp2_with fail
  refine (none_calls HL.out).mono ?_
  rintro e w1 ⟨rfl, rfl⟩
  go_wp2_with fail
  refine (frame_calls A c R r w HR.out HRL.out h1R h2R HL.out.tb.k HL.out.tb.b).mono ?_
  rintro e w2 ⟨v2, rfl, ho2, hb2, hn2⟩
  obtain ⟨A2, c2, rfl, hx1, hac2, hx2, hob2, hx3⟩ := ho2.form
  have HAC2 := Shut.mk hac2
  have HA2 : Shut (∀ a, A2 = some a → w.heap.size ≤ a.block) := ⟨fun a ha => hn2 a.block (hob2.trans (by rw [ha]; rfl))⟩
  have HFB := Shut.mk (rdb_own _ ho2)
  have HB2 := Shut.mk hb2
  have HL2 := Shut.mk (HL.out.quiet hb2)
  have q2 := HL2.out.c2
  clear ho2 hb2 hn2 hob2 hx1 hx2 hx3 hac2
  go_wp2_with fail
  have s0 := HL2.out.c0
  go_region_held3 (fun w' => w'.cell? ⟨gl, 0, none⟩ = some (gp gd)) (first | exact s0 | exact t0 | exact t1 | exact t2 | exact t3 | go_keep)
    (first
            | (go_at_call 50; refine (last_m (LD.quiet HL2.out (w' := w2.drew) ((Below.refl _ w2).drew)) (by have := HLENS.out; omega)).mono ?_; rintro e w4a ⟨rfl, hb4⟩; have HB4a := Shut.mk (below_drewR (w := w2) hb4); have HL4a := Shut.mk (HL2.out.quiet HB4a.out); have t0 := HL4a.out.c0; clear hb4)
            | (go_at_call 49; refine (file_calls m w4a hm9 HL4a.out.tb.p).mono ?_; rintro e w5a ⟨rfl, hb5⟩; have HB5a := Shut.mk (HB4a.out.trans (hb5.mono HB4a.out.size)); have HL5a := Shut.mk (HL2.out.quiet HB5a.out); have t1 := HL5a.out.c0; clear hb5)
            | (go_at_call 40; refine (seg_read HL5a.out m hm9).mono ?_; rintro e w6 ⟨A6, c6, E6, rfl, HE6, ho6, hb6, hn6⟩; have HB6R := Shut.mk hb6; have HO6 := Shut.mk ho6; have t2 := (HL5a.out.quiet hb6).c0; clear hb6 hn6 ho6))
  rw [HCL.out] at HO6 ⊢
  obtain ⟨NB, hNB⟩ : ∃ NB, NB = (frs rm).length := ⟨_, rfl⟩
  have HNB := Shut.mk hNB
  have hNBb : NB ≤ 1048576 := by
    rw [hNB, ← HCL.out]
    exact HL.out.cont_le m
  rw [← hNB]
  have HNBb := Shut.mk hNBb
  clear hNBb hNB s0 t0 t1 t2 HO6 q2
  have HB6 := Shut.mk (HB2.out.trans ((HB5a.out.trans (HB6R.out.mono HB5a.out.size)).mono HB2.out.size))
  have HL6 := Shut.mk (HL.out.quiet HB6.out)
  have HFB6 := Shut.mk ((HFB.out.keep HB5a.out).keep HB6R.out)
  have HKW6 : Shut (Kb w2 w6 H ∧ ∀ x ∈ H, x ∈ H ∨ w2.heap.size ≤ x) := ⟨Kb.of_below (HB5a.out.trans (HB6R.out.mono HB5a.out.size)) H, fun x hx => .inl hx⟩
  have HFIN : Shut (∀ (w9 : World) (H9 : List Nat), (Kb w2 w9 H ∧ ∀ x ∈ H9, x ∈ H ∨ w2.heap.size ≤ x) → Kb w w9 H ∧ ∀ x ∈ H9, x ∈ H ∨ w.heap.size ≤ x) := ⟨fun w9 H9 hk => ⟨(Kb.of_below HB2.out H).trans hk.1 (fun x hx => .inl hx), fun x hx => (hk.2 x hx).imp id (fun h => Nat.le_trans HB2.out.size h)⟩⟩
  have FNOT : Shut (∀ (w9 : World) (H9 : List Nat), (Kb w2 w9 H ∧ ∀ x ∈ H9, x ∈ H ∨ w2.heap.size ≤ x) → RdB w9 A2 (frm r) ∧ ∀ a, A2 = some a → a.block ∉ H9) := ⟨fun w9 H9 hk => by
    have hlt : ∀ a, A2 = some a → a.block < w2.heap.size := fun a ha => by
      obtain ⟨a9, e9, hc9⟩ := HFB.out 0 (by rw [HFRL.out]; omega)
      rw [ha] at e9
      cases e9
      have h1 := World.block_lt_of_cell? w2 _ hc9
      rwa [block_of_add] at h1
    refine ⟨rdB_kept HFB.out hk.1 (fun a ha hx => by have := HHL.out _ hx; have := HA2.out a ha; omega), fun a ha hx => ?_⟩
    have h2 := hlt a ha
    rcases hk.2 _ hx with h | h
    · have := HHL.out _ h
      have := HA2.out a ha
      omega
    · omega⟩
  by_cases hroll : 8000 ≤ NB
  · -- the last segment is full
    have hsm : (look d.S (seg m)).isSome = true := by
      rcases HG.out.last with ⟨h1, _⟩ | ⟨sy, h1, _⟩
      · have := HNB.out
        rw [h1] at this
        simp [frs_nil] at this
        omega
      · rw [h1]
        rfl
    obtain ⟨p0, hp0⟩ : ∃ p0, look d.S (seg m) = some p0 := Option.isSome_iff_exists.1 hsm
    obtain ⟨b0, sy0⟩ := p0
    have HP0 := Shut.mk hp0
    clear hsm hp0
    obtain ⟨LN, hLN⟩ : ∃ LN, LN = (lsq cs m).length := ⟨_, rfl⟩
    have HLN := Shut.mk hLN
    have hLNb : LN ≤ 400 := by rw [hLN]; exact HLENS.out
    have hLN1 : 1 ≤ LN := by rw [hLN]; exact List.length_pos_iff.2 (lsq_ne cs m)
    have HLNB := Shut.mk (And.intro hLNb hLN1)
    clear hLN hLNb hLN1
    go_wp2_with fail
    refine (last_m HL6.out (by have := HLENS.out; omega)).mono ?_
    rintro e w7 ⟨rfl, hb7⟩
    have HB7 := Shut.mk (HB6.out.trans (hb7.mono HB6.out.size))
    have HB7R := Shut.mk hb7
    have HL7 := Shut.mk (HL.out.quiet HB7.out)
    have HFB7 := Shut.mk (HFB6.out.keep hb7)
    obtain ⟨A7, c7, t7, hrd7, hcap7, _, hblk7⟩ := HL7.out.row
    rw [← HLN.out] at t7 hcap7
    have HRD7 := Shut.mk hrd7
    have HBLK7 := Shut.mk hblk7
    clear hb7 hrd7 hblk7
    have hLNb := HLNB.out.1
    rcases sync_cases HV.out HKEY.out HP0.out with ⟨e1, f1⟩ | ⟨d1, e1, v1, f1, c1, s1, n1⟩
    · -- the disk stopped
      have HSY : Shut (∀ wx, Below w.heap.size w wx → Calls Tryz.prog 24 #[gp gd, .string (segS m)] wx fun e w' => e = .returned (.int .i64 62) ∧ LStp wx w' gl gd Z H d (lsq cs m) false) := ⟨fun wx hb => by
        have := seg_sync (HL.out.quiet hb) (HV.out.okN 0 (by omega)).ok m hm9
        rw [e1] at this
        exact this⟩
      have HF1 := Shut.mk f1
      clear e1 f1
      go_wp2_with fail
      · exfalso
        rename_i hbad
        rcases hbad with h | h
        · have h5 := eq_of_beq h
          omega
        · have h5 := eq_of_beq h
          omega
      have s0 := HL7.out.c0
      go_region_held3 (fun w' => w'.cell? ⟨gl, 0, none⟩ = some (gp gd)) (first | exact s0 | exact t0 | exact t1 | exact t2 | exact t3 | go_keep)
        (first
            | (go_at_call 50; refine (last_m (LD.quiet HL7.out (w' := w7.drew) ((Below.refl _ w7).drew)) (by have := HLENS.out; omega)).mono ?_; rintro e w4b ⟨rfl, hb4⟩; have HB4b := Shut.mk (below_drewR (w := w7) hb4); have HL4b := Shut.mk (HL7.out.quiet HB4b.out); have t0 := HL4b.out.c0; clear hb4)
            | (go_at_call 49; refine (file_calls m w4b hm9 HL4b.out.tb.p).mono ?_; rintro e w5b ⟨rfl, hb5⟩; have HB5b := Shut.mk (HB4b.out.trans (hb5.mono HB4b.out.size)); have HL5b := Shut.mk (HL7.out.quiet HB5b.out); have t1 := HL5b.out.c0; clear hb5)
            | (go_at_call 24; refine (HSY.out w5b (HB7.out.trans (HB5b.out.mono HB7.out.size))).mono ?_; rintro e w8b ⟨rfl, H8b, hL8, hk8, hs8⟩; have HL8b := Shut.mk hL8; have HK9b := Shut.mk (And.intro hk8 hs8); have t2 := HL8b.out.c0; clear hL8 hk8 hs8)
            | (go_at_call 51; refine (note_calls HL8b.out _).mono ?_; rintro e w9b ⟨rfl, H9b, hL9, hk9, hs9⟩; have HLNb := Shut.mk hL9; have HKNb := Shut.mk (And.intro hk9 hs9); have t3 := HLNb.out.c0; clear hL9 hk9 hs9))
      have HSTb := Shut.mk (show LStp w8b w9b gl gd Z H8b d (lsq cs m) true from ⟨H9b, HLNb.out, HKNb.out.1, HKNb.out.2⟩)
      clear s0 t0 t1 t2 t3
      go_wp2_with fail
      go_ret
      have hk := kstep (kquiet (kquiet HKW6.out HB7R.out) HB5b.out) (kstep HK9b.out HKNb.out)
      have hk := HFIN.out _ _ hk
      exact ⟨62, d, cs, m, rm, j, true, rfl, ⟨H9b, HLNb.out, hk.1, hk.2⟩, HG.out, HV.out.mono (by omega) (by omega), ⟨Nat.le_refl _, by omega⟩, Nat.le_refl _, fun h => h, .inr ⟨rfl, rfl, by have := HF1.out; omega, HF1.out, rfl⟩⟩
    · -- it is synced
      obtain ⟨hg1, hlm1⟩ := HG.out.sync HP0.out s1
      have HSY : Shut (∀ wx, Below w.heap.size w wx → Calls Tryz.prog 24 #[gp gd, .string (segS m)] wx fun e w' => e = .returned (.int .i64 0) ∧ LStp wx w' gl gd Z H d1 (lsq cs m) false) := ⟨fun wx hb => by
        have := seg_sync (HL.out.quiet hb) (HV.out.okN 0 (by omega)).ok m hm9
        rw [e1] at this
        exact this⟩
      have hfr1 : look d1.S freshN = none := by rw [s1, look_setF, if_neg (fun e => seg_ne_fresh m e.symm)]; exact HFR.out
      have hk1 : Key7 d1 := by unfold Key7; rw [s1]; exact keys_setF HKEY.out _ _ _
      have HG1 := Shut.mk hg1
      have HLM1 := Shut.mk hlm1
      have HV1 := Shut.mk v1
      have HF1 := Shut.mk (And.intro f1 c1)
      have HFR1 := Shut.mk hfr1
      have HK1 := Shut.mk hk1
      clear e1 v1 f1 c1 s1 n1 hg1 hlm1 hfr1 hk1
      go_wp2_with fail
      · exfalso
        rename_i hbad
        rcases hbad with h | h
        · have h5 := eq_of_beq h
          omega
        · have h5 := eq_of_beq h
          omega
      have s0 := HL7.out.c0
      go_region_held3 (fun w' => w'.cell? ⟨gl, 0, none⟩ = some (gp gd)) (first | exact s0 | exact t0 | exact t1 | exact t2 | exact t3 | go_keep)
        (first
            | (go_at_call 50; refine (last_m (LD.quiet HL7.out (w' := w7.drew) ((Below.refl _ w7).drew)) (by have := HLENS.out; omega)).mono ?_; rintro e w4b ⟨rfl, hb4⟩; have HB4b := Shut.mk (below_drewR (w := w7) hb4); have HL4b := Shut.mk (HL7.out.quiet HB4b.out); have t0 := HL4b.out.c0; clear hb4)
            | (go_at_call 49; refine (file_calls m w4b hm9 HL4b.out.tb.p).mono ?_; rintro e w5b ⟨rfl, hb5⟩; have HB5b := Shut.mk (HB4b.out.trans (hb5.mono HB4b.out.size)); have HL5b := Shut.mk (HL7.out.quiet HB5b.out); have t1 := HL5b.out.c0; clear hb5)
            | (go_at_call 24; refine (HSY.out w5b (HB7.out.trans (HB5b.out.mono HB7.out.size))).mono ?_; rintro e w8b ⟨rfl, H8b, hL8, hk8, hs8⟩; have HL8b := Shut.mk hL8; have HK8b := Shut.mk (And.intro hk8 hs8); have t2 := HL8b.out.c0; clear hL8 hk8 hs8)
            | (go_at_call 51; refine (note_calls HL8b.out _).mono ?_; rintro e w9b ⟨rfl, H9b, hL9, hk9, hs9⟩; have HLNb := Shut.mk hL9; have HKNb := Shut.mk (And.intro hk9 hs9); have t3 := HLNb.out.c0; clear hL9 hk9 hs9))
      clear s0 t0 t1 t2 t3
      have HL10 : Shut (LD w9b gl gd Z H9b d1 (lsq cs m) false) := ⟨HLNb.out⟩
      have HK10 := Shut.mk (kstep (kquiet (kquiet HKW6.out HB7R.out) HB5b.out) (kstep HK8b.out HKNb.out))
      obtain ⟨H11, hL11, hsub11, hlt11⟩ := HL10.out.trim
      have HL11 := Shut.mk hL11
      have HLT11 := Shut.mk hlt11
      have HK11 : Shut (Kb w2 w9b H ∧ ∀ x ∈ H11, x ∈ H ∨ w2.heap.size ≤ x) := ⟨HK10.out.1, fun x hx => HK10.out.2 x (hsub11 x hx)⟩
      obtain ⟨A11, c11, t11, hrd11, hcap11, _, hblk11⟩ := hL11.row
      rw [← HLN.out] at t11 hcap11
      obtain ⟨a11, rfl, hc11⟩ := hrd11 (its_ne (lsq_ne cs m))
      obtain ⟨b11, hb11⟩ : ∃ b, b = a11.block := ⟨_, rfl⟩
      obtain rfl : a11 = ⟨b11, 0, none⟩ := by rw [hb11]; exact hcap11.2 a11 rfl
      have HCL11 := Shut.mk (sh_CloneI b11 0 LN c11 ((lsq cs m).map (Int.ofNat ·)) w9b (by rw [List.length_map, HLN.out]; exact Nat.le_refl _) (by omega) (fun q hq => by
        rw [List.length_map] at hq
        have h1 := hc11 q _ (its_get hq)
        rw [add_head] at h1
        rw [Nat.zero_add, h1, List.getD_eq_getElem?_getD, List.getElem?_map, List.getElem?_eq_getElem hq]
        rfl))
      have hits : ((((lsq cs m).map (Int.ofNat ·)).take LN).map (Value.int .i64)) = its (lsq cs m) := by
        rw [List.take_of_length_le (by rw [List.length_map, HLN.out]; exact Nat.le_refl _), List.map_map]
        rfl
      rw [hits] at HCL11
      clear hits hcap11 hblk11 hL11 hsub11 hlt11 hrd11 hc11 hb11 t7
      go_wp2_with fail
      refine HCL11.out.mono ?_
      rintro e w12 ⟨v12, rfl, hro12, _, hb12⟩
      obtain ⟨ho12, hn12⟩ := own_row hro12
      have HO12 := Shut.mk ho12
      have HN12 := Shut.mk hn12
      have HB12 := Shut.mk hb12
      clear ho12 hn12 hro12 hb12 t11
      go_wp2_with fail
      refine (last_m (HL11.out.quiet HB12.out) (by have := HLENS.out; omega)).mono ?_
      rintro e w13 ⟨rfl, hb13⟩
      have HB13 := Shut.mk (HB12.out.trans (hb13.mono HB12.out.size))
      have HO13 := Shut.mk (HO12.out.below hb13 (fun g hg => HO12.out.block_lt hg))
      clear hb13
      have hmI : (m : Int) + 1 = ((m + 1 : Nat) : Int) := by omega
      have HWR : Shut (∀ (o : Obj) (v14 : Value) (w14 : World) (xs : List Value), xs = [.int .i64 ((m : Int) + 1)] → Appended (w13.alloc o) w14 3 1 v12 v14 LN 1 (its (lsq cs m)) xs → ∃ A14 c14, v14 = .slice A14 (LN + 1) c14 ∧ Below w9b.heap.size w9b w14 ∧
          (∀ x ∈ blkOf A14, w9b.heap.size ≤ x) ∧ Calls Tryz.prog 42 #[gp gl, .slice A14 (LN + 1) c14] w14 fun e w' => e = .returned (.int .i64 (lWrite d1 (lsq cs m) false (lsq cs m ++ [m + 1])).1) ∧ LStp w14 w' gl gd Z (blkOf A14 ++ H11) (lWrite d1 (lsq cs m) false (lsq cs m ++ [m + 1])).2.1 (lWrite d1 (lsq cs m) false (lsq cs m ++ [m + 1])).2.2.1 (lWrite d1 (lsq cs m) false (lsq cs m ++ [m + 1])).2.2.2) := ⟨by
        intro o v14 w14 xs hxs hap
        obtain ⟨g14, c14, rfl, hgc, hcm⟩ := hap.own.head (by omega)
        have hs13 := HB13.out.size
        have hbw : Below w9b.heap.size w9b w14 := (HB13.out.alloc hs13 o).grown hap.grown (by simp; omega) HN12.out
        have hnew : w9b.heap.size ≤ g14 := new_append (B := w9b.heap.size) (by simp; omega) HN12.out hap.lies g14 rfl
        have hx14 : its (lsq cs m) ++ xs = its (lsq cs m ++ [m + 1]) := by
          rw [hxs, hmI]
          simp [its]
        have hown := hap.own
        rw [hx14] at hown
        have hlen14 : (lsq cs m ++ [m + 1]).length = LN + 1 := by rw [List.length_append, ← HLN.out]; rfl
        have hLX := HL11.out.quiet hbw
        have hz9 := HL11.out.zs
        refine ⟨some ⟨g14, 0, none⟩, c14, rfl, hbw, fun x hx => ?_, ?_⟩
        · rw [show x = g14 by simpa [blkOf] using hx]
          exact hnew
        · have := man_calls hLX (HV1.out.okN 2 (by omega)) (some ⟨g14, 0, none⟩) c14 (lsq cs m ++ [m + 1]) (by
            obtain ⟨A8, c8, e8, hr8, _⟩ := hown.form
            cases e8
            exact hr8) ⟨by rw [hlen14]; exact hgc, fun a ha => by cases ha; rfl⟩ (fun a ha => by
              cases ha
              exact ⟨fun hx => by have := HLT11.out _ hx; simp only at this; omega, by show Z ≤ g14; omega, hown.block_lt rfl⟩) (by rw [hlen14]; omega) (by rw [hlen14]; omega) (fun n hn => by
              rcases List.mem_append.1 hn with h | h
              · have := HG.out.le n h
                omega
              · have : n = m + 1 := by simpa using h
                omega)
          rw [hlen14] at this
          exact this⟩
      clear hmI
      go_wp2_with (at_builtin; refine wpList_append _ rfl _ _ _ rfl 3 i0 _ 1 8 Tryz.underlying40 hi hz0 hz1 hz2 rfl (by decide) _ _ _ rfl (HO13.out.alloc _) _ 1 1 _ rfl (by rfl) (rd_new w13 _ 3) (by simp [Value.oneCell']) (by simp only [maxLen]; omega) (by omega) ?_; intro v14 w14 hap14; obtain ⟨A14, c14, rfl, hb14, hn14, hwr14⟩ := HWR.out _ _ _ _ (by rfl) hap14)
      have HB14 := Shut.mk hb14
      have HN14 := Shut.mk hn14
      have HWRC := Shut.mk hwr14
      have HK14 : Shut (Kb w2 w14 H ∧ ∀ x ∈ blkOf A14 ++ H11, x ∈ H ∨ w2.heap.size ≤ x) := ⟨HK11.out.1.below_ hb14, fun x hx => by
        rcases List.mem_append.1 hx with h | h
        · have := hn14 x h
          have := HK11.out.1.size
          exact .inr (by omega)
        · exact HK11.out.2 x h⟩
      clear hb14 hn14 hwr14 hap14
      have hlen14 : (lsq cs m ++ [m + 1]).length = LN + 1 := by rw [List.length_append, ← HLN.out]; rfl
      rcases write_cases HV1.out HK1.out (lsq cs m) false (lsq cs m ++ [m + 1]) HFR1.out (by rw [hlen14]; omega) with ⟨d2, e2, v2, f2, g2, lk2⟩ | ⟨d2, e2, v2, f2, g2, lk2⟩
      · -- a new segment
        rw [e2] at HWRC
        rw [hlen14] at v2
        have hk2 : Key7 d2 := by
          have h1 := wlive_keys HK1.out (lsq cs m) false (lsq cs m ++ [m + 1])
          rw [e2] at h1
          exact h1
        have HG2 := Shut.mk (HG1.out.roll HLM1.out (by rw [hlen14] at lk2 ⊢; exact lk2))
        have HV2 := Shut.mk v2
        have HK2 := Shut.mk hk2
        have HFU2 : Shut (d.fuse = -1 → d2.fuse = -1) := ⟨fun h => g2 (HF1.out.2 h)⟩
        have HFR2 : Shut (look d2.S freshN = none) := ⟨by rw [lk2, if_neg (fun e => man_ne e.symm)]; exact HFR1.out⟩
        have hno2 : look d2.S (seg (m + 1)) = none := by
          rcases HG2.out.last with ⟨_, h⟩ | ⟨sy, h, _⟩
          · exact h
          · exfalso
            rw [lk2, if_neg (seg_ne_man _)] at h
            rcases HG1.out.files _ (by rw [h]; simp) with e | e | ⟨n, hn, e⟩
            · exact absurd e (seg_ne_man _)
            · exact absurd e (seg_ne_fresh _)
            · have h1 := HG1.out.le n hn
              have h2 := seg_inj e
              omega
        have HNO2 := Shut.mk hno2
        have hc2 : cont d2 (m + 1) = [] := by rw [cont, hno2]; rfl
        have HC2 := Shut.mk hc2
        have HLENT : Shut ((lsq (cs ++ [(m, rm)]) (m + 1)).length ≤ 401) := ⟨by rw [lsq_snoc, hlen14]; omega⟩
        clear e2 v2 f2 g2 lk2 hlen14 hk2 hno2 hc2
        refine HWRC.out.mono ?_
        rintro e w15 ⟨rfl, H15, hL15, hk15, hs15⟩
        have HL15 : Shut (LD w15 gl gd Z H15 d2 (lsq (cs ++ [(m, rm)]) (m + 1)) false) := ⟨by rw [lsq_snoc]; exact hL15⟩
        have HK15 := Shut.mk (kstep HK14.out (And.intro hk15 hs15))
        clear hL15 hk15 hs15
        go_wp2_with fail
        have s0 := HL15.out.c0
        go_region_held3 (fun w' => w'.cell? ⟨gl, 0, none⟩ = some (gp gd)) (first | exact s0 | exact t0 | exact t1 | exact t2 | exact t3 | go_keep)
          (first
            | (go_at_call 50; refine (last_m (LD.quiet HL15.out (w' := w15.drew) ((Below.refl _ w15).drew)) (by have := HLENT.out; omega)).mono ?_; rintro e w4c ⟨rfl, hb4⟩; have HB4c := Shut.mk (below_drewR (w := w15) hb4); have HL4c := Shut.mk (HL15.out.quiet HB4c.out); have t0 := HL4c.out.c0; clear hb4)
            | (go_at_call 49; refine (file_calls (m + 1) w4c HM9.out HL4c.out.tb.p).mono ?_; rintro e w5c ⟨rfl, hb5⟩; have HB5c := Shut.mk (HB4c.out.trans (hb5.mono HB4c.out.size)); have HL5c := Shut.mk (HL15.out.quiet HB5c.out); have t1 := HL5c.out.c0; clear hb5)
            | (go_at_call 40; refine (seg_read HL5c.out (m + 1) HM9.out).mono ?_; rintro e w18 ⟨A18, c18, E18, rfl, HE18, ho18, hb18, hn18⟩; have HB18 := Shut.mk hb18; have HO18 := Shut.mk ho18; have t2 := (HL5c.out.quiet hb18).c0; clear hb18 hn18 ho18))
        rw [HC2.out] at HO18 ⊢
        have hE18 := HE18.out
        rw [HNO2.out] at hE18
        obtain rfl : E18 = 60 := hE18
        have HL18 := Shut.mk (HL15.out.quiet (HB5c.out.trans (HB18.out.mono HB5c.out.size)))
        have HK18 := Shut.mk (kquiet (kquiet HK15.out HB5c.out) HB18.out)
        have HNTM := HM9
        clear s0 t0 t1 t2 HO18
        rcases app_cases HV2.out HK2.out (seg (m + 1)) (frm r) (nameOk_seg HNTM.out) (by rw [HFRL.out]; omega) with ⟨e1, f1⟩ | ⟨d9, e1, v1, f1, c1, s1⟩
        · -- the disk stopped
          have HAP1 : Shut (∀ wx, Below w18.heap.size w18 wx → Calls Tryz.prog 21 #[gp gd, .string (segS (m + 1)), .slice A2 (40 + R) c2] wx fun e w' => e = .returned (.tuple #[.int .i64 0, .int .i64 62]) ∧ LStp wx w' gl gd Z H15 d2 (lsq (cs ++ [(m, rm)]) (m + 1)) false) := ⟨fun wx hb => by
            have := seg_append (HL18.out.quiet hb) (HV2.out.okN 0 (by omega)).ok (m + 1) HNTM.out A2 (40 + R) c2 (frm r) ((FNOT.out _ _ (kquiet HK18.out hb)).1) HFRL.out HAC2.out (by unfold reach; omega)
            rw [e1] at this
            exact this⟩
          have HF1 := Shut.mk f1
          clear e1 f1
          go_wp2_with fail
          have s0 := HL18.out.c0
          go_region_held3 (fun w' => w'.cell? ⟨gl, 0, none⟩ = some (gp gd)) (first | exact s0 | exact t0 | exact t1 | exact t2 | exact t3 | go_keep)
            (first
            | (go_at_call 50; refine (last_m (LD.quiet HL18.out (w' := w18.drew) ((Below.refl _ w18).drew)) (by have := HLENT.out; omega)).mono ?_; rintro e w4d1 ⟨rfl, hb4⟩; have HB4d1 := Shut.mk (below_drewR (w := w18) hb4); have HL4d1 := Shut.mk (HL18.out.quiet HB4d1.out); have t0 := HL4d1.out.c0; clear hb4)
            | (go_at_call 49; refine (file_calls (m + 1) w4d1 HNTM.out HL4d1.out.tb.p).mono ?_; rintro e w5d1 ⟨rfl, hb5⟩; have HB5d1 := Shut.mk (HB4d1.out.trans (hb5.mono HB4d1.out.size)); have HL5d1 := Shut.mk (HL18.out.quiet HB5d1.out); have t1 := HL5d1.out.c0; clear hb5)
            | (go_at_call 21; refine (HAP1.out w5d1 HB5d1.out).mono ?_; rintro e w8d ⟨rfl, H8d, hL8, hk8, hs8⟩; have HL8d := Shut.mk hL8; have HK8d := Shut.mk (kstep (kquiet HK18.out HB5d1.out) (And.intro hk8 hs8)); have t2 := HL8d.out.c0; clear hL8 hk8 hs8))
          clear s0 t0 t1 t2
          go_wp2_with fail
          refine (note_calls HL8d.out _).mono ?_
          rintro e w9d ⟨rfl, H9d, hL9, hk9, hs9⟩
          have HL9 : Shut (LD w9d gl gd Z H9d d2 (lsq (cs ++ [(m, rm)]) (m + 1)) true) := ⟨hL9⟩
          have HK9 := Shut.mk (kstep HK8d.out (And.intro hk9 hs9))
          clear hL9 hk9 hs9
          go_wp2_with fail
          refine (last_m HL9.out (by have := HLENT.out; omega)).mono ?_
          rintro e w10d ⟨rfl, hb10⟩
          obtain ⟨H10d, hL10, hsub10, hlt10⟩ := (HL9.out.quiet hb10).trim
          have hb11 : Below w10d.heap.size w10d (w10d.alloc (.cells #[.int .i64 (((m + 1) : Nat) : Int)] 3)) := (Below.refl _ w10d).alloc (Nat.le_refl _) _
          have HRM := Shut.mk (remove_calls (hL10.quiet hb11) (HV2.out.okN 0 (by omega)) (some ⟨w10d.heap.size, 0, none⟩) 1 [(m + 1)] (show Rd _ _ (its [(m + 1)]) from rd_new w10d #[.int .i64 (((m + 1) : Nat) : Int)] 3) (fun a ha => by cases ha; exact ⟨fun hx => by have := hlt10 _ hx; simp at this, by simp⟩) (fun n hn => by have : n = (m + 1) := (by simpa using hn); have := HNTM.out; omega) (by simp))
          have hrem : lRem d2 [(m + 1)] = (0, d2) := by
            show (if (look d2.S (seg (m + 1))).isSome = true then _ else _) = _
            rw [if_neg (by rw [HNO2.out]; simp)]
            rfl
          rw [hrem] at HRM
          have HK10 : Shut (Kb w2 (w10d.alloc (.cells #[.int .i64 (((m + 1) : Nat) : Int)] 3)) H ∧ ∀ x ∈ H10d, x ∈ H ∨ w2.heap.size ≤ x) := ⟨(kquiet (kquiet HK9.out hb10) hb11).1, fun x hx => HK9.out.2 x (hsub10 x hx)⟩
          clear hb10 hL10 hsub10 hlt10 hb11 hrem
          go_wp2_with fail
          refine HRM.out.mono ?_
          rintro e w12d ⟨rfl, HZd, hLZ, hkZ, hsZ⟩
          have HLZd : Shut (LD w12d gl gd Z HZd d2 (lsq (cs ++ [(m, rm)]) (m + 1)) true) := ⟨hLZ⟩
          have HKZd := Shut.mk (kstep HK10.out (And.intro hkZ hsZ))
          clear hLZ hkZ hsZ
          go_wp2_with fail
          go_ret
          have hk := HFIN.out _ _ HKZd.out
          exact ⟨62, d2, (cs ++ [(m, rm)]), (m + 1), [], 0, true, rfl, ⟨HZd, HLZd.out, hk.1, hk.2⟩, HG2.out, HV2.out.mono (by omega) (by omega), ⟨by omega, Nat.le_refl _⟩, by have := HG.out.jm; simp [sureN]; omega, HFU2.out, .inr ⟨rfl, rfl, fun h => by have h1 := HFU2.out h; have h2 := HF1.out; omega, HF1.out, flat_roll cs m rm⟩⟩
        · -- it is written
          have HAP1 : Shut (∀ wx, Below w18.heap.size w18 wx → Calls Tryz.prog 21 #[gp gd, .string (segS (m + 1)), .slice A2 (40 + R) c2] wx fun e w' => e = .returned (.tuple #[.int .i64 (40 + (R : Int)), .int .i64 0]) ∧ LStp wx w' gl gd Z H15 d9 (lsq (cs ++ [(m, rm)]) (m + 1)) false) := ⟨fun wx hb => by
            have := seg_append (HL18.out.quiet hb) (HV2.out.okN 0 (by omega)).ok (m + 1) HNTM.out A2 (40 + R) c2 (frm r) ((FNOT.out _ _ (kquiet HK18.out hb)).1) HFRL.out HAC2.out (by unfold reach; omega)
            rw [e1] at this
            rw [HFRL.out] at this
            push_cast at this
            exact this⟩
          have HFA := Shut.mk (And.intro v1 (And.intro c1 s1))
          clear e1 v1 f1 c1 s1
          go_wp2_with fail
          have s0 := HL18.out.c0
          go_region_held3 (fun w' => w'.cell? ⟨gl, 0, none⟩ = some (gp gd)) (first | exact s0 | exact t0 | exact t1 | exact t2 | exact t3 | go_keep)
            (first
            | (go_at_call 50; refine (last_m (LD.quiet HL18.out (w' := w18.drew) ((Below.refl _ w18).drew)) (by have := HLENT.out; omega)).mono ?_; rintro e w4d1 ⟨rfl, hb4⟩; have HB4d1 := Shut.mk (below_drewR (w := w18) hb4); have HL4d1 := Shut.mk (HL18.out.quiet HB4d1.out); have t0 := HL4d1.out.c0; clear hb4)
            | (go_at_call 49; refine (file_calls (m + 1) w4d1 HNTM.out HL4d1.out.tb.p).mono ?_; rintro e w5d1 ⟨rfl, hb5⟩; have HB5d1 := Shut.mk (HB4d1.out.trans (hb5.mono HB4d1.out.size)); have HL5d1 := Shut.mk (HL18.out.quiet HB5d1.out); have t1 := HL5d1.out.c0; clear hb5)
            | (go_at_call 21; refine (HAP1.out w5d1 HB5d1.out).mono ?_; rintro e w8d ⟨rfl, H8d, hL8, hk8, hs8⟩; have HL8d := Shut.mk hL8; have HK8d := Shut.mk (kstep (kquiet HK18.out HB5d1.out) (And.intro hk8 hs8)); have t2 := HL8d.out.c0; clear hL8 hk8 hs8))
          clear s0 t0 t1 t2
          go_wp2_with fail
          refine (note_calls HL8d.out _).mono ?_
          rintro e w9d ⟨rfl, H9d, hL9, hk9, hs9⟩
          have HL9 : Shut (LD w9d gl gd Z H9d d9 (lsq (cs ++ [(m, rm)]) (m + 1)) false) := ⟨hL9⟩
          have HK9 := Shut.mk (kstep HK8d.out (And.intro hk9 hs9))
          clear hL9 hk9 hs9
          go_wp2_with fail
          go_ret
          have hk := HFIN.out _ _ HK9.out
          obtain ⟨v1, c1, s1⟩ := HFA.out
          rw [HFRL.out] at v1
          exact ⟨0, d9, (cs ++ [(m, rm)]), (m + 1), [] ++ [r], 0, false, rfl, ⟨H9d, HL9.out, hk.1, hk.2⟩, HG2.out.append HOKR.out s1, v1.mono (by omega) (by omega), ⟨by omega, Nat.le_refl _⟩, by have := HG.out.jm; simp [sureN]; omega, fun h => c1 (HFU2.out h), .inl ⟨rfl, rfl, by rw [s1, look_addF, if_neg (fun e => seg_ne_fresh _ e.symm)]; exact HFR2.out, by rw [flat_snoc7, flat_roll], by rw [if_pos (by rw [← HNB.out]; exact hroll)]; exact ⟨rfl, rfl, rfl⟩⟩⟩
      · -- the manifest is not written
        rw [e2] at HWRC
        rw [hlen14] at v2
        have HF2 := Shut.mk (And.intro v2 (And.intro f2 (And.intro g2 lk2)))
        clear e2 v2 f2 g2 lk2 hlen14
        refine HWRC.out.mono ?_
        rintro e w15 ⟨rfl, H15, hL15, hk15, hs15⟩
        have HL15 := Shut.mk hL15
        have HK15 := Shut.mk (HFIN.out _ _ (kstep HK14.out (And.intro hk15 hs15)))
        clear hL15 hk15 hs15
        go_wp2_with fail
        go_ret
        obtain ⟨v2, f2, g2, lk2⟩ := HF2.out
        exact ⟨62, d2, cs, m, rm, rm.length, true, rfl, ⟨H15, HL15.out, HK15.out.1, HK15.out.2⟩, HG1.out.same lk2, v2.mono (by omega) (by omega), ⟨Nat.le_refl _, by omega⟩, by have := HG.out.jm; unfold sureN; omega, fun h => absurd (HF1.out.2 h) f2, .inr ⟨rfl, rfl, fun h => f2 (HF1.out.2 h), g2, rfl⟩⟩
  · -- there is room in the last segment
    have HK6 : Shut (Kb w2 w6 H ∧ ∀ x ∈ H, x ∈ H ∨ w2.heap.size ≤ x) := HKW6
    have hroll2 : NB < 8000 := by omega
    have HIDF : Shut (d.fuse = -1 → d.fuse = -1) := ⟨id⟩
    have HNTM := Shut.mk hm9
    by_cases hth : (look d.S (seg m)).isSome = true
    · have hE6 := HE6.out
      rw [if_pos hth] at hE6
      subst hE6
      obtain ⟨p0, hp0⟩ : ∃ p0, look d.S (seg m) = some p0 := Option.isSome_iff_exists.1 hth
      obtain ⟨b0, sy0⟩ := p0
      have hb0 : b0 = frs rm := by
        have := HCL.out
        rw [cont, hp0] at this
        exact this
      have HP0 : Shut (look d.S (seg m) = some (frs rm, sy0)) := ⟨by rw [hp0, hb0]⟩
      clear hp0 hth hb0
      rcases app_cases HV.out HKEY.out (seg m) (frm r) (nameOk_seg HNTM.out) (by rw [HFRL.out]; omega) with ⟨e1, f1⟩ | ⟨d9, e1, v1, f1, c1, s1⟩
      · -- the disk stopped
        have HAP2 : Shut (∀ wx, Below w6.heap.size w6 wx → Calls Tryz.prog 21 #[gp gd, .string (segS m), .slice A2 (40 + R) c2] wx fun e w' => e = .returned (.tuple #[.int .i64 0, .int .i64 62]) ∧ LStp wx w' gl gd Z H d (lsq cs m) false) := ⟨fun wx hb => by
          have := seg_append (HL6.out.quiet hb) (HV.out.okN 0 (by omega)).ok m HNTM.out A2 (40 + R) c2 (frm r) ((FNOT.out _ _ (kquiet HK6.out hb)).1) HFRL.out HAC2.out (by unfold reach; omega)
          rw [e1] at this
          exact this⟩
        have HF1 := Shut.mk f1
        clear e1 f1
        go_wp2_with fail
        have s0 := HL6.out.c0
        go_region_held3 (fun w' => w'.cell? ⟨gl, 0, none⟩ = some (gp gd)) (first | exact s0 | exact t0 | exact t1 | exact t2 | exact t3 | go_keep)
          (first
            | (go_at_call 50; refine (last_m (LD.quiet HL6.out (w' := w6.drew) ((Below.refl _ w6).drew)) (by have := HLENS.out; omega)).mono ?_; rintro e w4d2 ⟨rfl, hb4⟩; have HB4d2 := Shut.mk (below_drewR (w := w6) hb4); have HL4d2 := Shut.mk (HL6.out.quiet HB4d2.out); have t0 := HL4d2.out.c0; clear hb4)
            | (go_at_call 49; refine (file_calls m w4d2 HNTM.out HL4d2.out.tb.p).mono ?_; rintro e w5d2 ⟨rfl, hb5⟩; have HB5d2 := Shut.mk (HB4d2.out.trans (hb5.mono HB4d2.out.size)); have HL5d2 := Shut.mk (HL6.out.quiet HB5d2.out); have t1 := HL5d2.out.c0; clear hb5)
            | (go_at_call 21; refine (HAP2.out w5d2 HB5d2.out).mono ?_; rintro e w8d ⟨rfl, H8d, hL8, hk8, hs8⟩; have HL8d := Shut.mk hL8; have HK8d := Shut.mk (kstep (kquiet HK6.out HB5d2.out) (And.intro hk8 hs8)); have t2 := HL8d.out.c0; clear hL8 hk8 hs8))
        clear s0 t0 t1 t2
        go_wp2_with fail
        refine (note_calls HL8d.out _).mono ?_
        rintro e w9d ⟨rfl, H9d, hL9, hk9, hs9⟩
        have HL9 : Shut (LD w9d gl gd Z H9d d (lsq cs m) true) := ⟨hL9⟩
        have HK9 := Shut.mk (kstep HK8d.out (And.intro hk9 hs9))
        clear hL9 hk9 hs9
        go_wp2_with fail
        have HCT : Shut (∀ wx HZ dd, LD wx gl gd Z HZ d (lsq cs m) dd → Calls Tryz.prog 26 #[gp gd, .string (segS m), .int .i64 (NB : Int)] wx fun e w' => e = .returned (.int .i64 62) ∧ LStp wx w' gl gd Z HZ d (lsq cs m) dd) := ⟨fun wx HZ dd hX => by
          have := seg_cut hX (HV.out.okN 0 (by omega)).ok m HNTM.out (NB : Int)
          rcases cut_cases HV.out HKEY.out HP0.out (k := NB) (by rw [HNB.out]; exact Nat.le_refl _) with ⟨e5, _⟩ | ⟨_, _, _, h5, _⟩
          · rw [e5] at this
            exact this
          · exact absurd HF1.out h5⟩
        have s0 := HL9.out.c0
        go_region_held3 (fun w' => w'.cell? ⟨gl, 0, none⟩ = some (gp gd)) (first | exact s0 | exact t0 | exact t1 | exact t2 | exact t3 | go_keep)
          (first
            | (go_at_call 50; refine (last_m (LD.quiet HL9.out (w' := w9d.drew) ((Below.refl _ w9d).drew)) (by have := HLENS.out; omega)).mono ?_; rintro e w4e2 ⟨rfl, hb4⟩; have HB4e2 := Shut.mk (below_drewR (w := w9d) hb4); have HL4e2 := Shut.mk (HL9.out.quiet HB4e2.out); have t0 := HL4e2.out.c0; clear hb4)
            | (go_at_call 49; refine (file_calls m w4e2 HNTM.out HL4e2.out.tb.p).mono ?_; rintro e w5e2 ⟨rfl, hb5⟩; have HB5e2 := Shut.mk (HB4e2.out.trans (hb5.mono HB4e2.out.size)); have HL5e2 := Shut.mk (HL9.out.quiet HB5e2.out); have t1 := HL5e2.out.c0; clear hb5)
            | (go_at_call 26; refine (HCT.out _ _ _ HL5e2.out).mono ?_; rintro e w10d ⟨rfl, H10d, hL10, hk10, hs10⟩; have HL10d := Shut.mk hL10; have HK10d := Shut.mk (kstep (kquiet HK9.out HB5e2.out) (And.intro hk10 hs10)); have t2 := HL10d.out.c0; clear hL10 hk10 hs10)
            | (go_at_call 51; refine (note_calls HL10d.out _).mono ?_; rintro e w11d ⟨rfl, HZd, hL11, hk11, hs11⟩; have HLZd : Shut (LD w11d gl gd Z HZd d (lsq cs m) true) := ⟨hL11⟩; have HKZd := Shut.mk (kstep HK10d.out (And.intro hk11 hs11)); have t3 := HLZd.out.c0; clear hL11 hk11 hs11))
        clear s0 t0 t1 t2 t3
        go_wp2_with fail
        go_ret
        have hk := HFIN.out _ _ HKZd.out
        exact ⟨62, d, cs, m, rm, j, true, rfl, ⟨HZd, HLZd.out, hk.1, hk.2⟩, HG.out, HV.out.mono (by omega) (by omega), ⟨Nat.le_refl _, by omega⟩, Nat.le_refl _, HIDF.out, .inr ⟨rfl, rfl, fun h => by have h1 := HIDF.out h; have h2 := HF1.out; omega, HF1.out, rfl⟩⟩
      · -- it is written
        have HAP2 : Shut (∀ wx, Below w6.heap.size w6 wx → Calls Tryz.prog 21 #[gp gd, .string (segS m), .slice A2 (40 + R) c2] wx fun e w' => e = .returned (.tuple #[.int .i64 (40 + (R : Int)), .int .i64 0]) ∧ LStp wx w' gl gd Z H d9 (lsq cs m) false) := ⟨fun wx hb => by
          have := seg_append (HL6.out.quiet hb) (HV.out.okN 0 (by omega)).ok m HNTM.out A2 (40 + R) c2 (frm r) ((FNOT.out _ _ (kquiet HK6.out hb)).1) HFRL.out HAC2.out (by unfold reach; omega)
          rw [e1] at this
          rw [HFRL.out] at this
          push_cast at this
          exact this⟩
        have HFA := Shut.mk (And.intro v1 (And.intro c1 s1))
        clear e1 v1 f1 c1 s1
        go_wp2_with fail
        have s0 := HL6.out.c0
        go_region_held3 (fun w' => w'.cell? ⟨gl, 0, none⟩ = some (gp gd)) (first | exact s0 | exact t0 | exact t1 | exact t2 | exact t3 | go_keep)
          (first
            | (go_at_call 50; refine (last_m (LD.quiet HL6.out (w' := w6.drew) ((Below.refl _ w6).drew)) (by have := HLENS.out; omega)).mono ?_; rintro e w4d2 ⟨rfl, hb4⟩; have HB4d2 := Shut.mk (below_drewR (w := w6) hb4); have HL4d2 := Shut.mk (HL6.out.quiet HB4d2.out); have t0 := HL4d2.out.c0; clear hb4)
            | (go_at_call 49; refine (file_calls m w4d2 HNTM.out HL4d2.out.tb.p).mono ?_; rintro e w5d2 ⟨rfl, hb5⟩; have HB5d2 := Shut.mk (HB4d2.out.trans (hb5.mono HB4d2.out.size)); have HL5d2 := Shut.mk (HL6.out.quiet HB5d2.out); have t1 := HL5d2.out.c0; clear hb5)
            | (go_at_call 21; refine (HAP2.out w5d2 HB5d2.out).mono ?_; rintro e w8d ⟨rfl, H8d, hL8, hk8, hs8⟩; have HL8d := Shut.mk hL8; have HK8d := Shut.mk (kstep (kquiet HK6.out HB5d2.out) (And.intro hk8 hs8)); have t2 := HL8d.out.c0; clear hL8 hk8 hs8))
        clear s0 t0 t1 t2
        go_wp2_with fail
        refine (note_calls HL8d.out _).mono ?_
        rintro e w9d ⟨rfl, H9d, hL9, hk9, hs9⟩
        have HL9 : Shut (LD w9d gl gd Z H9d d9 (lsq cs m) false) := ⟨hL9⟩
        have HK9 := Shut.mk (kstep HK8d.out (And.intro hk9 hs9))
        clear hL9 hk9 hs9
        go_wp2_with fail
        go_ret
        have hk := HFIN.out _ _ HK9.out
        obtain ⟨v1, c1, s1⟩ := HFA.out
        rw [HFRL.out] at v1
        exact ⟨0, d9, cs, m, rm ++ [r], j, false, rfl, ⟨H9d, HL9.out, hk.1, hk.2⟩, HG.out.append HOKR.out s1, v1.mono (by omega) (by omega), ⟨Nat.le_refl _, by omega⟩, Nat.le_refl _, fun h => c1 (HIDF.out h), .inl ⟨rfl, rfl, by rw [s1, look_addF, if_neg (fun e => seg_ne_fresh _ e.symm)]; exact HFR.out, flat_snoc7 cs rm r, by rw [if_neg (by rw [← HNB.out]; omega)]; exact ⟨rfl, rfl, rfl⟩⟩⟩
    · have hE6 := HE6.out
      rw [if_neg hth] at hE6
      subst hE6
      have HNO2 : Shut (look d.S (seg m) = none) := ⟨by
        cases h : look d.S (seg m) with
        | none => rfl
        | some p => rw [h] at hth; simp at hth⟩
      clear hth
      rcases app_cases HV.out HKEY.out (seg m) (frm r) (nameOk_seg HNTM.out) (by rw [HFRL.out]; omega) with ⟨e1, f1⟩ | ⟨d9, e1, v1, f1, c1, s1⟩
      · -- the disk stopped
        have HAP3 : Shut (∀ wx, Below w6.heap.size w6 wx → Calls Tryz.prog 21 #[gp gd, .string (segS m), .slice A2 (40 + R) c2] wx fun e w' => e = .returned (.tuple #[.int .i64 0, .int .i64 62]) ∧ LStp wx w' gl gd Z H d (lsq cs m) false) := ⟨fun wx hb => by
          have := seg_append (HL6.out.quiet hb) (HV.out.okN 0 (by omega)).ok m HNTM.out A2 (40 + R) c2 (frm r) ((FNOT.out _ _ (kquiet HK6.out hb)).1) HFRL.out HAC2.out (by unfold reach; omega)
          rw [e1] at this
          exact this⟩
        have HF1 := Shut.mk f1
        clear e1 f1
        go_wp2_with fail
        have s0 := HL6.out.c0
        go_region_held3 (fun w' => w'.cell? ⟨gl, 0, none⟩ = some (gp gd)) (first | exact s0 | exact t0 | exact t1 | exact t2 | exact t3 | go_keep)
          (first
            | (go_at_call 50; refine (last_m (LD.quiet HL6.out (w' := w6.drew) ((Below.refl _ w6).drew)) (by have := HLENS.out; omega)).mono ?_; rintro e w4d3 ⟨rfl, hb4⟩; have HB4d3 := Shut.mk (below_drewR (w := w6) hb4); have HL4d3 := Shut.mk (HL6.out.quiet HB4d3.out); have t0 := HL4d3.out.c0; clear hb4)
            | (go_at_call 49; refine (file_calls m w4d3 HNTM.out HL4d3.out.tb.p).mono ?_; rintro e w5d3 ⟨rfl, hb5⟩; have HB5d3 := Shut.mk (HB4d3.out.trans (hb5.mono HB4d3.out.size)); have HL5d3 := Shut.mk (HL6.out.quiet HB5d3.out); have t1 := HL5d3.out.c0; clear hb5)
            | (go_at_call 21; refine (HAP3.out w5d3 HB5d3.out).mono ?_; rintro e w8d ⟨rfl, H8d, hL8, hk8, hs8⟩; have HL8d := Shut.mk hL8; have HK8d := Shut.mk (kstep (kquiet HK6.out HB5d3.out) (And.intro hk8 hs8)); have t2 := HL8d.out.c0; clear hL8 hk8 hs8))
        clear s0 t0 t1 t2
        go_wp2_with fail
        refine (note_calls HL8d.out _).mono ?_
        rintro e w9d ⟨rfl, H9d, hL9, hk9, hs9⟩
        have HL9 : Shut (LD w9d gl gd Z H9d d (lsq cs m) true) := ⟨hL9⟩
        have HK9 := Shut.mk (kstep HK8d.out (And.intro hk9 hs9))
        clear hL9 hk9 hs9
        go_wp2_with fail
        refine (last_m HL9.out (by have := HLENS.out; omega)).mono ?_
        rintro e w10d ⟨rfl, hb10⟩
        obtain ⟨H10d, hL10, hsub10, hlt10⟩ := (HL9.out.quiet hb10).trim
        have hb11 : Below w10d.heap.size w10d (w10d.alloc (.cells #[.int .i64 ((m : Nat) : Int)] 3)) := (Below.refl _ w10d).alloc (Nat.le_refl _) _
        have HRM := Shut.mk (remove_calls (hL10.quiet hb11) (HV.out.okN 0 (by omega)) (some ⟨w10d.heap.size, 0, none⟩) 1 [m] (show Rd _ _ (its [m]) from rd_new w10d #[.int .i64 ((m : Nat) : Int)] 3) (fun a ha => by cases ha; exact ⟨fun hx => by have := hlt10 _ hx; simp at this, by simp⟩) (fun n hn => by have : n = m := (by simpa using hn); have := HNTM.out; omega) (by simp))
        have hrem : lRem d [m] = (0, d) := by
          show (if (look d.S (seg m)).isSome = true then _ else _) = _
          rw [if_neg (by rw [HNO2.out]; simp)]
          rfl
        rw [hrem] at HRM
        have HK10 : Shut (Kb w2 (w10d.alloc (.cells #[.int .i64 ((m : Nat) : Int)] 3)) H ∧ ∀ x ∈ H10d, x ∈ H ∨ w2.heap.size ≤ x) := ⟨(kquiet (kquiet HK9.out hb10) hb11).1, fun x hx => HK9.out.2 x (hsub10 x hx)⟩
        clear hb10 hL10 hsub10 hlt10 hb11 hrem
        go_wp2_with fail
        refine HRM.out.mono ?_
        rintro e w12d ⟨rfl, HZd, hLZ, hkZ, hsZ⟩
        have HLZd : Shut (LD w12d gl gd Z HZd d (lsq cs m) true) := ⟨hLZ⟩
        have HKZd := Shut.mk (kstep HK10.out (And.intro hkZ hsZ))
        clear hLZ hkZ hsZ
        go_wp2_with fail
        go_ret
        have hk := HFIN.out _ _ HKZd.out
        exact ⟨62, d, cs, m, rm, j, true, rfl, ⟨HZd, HLZd.out, hk.1, hk.2⟩, HG.out, HV.out.mono (by omega) (by omega), ⟨Nat.le_refl _, by omega⟩, Nat.le_refl _, HIDF.out, .inr ⟨rfl, rfl, fun h => by have h1 := HIDF.out h; have h2 := HF1.out; omega, HF1.out, rfl⟩⟩
      · -- it is written
        have HAP3 : Shut (∀ wx, Below w6.heap.size w6 wx → Calls Tryz.prog 21 #[gp gd, .string (segS m), .slice A2 (40 + R) c2] wx fun e w' => e = .returned (.tuple #[.int .i64 (40 + (R : Int)), .int .i64 0]) ∧ LStp wx w' gl gd Z H d9 (lsq cs m) false) := ⟨fun wx hb => by
          have := seg_append (HL6.out.quiet hb) (HV.out.okN 0 (by omega)).ok m HNTM.out A2 (40 + R) c2 (frm r) ((FNOT.out _ _ (kquiet HK6.out hb)).1) HFRL.out HAC2.out (by unfold reach; omega)
          rw [e1] at this
          rw [HFRL.out] at this
          push_cast at this
          exact this⟩
        have HFA := Shut.mk (And.intro v1 (And.intro c1 s1))
        clear e1 v1 f1 c1 s1
        go_wp2_with fail
        have s0 := HL6.out.c0
        go_region_held3 (fun w' => w'.cell? ⟨gl, 0, none⟩ = some (gp gd)) (first | exact s0 | exact t0 | exact t1 | exact t2 | exact t3 | go_keep)
          (first
            | (go_at_call 50; refine (last_m (LD.quiet HL6.out (w' := w6.drew) ((Below.refl _ w6).drew)) (by have := HLENS.out; omega)).mono ?_; rintro e w4d3 ⟨rfl, hb4⟩; have HB4d3 := Shut.mk (below_drewR (w := w6) hb4); have HL4d3 := Shut.mk (HL6.out.quiet HB4d3.out); have t0 := HL4d3.out.c0; clear hb4)
            | (go_at_call 49; refine (file_calls m w4d3 HNTM.out HL4d3.out.tb.p).mono ?_; rintro e w5d3 ⟨rfl, hb5⟩; have HB5d3 := Shut.mk (HB4d3.out.trans (hb5.mono HB4d3.out.size)); have HL5d3 := Shut.mk (HL6.out.quiet HB5d3.out); have t1 := HL5d3.out.c0; clear hb5)
            | (go_at_call 21; refine (HAP3.out w5d3 HB5d3.out).mono ?_; rintro e w8d ⟨rfl, H8d, hL8, hk8, hs8⟩; have HL8d := Shut.mk hL8; have HK8d := Shut.mk (kstep (kquiet HK6.out HB5d3.out) (And.intro hk8 hs8)); have t2 := HL8d.out.c0; clear hL8 hk8 hs8))
        clear s0 t0 t1 t2
        go_wp2_with fail
        refine (note_calls HL8d.out _).mono ?_
        rintro e w9d ⟨rfl, H9d, hL9, hk9, hs9⟩
        have HL9 : Shut (LD w9d gl gd Z H9d d9 (lsq cs m) false) := ⟨hL9⟩
        have HK9 := Shut.mk (kstep HK8d.out (And.intro hk9 hs9))
        clear hL9 hk9 hs9
        go_wp2_with fail
        go_ret
        have hk := HFIN.out _ _ HK9.out
        obtain ⟨v1, c1, s1⟩ := HFA.out
        rw [HFRL.out] at v1
        exact ⟨0, d9, cs, m, rm ++ [r], j, false, rfl, ⟨H9d, HL9.out, hk.1, hk.2⟩, HG.out.append HOKR.out s1, v1.mono (by omega) (by omega), ⟨Nat.le_refl _, by omega⟩, Nat.le_refl _, fun h => c1 (HIDF.out h), .inl ⟨rfl, rfl, by rw [s1, look_addF, if_neg (fun e => seg_ne_fresh _ e.symm)]; exact HFR.out, flat_snoc7 cs rm r, by rw [if_neg (by rw [← HNB.out]; omega)]; exact ⟨rfl, rfl, rfl⟩⟩⟩

end
end Go.Proofs.YtmlfeljhojmbbaaGreatDoor

namespace Go.Proofs.YtmlfeljhojmbbaaGreatDoor
open Go.RowKit Go.Maps Go.Sort
set_option linter.unusedSimpArgs false
set_option linter.unusedVariables false
set_option maxRecDepth 100000

/-- how many bytes the segments have -/
def bytesN (d : Ds) (l : List Nat) : Nat := (l.map fun n => (cont d n).length).sum
section
variable {w w' : World} {gl gd Z : Nat} {H : List Nat} {d : Ds} {l : List Nat} {dead : Bool} {cs : List (Nat × List (List UInt8))} {m j : Nat} {rm : List (List UInt8)}
set_option maxHeartbeats 2000000 in
theorem sync_log (h : LD w gl gd Z H d (lsq cs m) false) (hg : Lgd d cs m rm j) {NN UU : Nat} (hv : Liv d NN UU) (hm : m ≤ 400) (hN9 : NN ≤ 700000000) (hfr : look d.S freshN = none) :
    Calls Tryz.prog 11 #[gp gl] w fun e w' => ∃ E d' j' dead', e = .returned (.int .i64 E) ∧ LStp w w' gl gd Z H d' (lsq cs m) dead' ∧ Lgd d' cs m rm j' ∧ Liv d' NN UU ∧ (d.fuse = -1 → d'.fuse = -1) ∧
      ((E = 0 ∧ dead' = false ∧ j' = rm.length ∧ look d'.S freshN = none) ∨ (E = 62 ∧ dead' = true ∧ j' = j ∧ d.fuse ≠ -1 ∧ d'.fuse = 0)) := by
  have hkey := h.keys
  have hlen := hg.len
  have HL := Shut.mk h
  have HG := Shut.mk hg
  have HV := Shut.mk hv
  have HFR := Shut.mk hfr
  have HKEY := Shut.mk hkey
  have HLENS : Shut ((lsq cs m).length ≤ 400) := ⟨by omega⟩
  have hm9 : m ≤ 99999999 := by omega
  have q2 := h.c2
  clear h hg hv hfr hkey hlen
  go_enter Tryz.func11, Tryz.ntmps11
  go_wp2_with fail
  refine (none_calls HL.out).mono ?_
  rintro e w1 ⟨rfl, rfl⟩
  go_wp2_with fail
  refine (last_m HL.out (by have := HLENS.out; omega)).mono ?_
  rintro e w2 ⟨rfl, hb2⟩
  have HB2 := Shut.mk hb2
  clear hb2 q2
  go_wp2_with fail
  refine (file_calls m w2 hm9 (HL.out.quiet HB2.out).tb.p).mono ?_
  rintro e w3 ⟨rfl, hb3⟩
  have HB3 := Shut.mk (HB2.out.trans (hb3.mono HB2.out.size))
  clear hb3
  go_wp2_with fail
  refine (seg_has (HL.out.quiet HB3.out) (by have := HV.out.n; omega) m).mono ?_
  rintro e w4 ⟨rfl, hb4⟩
  have HB4 := Shut.mk (HB3.out.trans (hb4.mono HB3.out.size))
  have HL4 := Shut.mk (HL.out.quiet HB4.out)
  clear hb4
  cases hlk : look d.S (seg m) with
  | none =>
    have hrm : rm = [] := by
      rcases HG.out.last with ⟨h1, _⟩ | ⟨sy, h1, _⟩
      · exact h1
      · rw [hlk] at h1
        cases h1
    have HRM := Shut.mk hrm
    simp only [Option.isSome_none]
    clear hlk hrm
    go_wp2_with fail
    go_ret
    refine ⟨0, d, j, false, rfl, LStp.still HL.out HB4.out, HG.out, HV.out, fun h => h, .inl ⟨rfl, rfl, ?_, HFR.out⟩⟩
    have := HG.out.jm
    rw [HRM.out] at this ⊢
    simpa using this
  | some p =>
    obtain ⟨b0, sy0⟩ := p
    simp only [Option.isSome_some]
    have HFIN : Shut (∀ d' E dd, (dSync d (seg m)) = (E, d') → (∀ w9, LStp w w9 gl gd Z H d' (lsq cs m) (false || decide (E = 62)) → ∃ j' dead', LStp w w9 gl gd Z H d' (lsq cs m) dead' ∧ Lgd d' cs m rm j' ∧ Liv d' NN UU ∧ (d.fuse = -1 → d'.fuse = -1) ∧ ((E = 0 ∧ dead' = false ∧ j' = rm.length ∧ look d'.S freshN = none) ∨ (E = 62 ∧ dead' = true ∧ j' = j ∧ d.fuse ≠ -1 ∧ d'.fuse = 0))) ∨ dd = 0) := ⟨fun d' E dd he => .inl fun w9 hst => by
      rcases sync_cases HV.out HKEY.out hlk with ⟨e1, f1⟩ | ⟨d1, e1, v1, f1, c1, s1, n1⟩
      · rw [e1] at he
        cases he
        exact ⟨j, true, hst, HG.out, HV.out, fun h => h, .inr ⟨rfl, rfl, rfl, by omega, f1⟩⟩
      · rw [e1] at he
        cases he
        exact ⟨rm.length, false, hst, (HG.out.sync hlk s1).1, v1, c1, .inl ⟨rfl, rfl, rfl, by rw [s1, look_setF, if_neg (fun e => seg_ne_fresh m e.symm)]; exact HFR.out⟩⟩⟩
    obtain ⟨E, hE⟩ : ∃ E, E = (dSync d (seg m)).1 := ⟨_, rfl⟩
    obtain ⟨d1, hd1⟩ : ∃ d1, d1 = (dSync d (seg m)).2 := ⟨_, rfl⟩
    have HSY : Shut (∀ wx, Below w.heap.size w wx → Calls Tryz.prog 24 #[gp gd, .string (segS m)] wx fun e w' => e = .returned (.int .i64 E) ∧ LStp wx w' gl gd Z H d1 (lsq cs m) false) := ⟨fun wx hb => by
      have := seg_sync (HL.out.quiet hb) (HV.out.okN 0 (by omega)).ok m hm9
      rw [← hE, ← hd1] at this
      exact this⟩
    have HED : Shut (dSync d (seg m) = (E, d1)) := ⟨by rw [hE, hd1]⟩
    clear hlk hE hd1
    go_wp2_with fail
    have s0 := HL4.out.c0
    go_region_held3 (fun w' => w'.cell? ⟨gl, 0, none⟩ = some (gp gd)) (first | exact s0 | exact t0 | exact t1 | exact t2 | exact t3 | go_keep)
      (first
            | (go_at_call 50; refine (last_m (LD.quiet HL4.out (w' := w4.drew) ((Below.refl _ w4).drew)) (by have := HLENS.out; omega)).mono ?_; rintro e w5 ⟨rfl, hb5⟩; have HB5 := Shut.mk (below_drewR (w := w4) hb5); have HL5 := Shut.mk (HL4.out.quiet HB5.out); have t0 := HL5.out.c0; clear hb5)
            | (go_at_call 49; refine (file_calls m w5 hm9 HL5.out.tb.p).mono ?_; rintro e w6 ⟨rfl, hb6⟩; have HB6 := Shut.mk (HB4.out.trans ((HB5.out.trans (hb6.mono HB5.out.size)).mono HB4.out.size)); have HL6 := Shut.mk (HL.out.quiet HB6.out); have t1 := HL6.out.c0; clear hb6)
            | (go_at_call 24; refine (HSY.out w6 HB6.out).mono ?_; rintro e w7 ⟨rfl, H7, hL7, hk7, hs7⟩; have HL7 := Shut.mk hL7; have HK7 := Shut.mk (And.intro hk7 hs7); have t2 := HL7.out.c0; clear hL7 hk7 hs7)
            | (go_at_call 51; refine (note_calls HL7.out _).mono ?_; rintro e w8 ⟨rfl, H8, hL8, hk8, hs8⟩; have HL8 := Shut.mk hL8; have HK8 := Shut.mk (And.intro hk8 hs8); have t3 := HL8.out.c0; clear hL8 hk8 hs8))
    clear s0 t0 t1 t2 t3
    go_wp2_with fail
    go_ret
    have hk := kstep (w := w) (H := H) (H1 := H) ⟨Kb.of_below HB6.out H, fun x hx => .inl hx⟩ (kstep HK7.out HK8.out)
    rcases HFIN.out d1 E 1 HED.out with h | h
    · obtain ⟨j', dead', g1, g2, g3, g4, g5⟩ := h w8 ⟨H8, HL8.out, hk.1, hk.2⟩
      exact ⟨E, d1, j', dead', rfl, g1, g2, g3, g4, g5⟩
    · cases h
end
end Go.Proofs.YtmlfeljhojmbbaaGreatDoor

namespace Go.Proofs.YtmlfeljhojmbbaaGreatDoor
open Go.RowKit Go.Maps Go.Sort
set_option linter.unusedSimpArgs false
set_option linter.unusedVariables false
set_option maxRecDepth 100000

theorem u64_nat7 (a : Int) : ∃ n : Nat, IntKind.u64.wrap a = (n : Int) ∧ (n : Int) < 18446744073709551616 := by
  have h : IntKind.u64.wrap a = a % 18446744073709551616 := by simp [IntKind.wrap, IntKind.bits, IntKind.signed]
  exact ⟨(a % 18446744073709551616).toNat, by rw [h]; omega, by omega⟩
theorem tmod_nat7 (a b : Nat) (h : 0 < b) : ∃ m : Nat, m < b ∧ (a : Int).tmod (b : Int) = (m : Int) :=
  ⟨a % b, Nat.mod_lt _ h, by rw [Int.tmod_eq_emod_of_nonneg (by omega)]; simp⟩
/-- the record of a round -/
def recG (i size : Nat) : List UInt8 := (List.replicate size 0).set 0 (UInt8.ofNat i)
theorem recG_length (i size : Nat) : (recG i size).length = size := by simp [recG]
def recsG (n size : Nat) : List (List UInt8) := (List.range n).map fun i => recG i size
theorem recsG_succ (n size : Nat) : recsG (n + 1) size = recsG n size ++ [recG n size] := by simp [recsG, List.range_succ]
/-- what a disk with a log gives Open -/
theorem Lgd.opens {d : Ds} {cs : List (Nat × List (List UInt8))} {m j : Nat} {rm : List (List UInt8)} (h : Lgd d cs m rm j) :
    (look d.S manN).map (·.1) = some (frm (manB (lsq cs m))) ∧ (∀ k, (hk : k + 1 < (lsq cs m).length) → whole d (lsq cs m)[k]) ∧ recsL d (lsq cs m) = flat cs rm ∧ (∀ s, look d.S s ≠ none → m ≤ 99999999 → s.length ≤ 100) ∧ wl d m = (cont d m).length := by
  have hcc : ∀ x ∈ cs, rdL (cont d x.1) = x.2 := fun x hx => by rw [h.cont_closed hx, rdL_whole (h.okc x hx)]
  have hcm : rdL (cont d m) = rm := by rw [h.cont_last, rdL_whole h.okm]
  refine ⟨by rw [h.man]; rfl, fun k hk => ?_, ?_, fun s hs hm => ?_, by unfold wl; rw [hcm, h.cont_last]⟩
  · have hkc : k < cs.length := by simp [lsq] at hk; exact hk
    have e : (lsq cs m)[k] = cs[k].1 := by
      simp only [lsq]
      rw [List.getElem_append_left (by simpa using hkc), List.getElem_map]
    rw [e]
    unfold whole wl
    rw [hcc _ (List.getElem_mem _), h.cont_closed (List.getElem_mem _)]
  · have hx : ∀ l : List (Nat × List (List UInt8)), (∀ x ∈ l, x ∈ cs) → (l.map (·.1)).flatMap (fun n => rdL (cont d n)) = l.flatMap (·.2) := by
      intro l hl
      induction l with
      | nil => rfl
      | cons x r ih =>
        rw [List.map_cons, List.flatMap_cons, List.flatMap_cons, ih (fun y hy => hl y (List.mem_cons_of_mem _ hy)), hcc x (hl x List.mem_cons_self)]
    unfold recsL lsq flat
    rw [List.flatMap_append, hx cs (fun x hx => hx), List.flatMap_cons, List.flatMap_nil, List.append_nil, hcm]
  · rcases h.files s hs with rfl | rfl | ⟨n, hn, rfl⟩
    · decide
    · decide
    · rw [seg_length (Nat.le_trans (h.le n hn) hm)]
      omega
theorem frs_const (l : List (List UInt8)) (size : Nat) (h : ∀ r ∈ l, r.length = size) : (frs l).length = l.length * (40 + size) := by
  induction l with
  | nil => simp [frs]
  | cons r t ih =>
    rw [frs_cons, List.length_append, frm_length, ih (fun y hy => h y (List.mem_cons_of_mem _ hy)), h r List.mem_cons_self, List.length_cons, Nat.add_mul]
    omega
theorem flat_len (cs : List (Nat × List (List UInt8))) (rm : List (List UInt8)) : (frs (flat cs rm)).length = (cs.map fun x => (frs x.2).length).sum + (frs rm).length := by
  unfold flat
  rw [frs_append, List.length_append]
  congr 1
  induction cs with
  | nil => rfl
  | cons x r ih => rw [List.flatMap_cons, frs_append, List.length_append, ih, List.map_cons, List.sum_cons]
theorem Lgd.bytes {d : Ds} {cs : List (Nat × List (List UInt8))} {m j : Nat} {rm : List (List UInt8)} (h : Lgd d cs m rm j) : bytesN d (lsq cs m) = (frs (flat cs rm)).length := by
  rw [flat_len]
  unfold bytesN lsq
  rw [List.map_append, List.sum_append, List.map_map]
  congr 1
  · congr 1
    exact List.map_congr_left fun x hx => by
      show (cont d x.1).length = _
      rw [h.cont_closed hx]
  · simp [h.cont_last]
section
variable {w w' : World} {gl gd Z : Nat} {H : List Nat} {d : Ds} {l : List Nat} {dead : Bool}
/-- a step of the disk alone -/
theorem LD.disk2 (h : LD w gl gd Z H d l dead) : ∃ F, DD w gd F d ∧ (∀ x ∈ F, x ∈ H ∧ x ≠ gl) ∧ ∀ {w' : World} {d' : Ds}, DStp w w' gd F d' → LStp w w' gl gd Z H d' l dead := by
  obtain ⟨⟨F, A, c, h1, h2, h3, h4⟩, h5, h6, h7, h8⟩ := h
  refine ⟨F, h1, h3, ?_⟩
  rintro w' d' ⟨F', q1, q2, q3⟩
  have hgl : gl < w.heap.size := h2.blk.lt
  refine ⟨gl :: F' ++ H, ⟨⟨F', A, c, q1, ⟨q2.blk h2.blk (fun hx => (h3 _ hx).2 rfl), ?_, h2.le⟩, ?_, ?_⟩, ?_, ?_, Nat.le_trans h7 q2.size, h8.below (q2.below (Below.refl _ _) (fun x hx => h6 x (h3 x hx).1) h7)⟩, q2.mono fun x hx => (h3 x hx).1, ?_⟩
  · intro hne
    obtain ⟨a, rfl, hc⟩ := h2.rd hne
    have hl : l ≠ [] := fun e => hne (by rw [e]; rfl)
    obtain ⟨ha, _, _⟩ := h4 a rfl hl
    refine ⟨a, rfl, fun j u hu => ?_⟩
    have h9 := hc j u hu
    have hlt := World.block_lt_of_cell? w _ h9
    rw [← h9]
    exact World.cell?_of_block (w := w) (q2.block _ hlt (fun hx => by rw [block_of_add] at hx; exact ha hx))
  · intro x hx
    refine ⟨by simp [hx], ?_⟩
    rcases q3 x hx with h | h
    · exact (h3 x h).2
    · omega
  · intro a ha hl
    obtain ⟨b1, b2, b3⟩ := h4 a ha hl
    refine ⟨fun hx => ?_, b2, by simp [b3]⟩
    rcases q3 _ hx with h | h
    · exact b1 h
    · have hne : its l ≠ [] := fun e => hl (by simpa [its] using e)
      obtain ⟨a', e', hc⟩ := h2.rd hne
      rw [ha] at e'
      injection e' with e'
      subst e'
      cases l with
      | nil => exact hl rfl
      | cons n l =>
        have h9 := World.block_lt_of_cell? w _ (hc 0 (.int .i64 (n : Int)) rfl)
        rw [block_of_add] at h9
        omega
  · simp
  · intro x hx
    simp only [List.cons_append, List.mem_cons, List.mem_append] at hx
    rcases hx with rfl | hx | hx
    · exact h6 _ h5
    · rcases q3 x hx with h | h
      · exact h6 x (h3 x h).1
      · omega
    · exact h6 x hx
  · intro x hx
    simp only [List.cons_append, List.mem_cons, List.mem_append] at hx
    rcases hx with rfl | hx | hx
    · exact .inl h5
    · rcases q3 x hx with h | h
      · exact .inl (h3 x h).1
      · exact .inr h
    · exact .inl hx
end
theorem Lgd.opened {d d' : Ds} {cs : List (Nat × List (List UInt8))} {m j : Nat} {rm : List (List UInt8)} (h : Lgd d cs m rm j) (hl : lsq cs m ≠ []) (ho : OpnD d d' (lsq cs m) hl) : Lgd d' cs m rm rm.length ∧ look d'.S freshN = none := by
  have hfr : look d'.S freshN = none := ho.none _ (fun hx => by
    rcases List.mem_append.1 hx with h1 | h1
    · obtain ⟨n, _, e⟩ := List.mem_map.1 h1
      exact seg_ne_fresh n e
    · rw [List.mem_singleton] at h1
      exact man_ne h1.symm)
  have hlast := ho.last
  rw [lsq_last] at hlast
  refine ⟨⟨by rw [ho.man]; exact h.man, fun x hx => ?_, ?_, fun s hs => ?_, h.okc, h.okm, h.up, h.lo, Nat.le_refl _⟩, hfr⟩
  · rw [ho.closed x.1 (mem_lsq.2 (.inl ⟨x, hx, rfl⟩)) (by rw [lsq_last]; have := h.lt hx; omega), h.closed x hx]
    rfl
  · rcases h.last with ⟨h1, h2⟩ | ⟨sy, h1, h2⟩
    · left
      exact ⟨h1, by rw [hlast, h2]; rfl⟩
    · right
      refine ⟨(frs rm).length, ?_, by rw [List.take_of_length_le (Nat.le_refl _)]; exact Nat.le_refl _⟩
      rw [hlast, h1]
      simp only [Option.map_some]
      rw [rdL_whole h.okm]
  · by_cases hm : s ∈ mineL (lsq cs m)
    · rcases List.mem_append.1 hm with h1 | h1
      · obtain ⟨n, hn, e⟩ := List.mem_map.1 h1
        exact .inr (.inr ⟨n, hn, e.symm⟩)
      · rw [List.mem_singleton] at h1
        exact .inl h1
    · exact absurd (ho.none s hm) hs
/-- the disk of files.New -/
def d0 : Ds := ⟨[], 0, 1048576, -1, -1⟩
theorem calm_d0 : Calm d0 0 0 := ⟨⟨Nat.le_refl _, Nat.le_refl _, rfl, rfl, by decide, by decide⟩, rfl, List.Pairwise.nil⟩
theorem new_dd (w : World) : Calls Tryz.prog 8 #[.int .i64 1048576] w fun e w' => ∃ gd F, e = .returned (.tuple #[gp gd, .int .i64 0]) ∧ DD w' gd F d0 ∧ Below w.heap.size w w' ∧ ∀ x ∈ F, w.heap.size ≤ x := by
  refine (dnew_calls 1048576 w (by omega) (by omega)).mono ?_
  rintro e w' ⟨gd, gm, rfl, hD, hb, hf⟩
  exact ⟨gd, foot gd gm [], rfl, ⟨gm, [], hD, rfl, fun x hx => hx⟩, hb, hf⟩
theorem lgd_new {d : Ds} (h : ∀ s, look d.S s = if s = manN then some (frm (manB [1]), 48) else none) : Lgd d [] 1 [] 0 ∧ look d.S freshN = none := by
  refine ⟨⟨by rw [h, if_pos rfl]; rfl, (fun x hx => by cases hx), .inl ⟨rfl, by rw [h, if_neg (seg_ne_man 1)]⟩, fun s hs => ?_, fun x hx => (by cases hx), fun r hr => (by cases hr), List.pairwise_singleton _ _, fun n hn => ?_, Nat.le_refl _⟩, by rw [h, if_neg (fun e => man_ne e.symm)]⟩
  · by_cases e : s = manN
    · exact .inl e
    · rw [h, if_neg e] at hs
      exact absurd rfl hs
  · have : n = 1 := by simpa [lsq] using hn
    omega
/-- a law's log: all of it is new -/
structure Lw (w0 w : World) (gl gd : Nat) (d : Ds) (cs : List (Nat × List (List UInt8))) (m : Nat) (rm : List (List UInt8)) (j : Nat) (dead : Bool) (N U : Nat) : Prop where
  go : ∃ H, LD w gl gd w0.heap.size H d (lsq cs m) dead ∧ ∀ x ∈ H, x < w.heap.size
  lgd : Lgd d cs m rm j
  liv : Liv d N U
  below : Below w0.heap.size w0 w
theorem Lw.quiet {w0 w w' : World} {gl gd : Nat} {d : Ds} {cs : List (Nat × List (List UInt8))} {m : Nat} {rm : List (List UInt8)} {j : Nat} {dead : Bool} {N U : Nat} (h : Lw w0 w gl gd d cs m rm j dead N U) (hb : Below w.heap.size w w') : Lw w0 w' gl gd d cs m rm j dead N U := by
  obtain ⟨H, h1, h2⟩ := h.go
  exact ⟨⟨H, h1.quiet hb, fun x hx => Nat.lt_of_lt_of_le (h2 x hx) hb.size⟩, h.lgd, h.liv, h.below.trans (hb.mono h.below.size)⟩
theorem below_kb {w0 w w' : World} {H : List Nat} (h : Below w0.heap.size w0 w) (hk : Kb w w' H) (hH : ∀ x ∈ H, w0.heap.size ≤ x) : Below w0.heap.size w0 w' := hk.below h hH h.size
theorem Lw.step {w0 w w' : World} {gl gd : Nat} {d d' : Ds} {cs cs' : List (Nat × List (List UInt8))} {m m' : Nat} {rm rm' : List (List UInt8)} {j j' : Nat} {dead dead' : Bool} {N U N' U' : Nat} (h : Lw w0 w gl gd d cs m rm j dead N U) {H : List Nat} (hL : LD w gl gd w0.heap.size H d (lsq cs m) dead) (hst : LStp w w' gl gd w0.heap.size H d' (lsq cs' m') dead') (hg : Lgd d' cs' m' rm' j') (hv : Liv d' N' U') : Lw w0 w' gl gd d' cs' m' rm' j' dead' N' U' := by
  obtain ⟨H', h1, h2, h3⟩ := hst
  obtain ⟨H2, h4, h5, h6⟩ := h1.trim
  exact ⟨⟨H2, h4, h6⟩, hg, hv, below_kb h.below h2 hL.z⟩
/-- a new disk's log -/
theorem lw_open {w0 w : World} {gd : Nat} {F : List Nat} (hD : DD w gd F d0) (hb : Below w0.heap.size w0 w) (hF : ∀ x ∈ F, w0.heap.size ≤ x) (ht : Tb w0 w0.heap.size) :
    Calls Tryz.prog 9 #[gp gd] w fun e w' => ∃ gl d, e = .returned (.tuple #[gp gl, .slice none 0 0, .int .i64 0]) ∧ Lw w0 w' gl gd d [] 1 [] 0 false 2 48 ∧ look d.S freshN = none ∧ d.fuse = -1 := by
  refine (open_new hD hF hb.size (ht.below hb) (NN := 0) (UU := 0) (by omega) calm_d0 (by omega) (fun s => rfl)).mono ?_
  rintro e w' ⟨gl, H', d', rfl, hL, hk, hs, hg, hc, hlk⟩
  obtain ⟨g1, g2⟩ := lgd_new hlk
  obtain ⟨H2, h4, h5, h6⟩ := hL.trim
  exact ⟨gl, d', rfl, ⟨⟨H2, h4, h6⟩, g1, hc.liv, below_kb hb hk hF⟩, g2, hc.f⟩
/-- Open of the log's disk once more: the old log goes on -/
theorem lw_again {w0 w : World} {gl gd : Nat} {d : Ds} {cs : List (Nat × List (List UInt8))} {m : Nat} {rm : List (List UInt8)} {j : Nat} {dead : Bool} {N U : Nat} (h : Lw w0 w gl gd d cs m rm j dead N U) (hf : d.fuse = -1) (hm : m ≤ 400) (hN : N ≤ 700000000) :
    Calls Tryz.prog 9 #[gp gd] w fun e w' => ∃ gl2 v d', e = .returned (.tuple #[gp gl2, v, .int .i64 0]) ∧ Recs w' w.heap.size (fun x => w.heap.size ≤ x) v (flat cs rm) ∧ Lw w0 w' gl gd d' cs m rm rm.length dead N U ∧ Lw w0 w' gl2 gd d' cs m rm rm.length false N U ∧ d'.fuse = -1 ∧ look d'.S freshN = none ∧
      OpnD d d' (lsq cs m) (lsq_ne cs m) := by
  obtain ⟨H, hL, hlt⟩ := h.go
  obtain ⟨F, hD, hsub, hst⟩ := hL.disk2
  obtain ⟨o1, o2, o3, o4, o5⟩ := h.lgd.opens
  have hlen := h.lgd.len
  have hc : Calm d N U := ⟨h.liv, hf, hL.keys⟩
  have htb := hL.tb
  refine (open_old hD (fun x hx => hL.z x (hsub x hx).1) h.below.size hL.tb hN hc (lsq cs m) (lsq_ne cs m) o1 h.lgd.up (fun n hn => ⟨h.lgd.lo n hn, by have := h.lgd.le n hn; omega⟩) (by omega) o2 (fun s hs => o4 s hs (by omega))).mono ?_
  rintro e w' ⟨gl2, v, H', rfl, hrec, hvn, hL2, hk, hs, hg, hc2⟩
  obtain ⟨_, _, hopn⟩ := opn_looks hc (lsq cs m) (lsq_ne cs m)
  obtain ⟨g1, g2⟩ := h.lgd.opened (lsq_ne cs m) hopn
  obtain ⟨F2, hD2, hsub2, _⟩ := hL2.disk2
  have hst2 := hst (w' := w') (d' := dOpn d (lsq cs m) (lsq_ne cs m)) ⟨F2, hD2, hk, fun x hx => hs x (hsub2 x hx).1⟩
  have hFz : ∀ x ∈ F, w0.heap.size ≤ x := fun x hx => hL.z x (hsub x hx).1
  obtain ⟨H2, h4, h5, h6⟩ := hL2.trim
  rw [o3] at hrec
  exact ⟨gl2, v, _, rfl, hrec.imp (Nat.le_refl _) (fun x hx => hx.1), h.step hL hst2 g1 hc2.liv, ⟨⟨H2, h4, h6⟩, g1, hc2.liv, below_kb h.below hk hFz⟩, hc2.f, g2, hopn⟩
end Go.Proofs.YtmlfeljhojmbbaaGreatDoor
