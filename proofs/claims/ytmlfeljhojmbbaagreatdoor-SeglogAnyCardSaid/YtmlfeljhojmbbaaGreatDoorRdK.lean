/- Walks: the document's disk: Sync, Remove, Rename, Read. Walks: the document's disk: Read, Cut. -/
import Derived.Test.YtmlfeljhojmbbaaGreatDoorRdA
namespace Go.Proofs.YtmlfeljhojmbbaaGreatDoor
open Go.RowKit Go.Maps
set_option linter.unusedSimpArgs false
set_option linter.unusedVariables false
set_option maxRecDepth 100000

section
variable {w w' : World} {gx : Nat} {v : Value} {R : List RF} {room short fuse : Int}
theorem chErr_tt {f : Int} (h : f ≠ 0) : chErr true f = 0 := by simp [chErr, h]
theorem AfterD.quiet {w w' w'' : World} {T' : List Fl} {room' short' fuse' : Int} (h : AfterD w w' gx v R T' room' short' fuse') (hb : Below w'.heap.size w' w'') : AfterD w w'' gx v R T' room' short' fuse' := by
  obtain ⟨⟨v', R', h1, h2, h3⟩, h4⟩ := h
  exact ⟨⟨v', R', h1.below hb, h2, h3⟩, h4.below_ hb⟩
theorem AfterD.drew {w w' : World} {T' : List Fl} {room' short' fuse' : Int} (h : AfterD w w' gx v R T' room' short' fuse') : AfterD w w'.drew gx v R T' room' short' fuse' :=
  h.quiet ⟨rfl, rfl, rfl, Nat.le_refl _, fun _ _ => rfl⟩
def rSyncE (T : List Fl) (s : List UInt8) (fuse : Int) : Int := if fuse = 0 then 62 else if (look T s).isSome then 0 else 60
def syncT (T : List Fl) (s : List UInt8) (fuse : Int) : List Fl := if fuse = 0 then T else (look T s).elim T fun p => setF T s p.1 p.1.length
theorem rsync_calls (hR : RdAt w gx v R room short fuse) (hp : (R.map RF.fl).Pairwise fun a b => a.1 ≠ b.1) (s : ByteArray) (hl : R.length < 900000) (f0 : -1 ≤ fuse) (f1 : fuse ≤ 9223372036854775807) :
    Calls Tryz.prog 25 #[.pointer (some ⟨gx, 0, none⟩), .string s] w fun e w' => e = .returned (.int .i64 (rSyncE (R.map RF.fl) s.data.toList fuse)) ∧ AfterD w w' gx v R (syncT (R.map RF.fl) s.data.toList fuse) room short (chFuse true fuse) := by
  have HB := Shut.mk (burn_calls hR f0 f1)
  unfold rSyncE syncT
  by_cases hf : fuse = 0
  · subst hf
    rw [if_pos rfl, if_pos rfl]
    have h0 : decide ((0 : Int) ≠ 0) = false := rfl
    rw [h0] at HB
    clear hR h0
    go_enter Tryz.func25, Tryz.ntmps25
    go_wp2_with fail
    refine HB.out.mono ?_
    rintro e w1 ⟨rfl, hR1, hk1⟩
    have HA := Shut.mk (AfterD.num hR1 hk1)
    clear hR1 hk1
    go_wp2_with fail
    go_ret
    exact ⟨rfl, HA.out⟩
  · rw [if_neg hf, if_neg hf]
    rw [decide_eq_true hf] at HB
    generalize chFuse true fuse = fu at HB ⊢
    rcases placeV_cases R s.data.toList with ⟨c, hc, hcs, hi, hpv, hk⟩ | ⟨hpv, hk⟩
    · rw [hk]
      have HX := Shut.mk hc
      have HS := Shut.mk hcs
      have HP := Shut.mk hp
      have HPV := Shut.mk hpv
      have hxm := Shut.mk (List.mem_of_getElem? hc)
      obtain ⟨k, hkq⟩ : ∃ k, k = idxD R s.data.toList := ⟨_, rfl⟩
      rw [← hkq] at HX HPV hi
      obtain ⟨NX, hNX⟩ : ∃ NX, NX = c.b.length := ⟨_, rfl⟩
      have HNX := Shut.mk hNX
      clear hR hc hcs hpv hk hp hNX hkq
      go_enter Tryz.func25, Tryz.ntmps25
      go_wp2_with fail
      refine HB.out.mono ?_
      rintro e w1 ⟨rfl, hR1, hk1⟩
      have HPL := Shut.mk (dplace_calls hR1 s (by omega))
      rw [HPV.out] at HPL
      have HR1 := Shut.mk hR1
      have HK1 := Shut.mk hk1
      clear hR1 hk1
      go_wp2_with fail
      refine HPL.out.mono ?_
      rintro e w4 ⟨rfl, hb4⟩
      have HR4 := Shut.mk (HR1.out.below hb4)
      have HK4 := Shut.mk (HK1.out.below_ hb4)
      obtain ⟨g, cap, hv, hnc, hcm, hcell⟩ := HR4.out.head (by omega)
      obtain ⟨N, hN⟩ : ∃ N, N = R.length := ⟨_, rfl⟩
      rw [← hN] at hi hl hv hnc
      have HN := Shut.mk hN
      unfold maxLen at hcm
      have c1 : w4.cell? ⟨g, k * 3 + 1, none⟩ = some (.slice c.A NX c.cp) := by rw [HNX.out]; exact hcell (k * 3 + 1) _ (rfs_get HX.out 1 (by omega))
      have c2 : w4.cell? ⟨g, k * 3 + 2, none⟩ = some (.int .i64 (c.syn : Int)) := hcell (k * 3 + 2) _ (rfs_get HX.out 2 (by omega))
      have c0 : w4.cell? ⟨gx, 0, none⟩ = some (.slice (some ⟨g, 0, none⟩) N cap) := by rw [← hv]; exact HR4.out.blk.cell 0
      have HV := Shut.mk hv
      have cf : w4.frozen? ⟨g, k * 3 + 2, none⟩ = false := by
        have := HR4.out.own
        rw [hv, ← hN] at this
        exact this.freeAt _
      have hkI : (k : Int) < (N : Int) := by omega
      have hk0 : ¬ (k : Int) < 0 := by omega
      have HA := Shut.mk (AfterD.set (w := w) (HR4.out.turns HX.out HV.out NX) (T' := setF (R.map RF.fl) s.data.toList c.b c.b.length) (by
        have h9 := set_fl HP.out HX.out (y := ⟨c.k, c.A, c.cp, c.b, NX⟩) rfl
        rw [HS.out] at h9
        rw [h9, HNX.out]) (((HK4.out.mono (L' := footD gx v R) (by simp [footD]))).setCell (by simp [footD, HV.out, Value.ownBlock]) _) (fun g hg => .inl hg) (fun d hd g' hg' => by
        rcases List.mem_or_eq_of_mem_set hd with hd | rfl
        · exact .inl (footD_own hd hg')
        · exact .inl (footD_own hxm.out hg')))
      clear hv hN hcell hb4
      go_wp2_with fail
      go_region
      all_goals (
        go_wp2_with fail
        go_ret
        exact ⟨rfl, HA.out.drew⟩)
    · rw [hk]
      have HPV := Shut.mk hpv
      clear hR hpv hk
      go_enter Tryz.func25, Tryz.ntmps25
      go_wp2_with fail
      refine HB.out.mono ?_
      rintro e w1 ⟨rfl, hR1, hk1⟩
      have HPL := Shut.mk (dplace_calls hR1 s (by omega))
      rw [HPV.out] at HPL
      have HR1 := Shut.mk hR1
      have HK1 := Shut.mk hk1
      clear hR1 hk1
      go_wp2_with fail
      refine HPL.out.mono ?_
      rintro e w4 ⟨rfl, hb4⟩
      have HA := Shut.mk (AfterD.num (HR1.out.below hb4) (HK1.out.below_ hb4))
      clear hb4
      go_wp2_with fail
      go_ret
      exact ⟨rfl, HA.out⟩
def rDelE (T : List Fl) (s : List UInt8) (fuse : Int) : Int := if fuse = 0 then 62 else if (look T s).isSome then 0 else 60
def delT (T : List Fl) (s : List UInt8) (fuse : Int) : List Fl := if fuse = 0 then T else if (look T s).isSome then delF T s else T
theorem rremove_calls (hR : RdAt w gx v R room short fuse) (s : ByteArray) (hl : R.length < 900000) (f0 : -1 ≤ fuse) (f1 : fuse ≤ 9223372036854775807) :
    Calls Tryz.prog 31 #[.pointer (some ⟨gx, 0, none⟩), .string s] w fun e w' => e = .returned (.int .i64 (rDelE (R.map RF.fl) s.data.toList fuse)) ∧ AfterD w w' gx v R (delT (R.map RF.fl) s.data.toList fuse) room short (chFuse true fuse) := by
  have HB := Shut.mk (burn_calls hR f0 f1)
  unfold rDelE delT
  by_cases hf : fuse = 0
  · subst hf
    rw [if_pos rfl, if_pos rfl]
    have h0 : decide ((0 : Int) ≠ 0) = false := rfl
    rw [h0] at HB
    clear hR h0
    go_enter Tryz.func31, Tryz.ntmps31
    go_wp2_with fail
    refine HB.out.mono ?_
    rintro e w1 ⟨rfl, hR1, hk1⟩
    have HA := Shut.mk (AfterD.num hR1 hk1)
    clear hR1 hk1
    go_wp2_with fail
    go_ret
    exact ⟨rfl, HA.out⟩
  · rw [if_neg hf, if_neg hf]
    rw [decide_eq_true hf] at HB
    generalize chFuse true fuse = fu at HB ⊢
    have hpc := placeV_cases R s.data.toList
    obtain ⟨lk, hlk⟩ : ∃ l, l = look (R.map RF.fl) s.data.toList := ⟨_, rfl⟩
    rw [← hlk] at hpc ⊢
    clear hR hlk
    go_enter Tryz.func31, Tryz.ntmps31
    go_wp2_with fail
    refine HB.out.mono ?_
    rintro e w1 ⟨rfl, hR1, hk1⟩
    have HPL := Shut.mk (dplace_calls hR1 s (by omega))
    have HR1 := Shut.mk hR1
    have HK1 := Shut.mk hk1
    clear hR1 hk1
    go_wp2_with fail
    refine HPL.out.mono ?_
    rintro e w4 ⟨rfl, hb4⟩
    have HR4 := Shut.mk (HR1.out.below hb4)
    have HK4 := Shut.mk (HK1.out.below_ hb4)
    clear hb4
    rcases hpc with ⟨c, _, _, _, hpv, rfl⟩ | ⟨hpv, rfl⟩
    · rw [hpv]
      have hk0 : ¬ (idxD R s.data.toList : Int) < 0 := by omega
      have HD := Shut.mk (rdrop_calls HR4.out s (by omega))
      go_wp2_with fail
      refine HD.out.mono ?_
      rintro e w5 ⟨rfl, v5, hR5, hk5, hv5⟩
      have HA := Shut.mk (AfterD.set (w := w) (v := v) hR5 (keepD_fl _ _) ((HK4.out.trans hk5 (fun x hx => .inl hx)).mono (by simp [footD])) (fun g hg => .inr (Nat.le_trans HK4.out.size (hv5 g hg))) (fun d hd g' hg' => .inl (footD_own (List.mem_filter.1 hd).1 hg')))
      clear hR5 hk5 hv5
      go_wp2_with fail
      go_ret
      exact ⟨rfl, HA.out⟩
    · rw [hpv]
      have HA := Shut.mk (AfterD.num HR4.out HK4.out)
      go_wp2_with fail
      go_ret
      exact ⟨rfl, HA.out⟩
def rRenE (T : List Fl) (a z : List UInt8) (fuse : Int) : Int := if chErr (nameOk z) fuse ≠ 0 then chErr (nameOk z) fuse else if (look T a).isSome then 0 else 60
def renT (T : List Fl) (a z : List UInt8) (fuse : Int) : List Fl := if chErr (nameOk z) fuse ≠ 0 then T else (look T a).elim T fun p => insF (z, p.1, p.2) (delF (delF T a) z)
set_option maxHeartbeats 1000000 in
theorem rrename_calls (hR : RdAt w gx v R room short fuse) (s t : ByteArray) (hl : R.length < 900000) (ht : t.size ≤ reach) (f0 : -1 ≤ fuse) (f1 : fuse ≤ 9223372036854775807) :
    Calls Tryz.prog 29 #[.pointer (some ⟨gx, 0, none⟩), .string s, .string t] w fun e w' => e = .returned (.int .i64 (rRenE (R.map RF.fl) s.data.toList t.data.toList fuse)) ∧ AfterD w w' gx v R (renT (R.map RF.fl) s.data.toList t.data.toList fuse) room short (chFuse (nameOk t.data.toList) fuse) := by
  have HN := Shut.mk (risName_calls t w ht)
  have HB := Shut.mk (burn_calls hR f0 f1)
  unfold rRenE renT
  cases hok : nameOk t.data.toList with
  | false =>
    rw [hok] at HN
    have h1 : chErr false fuse = 1 := rfl
    have h2 : chFuse false fuse = fuse := rfl
    have HA := Shut.mk (AfterD.num hR (Kb.refl _ _))
    rw [h1, h2, if_pos (by decide), if_pos (by decide)]
    clear hR h1 h2 hok
    go_enter Tryz.func29, Tryz.ntmps29
    go_wp2_with fail
    refine HN.out.mono ?_
    rintro e w1 ⟨rfl, rfl⟩
    go_wp2_with fail
    go_ret
    exact ⟨rfl, HA.out⟩
  | true =>
    rw [hok] at HN
    by_cases hf : fuse = 0
    · subst hf
      have h1 : chErr true 0 = 62 := rfl
      have h0 : decide ((0 : Int) ≠ 0) = false := rfl
      rw [h0] at HB
      rw [h1, if_pos (by decide), if_pos (by decide)]
      clear hR h1 h0 hok
      go_enter Tryz.func29, Tryz.ntmps29
      go_wp2_with fail
      refine HN.out.mono ?_
      rintro e w1 ⟨rfl, rfl⟩
      go_wp2_with fail
      refine HB.out.mono ?_
      rintro e w1 ⟨rfl, hR1, hk1⟩
      have HA := Shut.mk (AfterD.num hR1 hk1)
      clear hR1 hk1
      go_wp2_with fail
      go_ret
      exact ⟨rfl, HA.out⟩
    · have h1 : chErr true fuse = 0 := chErr_tt hf
      rw [h1, if_neg (show ¬ (0 : Int) ≠ 0 by decide), if_neg (show ¬ (0 : Int) ≠ 0 by decide)]
      rw [decide_eq_true hf] at HB
      generalize chFuse true fuse = fu at HB ⊢
      have hpc := placeV_cases R s.data.toList
      obtain ⟨lk, hlk⟩ : ∃ l, l = look (R.map RF.fl) s.data.toList := ⟨_, rfl⟩
      rw [← hlk] at hpc ⊢
      clear hR hlk h1 hok
      go_enter Tryz.func29, Tryz.ntmps29
      go_wp2_with fail
      refine HN.out.mono ?_
      rintro e w1 ⟨rfl, rfl⟩
      go_wp2_with fail
      refine HB.out.mono ?_
      rintro e w1 ⟨rfl, hR1, hk1⟩
      have HPL := Shut.mk (dplace_calls hR1 s (by omega))
      have HR1 := Shut.mk hR1
      have HK1 := Shut.mk hk1
      clear hR1 hk1
      go_wp2_with fail
      refine HPL.out.mono ?_
      rintro e w4 ⟨rfl, hb4⟩
      have HR4 := Shut.mk (HR1.out.below hb4)
      have HK4 := Shut.mk (HK1.out.below_ hb4)
      clear hb4
      rcases hpc with ⟨c, hc, hcs, hi, hpv, rfl⟩ | ⟨hpv, rfl⟩
      · rw [hpv]
        have hk0 : ¬ (idxD R s.data.toList : Int) < 0 := by omega
        obtain ⟨k, hkq⟩ : ∃ k, k = idxD R s.data.toList := ⟨_, rfl⟩
        rw [← hkq] at hi hc hk0 ⊢
        have HX := Shut.mk hc
        have HXM := Shut.mk (List.mem_of_getElem? hc)
        obtain ⟨g, cap, hv, hnc, hcm, hcell⟩ := HR4.out.head (by omega)
        have c0 : w4.cell? ⟨gx, 0, none⟩ = some (.slice (some ⟨g, 0, none⟩) R.length cap) := by rw [← hv]; exact HR4.out.blk.cell 0
        have d0 : w4.cell? ⟨g, k * 3, none⟩ = some (.string c.k) := hcell (k * 3) _ (rfs_get HX.out 0 (by omega))
        have d1 : w4.cell? ⟨g, k * 3 + 1, none⟩ = some (.slice c.A c.b.length c.cp) := hcell (k * 3 + 1) _ (rfs_get HX.out 1 (by omega))
        have d2 : w4.cell? ⟨g, k * 3 + 2, none⟩ = some (.int .i64 (c.syn : Int)) := hcell (k * 3 + 2) _ (rfs_get HX.out 2 (by omega))
        have hkI : (k : Int) < (R.length : Int) := by omega
        have hba : Below w4.heap.size w4 (w4.alloc c.obj) := (Below.refl _ w4).alloc (Nat.le_refl _) c.obj
        have HD := Shut.mk (rdrop_calls (HR4.out.below hba) s (by omega))
        have HB0 := Shut.mk (Blk.new w4 115 #[.string c.k, .slice c.A c.b.length c.cp, .int .i64 (c.syn : Int)])
        have HOC := Shut.mk ((HR4.out.rows c HXM.out).below hba fun g hg => (HR4.out.rows c HXM.out).block_lt hg)
        have HKA := Shut.mk (HK4.out.alloc c.obj)
        have hgx4 : gx < w4.heap.size := HR4.out.blk.lt
        have hsA : (w4.alloc c.obj).heap.size = w4.heap.size + 1 := World.size_alloc _ _
        clear hc hcs hpv hv hcell hba hkq
        go_wp2_with fail
        refine HD.out.mono ?_
        rintro e w5 ⟨rfl, v5, hR5, hk5, hv5⟩
        have HB5 := Shut.mk (hk5.blk HB0.out (by simp; omega))
        have HOC5 := Shut.mk (hk5.own HOC.out (by
          intro g' hg'
          have := (HR4.out.own_ne HXM.out g' hg').1
          simpa using this))
        have HD2 := Shut.mk (rdrop_calls hR5 t (Nat.lt_of_le_of_lt (keepD_len _ _) (by omega)))
        have HK5 := Shut.mk (HKA.out.trans hk5 (fun x hx => .inl hx))
        have hR5l := hR5.blk.lt
        have hs5 := hk5.size
        clear hR5 hk5 hv5
        go_wp2_with fail
        refine HD2.out.mono ?_
        rintro e w6 ⟨rfl, v6, hR6, hk6, hv6⟩
        have HB6 := Shut.mk (hk6.blk HB5.out (by simp; omega))
        have HOC6 := Shut.mk (hk6.own HOC5.out (by
          intro g' hg'
          have := (HR4.out.own_ne HXM.out g' hg').1
          simpa using this))
        have HK6 := Shut.mk (HK5.out.trans hk6 (fun x hx => .inl hx))
        have e0 : w6.cell? ⟨w4.heap.size, 0, none⟩ = some (.string c.k) := HB6.out.cell 0
        have ef := HB6.out.free 0
        have hbs := HB6.out.set_ 0 (.string t)
        have hks : Kb w6 (w6.setCell ⟨w4.heap.size, 0, none⟩ (.string t)) [w4.heap.size] := (Kb.refl w6 _).setCell (by simp) _
        have HK7 := Shut.mk ((HK6.out.mono (L' := [gx, w4.heap.size]) (by simp)).setCell (p := ⟨w4.heap.size, 0, none⟩) (by simp) (.string t))
        have hRR : RdAt (w6.setCell ⟨w4.heap.size, 0, none⟩ (.string t)) gx v6 (keepD t.data.toList (keepD s.data.toList R)) room short fu := hR6.keep hks (by
          intro x hx
          rw [List.mem_singleton]
          rcases footD_cases hx with rfl | hx | ⟨d, hd, hx⟩
          · omega
          · have := hv6 x hx
            omega
          · exact own_block_ne (hR6.rows d hd) HB6.out (by decide) x hx)
        have hox : Own (w6.setCell ⟨w4.heap.size, 0, none⟩ (.string t)) 5 1 (RF.v ⟨t, c.A, c.cp, c.b, c.syn⟩) c.b.length (bys c.b) := hks.own HOC6.out (by
          intro g' hg'
          rw [List.mem_singleton]
          exact own_block_ne HOC6.out HB6.out (by decide) g' hg')
        have g0 : (w6.setCell ⟨w4.heap.size, 0, none⟩ (.string t)).cell? ⟨w4.heap.size, 0, none⟩ = some (.string t) := hbs.cell 0
        have g1 : (w6.setCell ⟨w4.heap.size, 0, none⟩ (.string t)).cell? ⟨w4.heap.size, 1, none⟩ = some (.slice c.A c.b.length c.cp) := hbs.cell 1
        have g2 : (w6.setCell ⟨w4.heap.size, 0, none⟩ (.string t)).cell? ⟨w4.heap.size, 2, none⟩ = some (.int .i64 (c.syn : Int)) := hbs.cell 2
        have HAD := Shut.mk (radd_calls hRR ⟨t, c.A, c.cp, c.b, c.syn⟩ hox (Nat.lt_of_le_of_lt (Nat.le_trans (keepD_len _ _) (keepD_len _ _)) (by omega)))
        have HW7 : (w6.setCell ⟨w4.heap.size, 0, none⟩ (.string t)).heap.size = w6.heap.size := by simp
        have hs6 := hk6.size
        have hs04 := HK4.out.size
        clear hRR hox hbs hks hR6 hk6 hv6
        go_wp2_with fail
        refine HAD.out.mono ?_
        rintro e w8 ⟨rfl, v8, hR8, hk8, hv8⟩
        have HK8 := Shut.mk (HK7.out.trans hk8 (fun x hx => .inl (by simp at hx; simp [hx])))
        have HA := Shut.mk (AfterD.set (w := w) (v := v) (R := R) hR8 (T' := insF (t.data.toList, c.b, c.syn) (delF (delF (R.map RF.fl) s.data.toList) t.data.toList)) (by rw [insD_fl, keepD_fl, keepD_fl]; rfl)
          (HK8.out.fresh (fun x hx => by
            simp at hx
            rcases hx with rfl | rfl
            · exact .inl gx_foot
            · exact .inr hs04)) (fun g' hg' => .inr (by have := hv8 g' hg'; omega)) (fun d hd g' hg' => by
            rcases List.mem_cons.1 ((insD_perm _ _).mem_iff.1 hd) with rfl | hd
            · exact .inl (footD_own HXM.out hg')
            · exact .inl (footD_own (List.mem_filter.1 (List.mem_filter.1 hd).1).1 hg')))
        clear hR8 hk8 hv8
        go_wp2_with fail
        go_ret
        exact ⟨rfl, HA.out⟩
      · rw [hpv]
        have HA := Shut.mk (AfterD.num HR4.out HK4.out)
        go_wp2_with fail
        go_ret
        exact ⟨rfl, HA.out⟩
end
end Go.Proofs.YtmlfeljhojmbbaaGreatDoor

namespace Go.Proofs.YtmlfeljhojmbbaaGreatDoor
open Go.RowKit Go.Maps
set_option linter.unusedSimpArgs false
set_option linter.unusedVariables false
set_option maxRecDepth 100000

section
variable {w w' : World} {gx : Nat} {v : Value} {R : List RF} {room short fuse : Int}
theorem rread_none (hR : RdAt w gx v R room short fuse) (s : ByteArray) (hl : R.length < 900000) (hk : look (R.map RF.fl) s.data.toList = none) :
    Calls Tryz.prog 76 #[.pointer (some ⟨gx, 0, none⟩), .string s] w fun e w' => e = .returned (.tuple #[.slice none 0 0, .int .i64 60]) ∧ Below w.heap.size w w' := by
  have HPL := Shut.mk (dplace_calls hR s (by omega))
  rcases placeV_cases R s.data.toList with ⟨c, hc, hcs, hi, hpv, h2⟩ | ⟨hpv, _⟩
  · rw [hk] at h2
    cases h2
  rw [hpv] at HPL
  clear hR hpv hk
  go_enter Tryz.func76, Tryz.ntmps76
  go_wp2_with fail
  refine HPL.out.mono ?_
  rintro e w4 ⟨rfl, hb4⟩
  go_wp2_with fail
  go_ret2
  exact ⟨rfl, hb4⟩
set_option maxHeartbeats 1000000 in
theorem rread_calls (hR : RdAt w gx v R room short fuse) (s : ByteArray) (hl : R.length < 900000) {b : List UInt8} {sy : Nat} (hk : look (R.map RF.fl) s.data.toList = some (b, sy)) (hbl : b.length ≤ 1099511627776) :
    Calls Tryz.prog 76 #[.pointer (some ⟨gx, 0, none⟩), .string s] w fun e w' => ∃ v, e = .returned (.tuple #[v, .int .i64 0]) ∧ Own w' 5 1 v b.length (bys b) ∧ Below w.heap.size w w' ∧ ∀ g, v.ownBlock = some g → w.heap.size ≤ g := by
  obtain ⟨i0, hi0, hz0, hz1, hz2⟩ := info_parts info_u8
  have HPL := Shut.mk (dplace_calls hR s (by omega))
  rcases placeV_cases R s.data.toList with ⟨c, hc, hcs, hi, hpv, h2⟩ | ⟨hpv, h2⟩
  · rw [hk] at h2
    injection h2 with h2
    injection h2 with h2 h3
    subst h2
    rw [hpv] at HPL
    obtain ⟨k, hkq⟩ : ∃ k, k = idxD R s.data.toList := ⟨_, rfl⟩
    rw [← hkq] at hi hc HPL
    have HX := Shut.mk hc
    have HXM := Shut.mk (List.mem_of_getElem? hc)
    have HR := Shut.mk hR
    obtain ⟨NX, hNX⟩ : ∃ NX, NX = c.b.length := ⟨_, rfl⟩
    rw [← hNX] at hbl ⊢
    have HNX := Shut.mk hNX
    have hk0 : ¬ (k : Int) < 0 := by omega
    have hkI : (k : Int) < (R.length : Int) := by omega
    clear hR hpv hk hc hcs hkq h3 hNX
    go_enter Tryz.func76, Tryz.ntmps76
    go_wp2_with fail
    refine HPL.out.mono ?_
    rintro e w4 ⟨rfl, hb4⟩
    have HR4 := Shut.mk (HR.out.below hb4)
    have HB4 := Shut.mk hb4
    obtain ⟨g, cap, hv, hnc, hcm, hcell⟩ := HR4.out.head (by omega)
    have c0 : w4.cell? ⟨gx, 0, none⟩ = some (.slice (some ⟨g, 0, none⟩) R.length cap) := by rw [← hv]; exact HR4.out.blk.cell 0
    have c1 : w4.cell? ⟨g, k * 3 + 1, none⟩ = some (.slice c.A NX c.cp) := by rw [HNX.out]; exact hcell (k * 3 + 1) _ (rfs_get HX.out 1 (by omega))
    have d0 : (w4.alloc (.cells #[] 5)).cell? ⟨gx, 0, none⟩ = some (.slice (some ⟨g, 0, none⟩) R.length cap) := (World.cell?_alloc_lt w4 _ _ (World.block_lt_of_cell? w4 _ c0)).trans c0
    have d1 : (w4.alloc (.cells #[] 5)).cell? ⟨g, k * 3 + 1, none⟩ = some (.slice c.A NX c.cp) := (World.cell?_alloc_lt w4 _ _ (World.block_lt_of_cell? w4 _ c1)).trans c1
    have hba : Below w4.heap.size w4 (w4.alloc (.cells #[] 5)) := (Below.refl _ w4).alloc (Nat.le_refl _) _
    have HOC := Shut.mk (HR4.out.rows c HXM.out)
    have HRC := Shut.mk (show Rd (w4.alloc (.cells #[] 5)) c.A (bys c.b) from by
      have h9 := HOC.out.below hba fun g hg => HOC.out.block_lt hg
      obtain ⟨A9, c9, e9, h8, _⟩ := h9.form
      have : c.A = A9 := by unfold RF.v at e9; injection e9
      rw [this]
      exact h8)
    have HCL := Shut.mk (show (bys c.b).length = NX * 1 by rw [bys_length, HNX.out, Nat.mul_one])
    have HOE := Shut.mk (own_empty w4 5 1)
    have HBA := Shut.mk (HB4.out.alloc HB4.out.size (.cells #[] 5))
    have hs4 := HB4.out.size
    clear hv hcell hb4 hba
    go_wp2_with (
      at_builtin
      refine wpList_append _ rfl _ _ _ rfl 5 i0 _ 1 1 Tryz.underlying27 hi0 hz0 hz1 hz2 rfl (by decide) _ _ _ rfl HOE.out _ NX c.cp _ rfl HCL.out HRC.out (bys_one _) (by simp only [maxLen]; omega) (by omega) ?_
      intro v8 w8 hap
      obtain ⟨A8, c8, hv8, _⟩ := hap.own.form
      rw [Nat.zero_add] at hv8
      subst hv8
      have HO8 := Shut.mk (hap.own.cast (Nat.zero_add NX) (List.nil_append _))
      have HB8 := Shut.mk (HBA.out.grown hap.grown HBA.out.size (fun r hr => by cases hr; exact hs4))
      have HL8 := Shut.mk (new_append (B := w.heap.size) (v := .slice (some ⟨w4.heap.size, 0, none⟩) 0 0) HBA.out.size (fun g hg => by cases hg; exact hs4) hap.lies)
      clear hap)
    go_ret2
    exact ⟨_, rfl, HO8.out, HB8.out, HL8.out⟩
  · rw [hk] at h2
    cases h2
def cutOkF (T : List Fl) (s : List UInt8) (k : Int) : Bool := match look T s with | none => decide (0 ≤ k) | some p => decide (0 ≤ k ∧ k ≤ p.1.length)
def rCutE (T : List Fl) (s : List UInt8) (k fuse : Int) : Int := if chErr (cutOkF T s k) fuse ≠ 0 then chErr (cutOkF T s k) fuse else if (look T s).isSome then 0 else 60
def cutT (T : List Fl) (s : List UInt8) (k fuse : Int) : List Fl := if chErr (cutOkF T s k) fuse ≠ 0 then T else (look T s).elim T fun p => setF T s (p.1.take k.toNat) (min p.2 k.toNat)
set_option maxHeartbeats 1000000 in
theorem rcut_none (hR : RdAt w gx v R room short fuse) (s : ByteArray) (k : Int) (hl : R.length < 900000) (f0 : -1 ≤ fuse) (f1 : fuse ≤ 9223372036854775807) (hk : look (R.map RF.fl) s.data.toList = none) :
    Calls Tryz.prog 27 #[.pointer (some ⟨gx, 0, none⟩), .string s, .int .i64 k] w fun e w' => e = .returned (.int .i64 (rCutE (R.map RF.fl) s.data.toList k fuse)) ∧ AfterD w w' gx v R (cutT (R.map RF.fl) s.data.toList k fuse) room short (chFuse (cutOkF (R.map RF.fl) s.data.toList k) fuse) := by
  have HPL := Shut.mk (dplace_calls hR s (by omega))
  rcases placeV_cases R s.data.toList with ⟨c, hc, hcs, hi, hpv, h2⟩ | ⟨hpv, _⟩
  · rw [hk] at h2
    cases h2
  rw [hpv] at HPL
  have hco : cutOkF (R.map RF.fl) s.data.toList k = decide (0 ≤ k) := by unfold cutOkF; rw [hk]
  unfold rCutE cutT
  rw [hco, hk]
  have HR := Shut.mk hR
  clear hR hpv hk hco
  by_cases hk0 : 0 ≤ k
  · rw [decide_eq_true hk0]
    have g0 : ¬ k < 0 := by omega
    by_cases hf : fuse = 0
    · subst hf
      have h1 : chErr true 0 = 62 := rfl
      rw [h1, if_pos (by decide), if_pos (by decide)]
      clear h1
      go_enter Tryz.func27, Tryz.ntmps27
      go_wp2_with fail
      refine HPL.out.mono ?_
      rintro e w4 ⟨rfl, hb4⟩
      have HB := Shut.mk (burn_calls (HR.out.below hb4) f0 f1)
      have h0 : decide ((0 : Int) ≠ 0) = false := rfl
      rw [h0] at HB
      have HK4 := Shut.mk (Kb.of_below hb4 [gx])
      clear h0 hb4
      go_wp2_with fail
      refine HB.out.mono ?_
      rintro e w1 ⟨rfl, hR1, hk1⟩
      have HA := Shut.mk (AfterD.num hR1 (HK4.out.trans hk1 (fun x hx => .inl hx)))
      clear hR1 hk1
      go_wp2_with fail
      go_ret
      exact ⟨rfl, HA.out⟩
    · have h1 : chErr true fuse = 0 := chErr_tt hf
      rw [h1, if_neg (show ¬ (0 : Int) ≠ 0 by decide), if_neg (show ¬ (0 : Int) ≠ 0 by decide)]
      clear h1
      go_enter Tryz.func27, Tryz.ntmps27
      go_wp2_with fail
      refine HPL.out.mono ?_
      rintro e w4 ⟨rfl, hb4⟩
      have HB := Shut.mk (burn_calls (HR.out.below hb4) f0 f1)
      rw [decide_eq_true hf] at HB
      have HK4 := Shut.mk (Kb.of_below hb4 [gx])
      clear hb4
      go_wp2_with fail
      refine HB.out.mono ?_
      rintro e w1 ⟨rfl, hR1, hk1⟩
      have HA := Shut.mk (AfterD.num hR1 (HK4.out.trans hk1 (fun x hx => .inl hx)))
      clear hR1 hk1
      go_wp2_with fail
      go_ret
      exact ⟨rfl, HA.out⟩
  · rw [decide_eq_false hk0]
    have g0 : k < 0 := by omega
    have h1 : chErr false fuse = 1 := rfl
    have h2 : chFuse false fuse = fuse := rfl
    rw [h1, h2, if_pos (by decide), if_pos (by decide)]
    clear h1 h2 hk0
    go_enter Tryz.func27, Tryz.ntmps27
    go_wp2_with fail
    refine HPL.out.mono ?_
    rintro e w4 ⟨rfl, hb4⟩
    have HA := Shut.mk (AfterD.num (HR.out.below hb4) (Kb.of_below hb4 [gx]))
    clear hb4
    go_wp2_with fail
    go_ret
    exact ⟨rfl, HA.out⟩
set_option maxHeartbeats 4000000 in
theorem rcut_some (hR : RdAt w gx v R room short fuse) (hp : (R.map RF.fl).Pairwise fun a b => a.1 ≠ b.1) (s : ByteArray) (k : Int) (hl : R.length < 900000) (f0 : -1 ≤ fuse) (f1 : fuse ≤ 9223372036854775807) {b : List UInt8} {sy : Nat} (hk : look (R.map RF.fl) s.data.toList = some (b, sy)) (hbl : b.length ≤ 1099511627776) (hsy : sy ≤ 1099511627776) :
    Calls Tryz.prog 27 #[.pointer (some ⟨gx, 0, none⟩), .string s, .int .i64 k] w fun e w' => e = .returned (.int .i64 (rCutE (R.map RF.fl) s.data.toList k fuse)) ∧ AfterD w w' gx v R (cutT (R.map RF.fl) s.data.toList k fuse) room short (chFuse (cutOkF (R.map RF.fl) s.data.toList k) fuse) := by
  obtain ⟨i0, hi0, hz0, hz1, hz2⟩ := info_parts info_u8
  have HPL := Shut.mk (dplace_calls hR s (by omega))
  have hco : cutOkF (R.map RF.fl) s.data.toList k = decide (0 ≤ k ∧ k ≤ b.length) := by unfold cutOkF; rw [hk]
  unfold rCutE cutT
  rw [hco, hk]
  have HR := Shut.mk hR
  by_cases hkn : k < 0
  · rw [decide_eq_false (by omega)]
    have h1 : chErr false fuse = 1 := rfl
    have h2 : chFuse false fuse = fuse := rfl
    rw [h1, h2, if_pos (by decide), if_pos (by decide)]
    clear h1 h2 hR hk hco
    go_enter Tryz.func27, Tryz.ntmps27
    go_wp2_with fail
    refine HPL.out.mono ?_
    rintro e w4 ⟨rfl, hb4⟩
    have HA := Shut.mk (AfterD.num (HR.out.below hb4) (Kb.of_below hb4 [gx]))
    clear hb4
    go_wp2_with fail
    go_ret
    exact ⟨rfl, HA.out⟩
  rcases placeV_cases R s.data.toList with ⟨c, hc, hcs, hi, hpv, h2⟩ | ⟨hpv, h2⟩
  · rw [hk] at h2
    injection h2 with h2
    injection h2 with h2 h3
    subst h2
    subst h3
    rw [hpv] at HPL
    obtain ⟨p, hpq⟩ : ∃ p, p = idxD R s.data.toList := ⟨_, rfl⟩
    rw [← hpq] at hi hc HPL
    have HX := Shut.mk hc
    have HXM := Shut.mk (List.mem_of_getElem? hc)
    have HP := Shut.mk hp
    have HS := Shut.mk hcs
    obtain ⟨NX, hNX⟩ : ∃ NX, NX = c.b.length := ⟨_, rfl⟩
    rw [← hNX] at hbl ⊢
    have HNX := Shut.mk hNX
    have hp0 : ¬ (p : Int) < 0 := by omega
    have hp1 : (p : Int) ≥ 0 := by omega
    have hpI : (p : Int) < (R.length : Int) := by omega
    clear hR hpv hk hc hcs hpq hNX hco hp
    by_cases hkb : k ≤ (NX : Int)
    · have g1 : ¬ k > (NX : Int) := by omega
      rw [decide_eq_true (by omega)]
      by_cases hf : fuse = 0
      · subst hf
        have h1 : chErr true 0 = 62 := rfl
        rw [h1, if_pos (by decide), if_pos (by decide)]
        clear h1
        go_enter Tryz.func27, Tryz.ntmps27
        go_wp2_with fail
        refine HPL.out.mono ?_
        rintro e w4 ⟨rfl, hb4⟩
        have HR4 := Shut.mk (HR.out.below hb4)
        obtain ⟨g, cap, hv, hnc, hcm, hcell⟩ := HR4.out.head (by omega)
        have c0 : w4.cell? ⟨gx, 0, none⟩ = some (.slice (some ⟨g, 0, none⟩) R.length cap) := by rw [← hv]; exact HR4.out.blk.cell 0
        have c1 : w4.cell? ⟨g, p * 3 + 1, none⟩ = some (.slice c.A NX c.cp) := by rw [HNX.out]; exact hcell (p * 3 + 1) _ (rfs_get HX.out 1 (by omega))
        have HB := Shut.mk (burn_calls HR4.out f0 f1)
        have h0 : decide ((0 : Int) ≠ 0) = false := rfl
        rw [h0] at HB
        have HK4 := Shut.mk (Kb.of_below hb4 [gx])
        clear h0 hb4 hv hcell
        go_wp2_with fail
        refine HB.out.mono ?_
        rintro e w1 ⟨rfl, hR1, hk1⟩
        have HA := Shut.mk (AfterD.num hR1 (HK4.out.trans hk1 (fun x hx => .inl hx)))
        clear hR1 hk1
        go_wp2_with fail
        go_ret
        exact ⟨rfl, HA.out⟩
      · have h1 : chErr true fuse = 0 := chErr_tt hf
        rw [h1, if_neg (show ¬ (0 : Int) ≠ 0 by decide), if_neg (show ¬ (0 : Int) ≠ 0 by decide)]
        obtain ⟨q, rfl⟩ : ∃ q : Nat, k = (q : Int) := ⟨k.toNat, by omega⟩
        have hqn : (q : Int).toNat = q := by omega
        rw [hqn]
        have hb := fun (w4 : World) (hb4 : Below w.heap.size w w4) => burn_calls (HR.out.below hb4) f0 f1
        rw [decide_eq_true hf] at hb
        generalize chFuse true fuse = fu at hb ⊢
        have HB := Shut.mk hb
        have hqc : q ≤ NX := by omega
        clear h1 hqn hb
        have HT := Shut.mk (show (c.b.take q).length = q by rw [List.length_take, ← HNX.out]; omega)
        have HBL := Shut.mk (show (bys (c.b.take q)).length = q * 1 by rw [bys_length, HT.out, Nat.mul_one])
        obtain ⟨N, hN⟩ : ∃ N, N = R.length := ⟨_, rfl⟩
        have HN := Shut.mk hN
        go_enter Tryz.func27, Tryz.ntmps27
        go_wp2_with fail
        refine HPL.out.mono ?_
        rintro e w4 ⟨rfl, hb4⟩
        have HR4 := Shut.mk (HR.out.below hb4)
        obtain ⟨g, cap, hv, hnc, hcm, hcell⟩ := HR4.out.head (by omega)
        rw [← hN] at hnc hv hpI hi
        have c0 : w4.cell? ⟨gx, 0, none⟩ = some (.slice (some ⟨g, 0, none⟩) N cap) := by rw [← hv]; exact HR4.out.blk.cell 0
        have c1 : w4.cell? ⟨g, p * 3 + 1, none⟩ = some (.slice c.A NX c.cp) := by rw [HNX.out]; exact hcell (p * 3 + 1) _ (rfs_get HX.out 1 (by omega))
        have HK4 := Shut.mk (Kb.of_below hb4 [gx])
        have HBW := Shut.mk (HB.out w4 hb4)
        have HV := Shut.mk hv
        unfold maxLen at hcm
        clear hb4 hv hcell hN
        go_wp2_with fail
        refine HBW.out.mono ?_
        rintro e w5 ⟨rfl, hR5, hk5⟩
        have HR5 := Shut.mk hR5
        have HK5 := Shut.mk (HK4.out.trans hk5 (fun x hx => .inl hx))
        obtain ⟨g', cap', hv', _, _, hcell⟩ := hR5.head (by rw [← HN.out]; omega)
        have hgg : g' = g ∧ cap' = cap := by
          have h9 := HV.out
          rw [hv'] at h9
          injection h9 with e1 e2 e3
          injection e1 with e1
          injection e1 with e1
          exact ⟨e1, e3⟩
        obtain ⟨rfl, rfl⟩ := hgg
        have c0 : w5.cell? ⟨gx, 0, none⟩ = some (.slice (some ⟨g', 0, none⟩) N cap') := by rw [← HV.out]; exact hR5.blk.cell 0
        have c1 : w5.cell? ⟨g', p * 3 + 1, none⟩ = some (.slice c.A NX c.cp) := by rw [HNX.out]; exact hcell (p * 3 + 1) _ (rfs_get HX.out 1 (by omega))
        have c2 : w5.cell? ⟨g', p * 3 + 2, none⟩ = some (.int .i64 (c.syn : Int)) := hcell (p * 3 + 2) _ (rfs_get HX.out 2 (by omega))
        have hgl := World.block_lt_of_cell? _ _ c1
        have hgx5 := World.block_lt_of_cell? _ _ c0
        have HC0 := Shut.mk c0
        have HC1 := Shut.mk c1
        have HC2 := Shut.mk c2
        have hba : Below w5.heap.size w5 (w5.alloc (.cells #[] 5)).drew := by have := (Below.refl _ w5).alloc (Nat.le_refl _) (.cells #[] 5); exact ⟨this.os, this.tape, this.output, this.size, this.block⟩
        have d0 : (w5.alloc (.cells #[] 5)).cell? ⟨gx, 0, none⟩ = some (.slice (some ⟨g', 0, none⟩) N cap') := (World.cell?_alloc_lt w5 _ _ (World.block_lt_of_cell? w5 _ c0)).trans c0
        have d1 : (w5.alloc (.cells #[] 5)).cell? ⟨g', p * 3 + 1, none⟩ = some (.slice c.A NX c.cp) := (World.cell?_alloc_lt w5 _ _ (World.block_lt_of_cell? w5 _ c1)).trans c1
        have HOC := Shut.mk (HR5.out.rows c HXM.out)
        have hcc : NX ≤ c.cp ∧ c.cp ≤ 9223372036854775807 := by
          obtain ⟨A9, c9, e9, _, h9, h8, _⟩ := HOC.out.form
          unfold RF.v at e9
          injection e9 with e1 e2 e3
          rw [← e3, ← HNX.out] at h9
          rw [← e3] at h8
          unfold maxLen at h8
          exact ⟨h9, by omega⟩
        obtain ⟨hcc1, hcc2⟩ := hcc
        have HRC := Shut.mk (show Rd (w5.alloc (.cells #[] 5)).drew c.A (bys (c.b.take q)) from by
          have h9 := HOC.out.below hba fun g hg => HOC.out.block_lt hg
          obtain ⟨A9, c9, e9, h8, _⟩ := h9.form
          have : c.A = A9 := by unfold RF.v at e9; injection e9
          rw [this]
          exact rd_of_rdB ((rdB_of_rd h8).take q))
        have HOE := Shut.mk (show Own (w5.alloc (.cells #[] 5)).drew 5 1 (.slice (some ⟨w5.heap.size, 0, none⟩) 0 0) 0 [] from own_empty w5 _ _)
        have HBA := Shut.mk hba
        have hqx1 : (0 : Int) ≤ (q : Int) := by omega
        have hqx2 : (q : Int) ≤ (NX : Int) := by omega
        have hqx3 : q ≤ c.cp := by omega
        clear hba hR5 hk5 hv' hcell
        go_wp2_with fail
        go_region_law (first
          | (refine step_append _ (by rfl) _ _ _ (by rfl) 5 i0 _ 1 1 Tryz.underlying27 hi0 hz0 hz1 hz2 rfl (by decide) _ _ _ (by rfl) HOE.out _ q c.cp _ (by rfl) HBL.out HRC.out (bys_one _) (by simp only [maxLen]; omega) (by omega) ?_
             intro v9 w9 hap
             obtain ⟨A9, c9, hv9, _⟩ := hap.own.form
             rw [Nat.zero_add] at hv9
             subst hv9
             have HO9 := Shut.mk (hap.own.cast (Nat.zero_add q) (List.nil_append _))
             have hb9 : Below w5.heap.size w5 w9 := HBA.out.grown hap.grown (by have := HBA.out.size; exact this) (fun r hr => by cases hr; exact Nat.le_refl _)
             have hl9 : ∀ g', (Value.slice A9 q c9).ownBlock = some g' → w5.heap.size ≤ g' := fun g' hg' => by
               rcases hap.lies with h | h
               · rw [h] at hg'; cases hg'; exact Nat.le_refl _
               · rw [h] at hg'; injection hg' with hg'; rw [← hg']; exact HBA.out.size
             have hRn := HR5.out.below hb9
             have e0 : w9.cell? ⟨gx, 0, none⟩ = some (.slice (some ⟨g', 0, none⟩) N cap') := (hb9.cell hgx5).trans HC0.out
             have ef : w9.frozen? ⟨g', p * 3 + 1, none⟩ = false := by
               have := hRn.own
               rw [HV.out] at this
               rw [← HN.out] at this
               exact this.freeAt _
             have e1 := (hb9.cell hgl).trans HC1.out
             have e2 := (hb9.cell hgl).trans HC2.out
             have HRN := Shut.mk hRn
             have HB9 := Shut.mk hb9
             have HL9 := Shut.mk hl9
             clear hap hb9 hl9 hRn))
        all_goals (
          have e9 : (Value.slice A9 q c9) = .slice A9 (c.b.take q).length c9 := by rw [HT.out]
          have hT := HRN.out.turnb HX.out HV.out (A := A9) (cp := c9) (b := c.b.take q) (by rw [← e9]; exact HO9.out.cast HT.out.symm rfl)
          have hK : Kb w (w9.setCell ⟨g', p * 3 + 1, none⟩ (.slice A9 (c.b.take q).length c9)) (footD gx v R) := ((HK5.out.mono (L' := footD gx v R) (by simp [footD])).below_ HB9.out).setCell (by simp [footD, HV.out, Value.ownBlock]) _
          rw [e9]
          generalize w9.setCell ⟨g', p * 3 + 1, none⟩ (.slice A9 (c.b.take q).length c9) = w10 at hT hK ⊢
          have HT10 := Shut.mk hT
          have HK10 := Shut.mk hK
          have HL10 := Shut.mk (e9 ▸ HL9.out)
          have HX10 := Shut.mk (show (R.set p ⟨c.k, A9, c9, c.b.take q, c.syn⟩)[p]? = some ⟨c.k, A9, c9, c.b.take q, c.syn⟩ by rw [List.getElem?_set_self (by rw [← HN.out]; omega)])
          have f0 : w10.cell? ⟨gx, 0, none⟩ = some (.slice (some ⟨g', 0, none⟩) N cap') := by rw [← HV.out]; exact hT.blk.cell 0
          obtain ⟨_, _, hv10, _, _, hcell10⟩ := hT.head (by rw [List.length_set, ← HN.out]; omega)
          rw [HV.out] at hv10
          injection hv10 with h10 h11 h12
          clear h11 h12
          injection h10 with h10
          injection h10 with h10
          subst h10
          have f2 : w10.cell? ⟨g', p * 3 + 2, none⟩ = some (.int .i64 (c.syn : Int)) := hcell10 (p * 3 + 2) _ (rfs_get HX10.out 2 (by omega))
          have ff : w10.frozen? ⟨g', p * 3 + 2, none⟩ = false := by
            have := hT.own
            rw [HV.out, List.length_set, ← HN.out] at this
            exact this.freeAt _
          have HTS := Shut.mk (fun (n : Nat) => hT.turns HX10.out HV.out n)
          have HKS := Shut.mk (fun (n : Nat) => hK.setCell (p := ⟨g', p * 3 + 2, none⟩) (by simp [footD, HV.out, Value.ownBlock]) (.int .i64 (n : Int)))
          clear hT hK hcell10
          by_cases hmn : (q : Int) < (c.syn : Int)
          · have HA := Shut.mk (AfterD.set (w := w) (v := v) (R := R) (HTS.out q) (T' := setF (R.map RF.fl) s.data.toList (c.b.take q) (min c.syn q)) (by
              rw [List.set_set]
              have h9 := set_fl HP.out HX.out (y := ⟨c.k, A9, c9, c.b.take q, q⟩) rfl
              rw [HS.out] at h9
              rw [h9, Nat.min_eq_right (by omega)]) (HKS.out q) (fun g hg => .inl hg) (fun d hd g'' hg'' => by
              rw [List.set_set] at hd
              rcases List.mem_or_eq_of_mem_set hd with hd | rfl
              · exact .inl (footD_own hd hg'')
              · exact .inr (Nat.le_trans HK5.out.size (HL10.out g'' hg''))))
            go_wp2_with fail
            go_region
            all_goals (
              go_wp2_with fail
              go_ret
              exact ⟨rfl, HA.out.drew⟩)
          · have HA := Shut.mk (AfterD.set (w := w) (v := v) (R := R) (HTS.out c.syn) (T' := setF (R.map RF.fl) s.data.toList (c.b.take q) (min c.syn q)) (by
              rw [List.set_set]
              have h9 := set_fl HP.out HX.out (y := ⟨c.k, A9, c9, c.b.take q, c.syn⟩) rfl
              rw [HS.out] at h9
              rw [h9, Nat.min_eq_left (by omega)]) (HKS.out c.syn) (fun g hg => .inl hg) (fun d hd g'' hg'' => by
              rw [List.set_set] at hd
              rcases List.mem_or_eq_of_mem_set hd with hd | rfl
              · exact .inl (footD_own hd hg'')
              · exact .inr (Nat.le_trans HK5.out.size (HL10.out g'' hg''))))
            go_wp2_with fail
            go_region
            all_goals (
              go_wp2_with fail
              go_ret
              exact ⟨rfl, HA.out.drew⟩))
    · have g1 : k > (NX : Int) := by omega
      rw [decide_eq_false (by omega)]
      have h1 : chErr false fuse = 1 := rfl
      have h2 : chFuse false fuse = fuse := rfl
      rw [h1, h2, if_pos (by decide), if_pos (by decide)]
      clear h1 h2
      go_enter Tryz.func27, Tryz.ntmps27
      go_wp2_with fail
      refine HPL.out.mono ?_
      rintro e w4 ⟨rfl, hb4⟩
      have HR4 := Shut.mk (HR.out.below hb4)
      obtain ⟨g, cap, hv, hnc, hcm, hcell⟩ := HR4.out.head (by omega)
      have c0 : w4.cell? ⟨gx, 0, none⟩ = some (.slice (some ⟨g, 0, none⟩) R.length cap) := by rw [← hv]; exact HR4.out.blk.cell 0
      have c1 : w4.cell? ⟨g, p * 3 + 1, none⟩ = some (.slice c.A NX c.cp) := by rw [HNX.out]; exact hcell (p * 3 + 1) _ (rfs_get HX.out 1 (by omega))
      have HA := Shut.mk (AfterD.num HR4.out (Kb.of_below hb4 [gx]))
      clear hb4 hv hcell
      go_wp2_with fail
      go_ret
      exact ⟨rfl, HA.out⟩
  · rw [hk] at h2
    cases h2
end
end Go.Proofs.YtmlfeljhojmbbaaGreatDoor
