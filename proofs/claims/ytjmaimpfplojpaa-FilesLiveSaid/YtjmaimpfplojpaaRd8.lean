/- Walks: the document's disk: Sync, Remove, Rename, Read. -/
import Derived.Test.YtjmaimpfplojpaaRd7
namespace Go.Proofs.Ytjmaimpfplojpaa
open Go.RowKit Go.Maps
set_option linter.unusedSimpArgs false
set_option linter.unusedVariables false
set_option maxRecDepth 100000

section
variable {w w' : World} {gx : Nat} {v : Value} {R : List RF} {room short fuse : Int}
theorem chErr_tt {f : Int} (h : f ≠ 0) : chErr true f = 0 := by simp [chErr, h]
theorem AfterD.quiet {w w' w'' : World} {T' : List Fl} {room' short' fuse' : Int} (h : AfterD w w' gx v R T' room' short' fuse') (hb : Below w'.heap.size w' w'') : AfterD w w'' gx v R T' room' short' fuse' := by
  obtain ⟨⟨v', R', h1, h2, h3⟩, h4⟩ := h
  exact ⟨⟨v', R', h1.below hb, h2, h3⟩, h4.below_ hb⟩
theorem AfterD.drew {w w' : World} {T' : List Fl} {room' short' fuse' : Int} (h : AfterD w w' gx v R T' room' short' fuse') : AfterD w w'.drew gx v R T' room' short' fuse' :=
  h.quiet ⟨rfl, rfl, rfl, Nat.le_refl _, fun _ _ => rfl⟩
def rSyncE (T : List Fl) (s : List UInt8) (fuse : Int) : Int := if fuse = 0 then 62 else if (look T s).isSome then 0 else 60
def syncT (T : List Fl) (s : List UInt8) (fuse : Int) : List Fl := if fuse = 0 then T else (look T s).elim T fun p => setF T s p.1 p.1.length
theorem rsync_calls (hR : RdAt w gx v R room short fuse) (hp : (R.map RF.fl).Pairwise fun a b => a.1 ≠ b.1) (s : ByteArray) (hl : R.length < 900000) (f0 : -1 ≤ fuse) (f1 : fuse ≤ 9223372036854775807) :
    Calls Try.prog 41 #[.pointer (some ⟨gx, 0, none⟩), .string s] w fun e w' => e = .returned (.int .i64 (rSyncE (R.map RF.fl) s.data.toList fuse)) ∧ AfterD w w' gx v R (syncT (R.map RF.fl) s.data.toList fuse) room short (chFuse true fuse) := by
  have HB := Shut.mk (burn_calls hR f0 f1)
  unfold rSyncE syncT
  by_cases hf : fuse = 0
  · subst hf
    rw [if_pos rfl, if_pos rfl]
    have h0 : decide ((0 : Int) ≠ 0) = false := rfl
    rw [h0] at HB
    clear hR h0
    go_enter Try.func41, Try.ntmps41
    go_wp2_with fail
    refine HB.out.mono ?_
    rintro e w1 ⟨rfl, hR1, hk1⟩
    have HA := Shut.mk (AfterD.num hR1 hk1)
    clear hR1 hk1
    go_wp2_with fail
    go_ret
    exact ⟨rfl, HA.out⟩
  · rw [if_neg hf, if_neg hf]
    rw [decide_eq_true hf] at HB
    generalize chFuse true fuse = fu at HB ⊢
    rcases placeV_cases R s.data.toList with ⟨c, hc, hcs, hi, hpv, hk⟩ | ⟨hpv, hk⟩
    · rw [hk]
      have HX := Shut.mk hc
      have HS := Shut.mk hcs
      have HP := Shut.mk hp
      have HPV := Shut.mk hpv
      have hxm := Shut.mk (List.mem_of_getElem? hc)
      obtain ⟨k, hkq⟩ : ∃ k, k = idxD R s.data.toList := ⟨_, rfl⟩
      rw [← hkq] at HX HPV hi
      obtain ⟨NX, hNX⟩ : ∃ NX, NX = c.b.length := ⟨_, rfl⟩
      have HNX := Shut.mk hNX
      clear hR hc hcs hpv hk hp hNX hkq
      go_enter Try.func41, Try.ntmps41
      go_wp2_with fail
      refine HB.out.mono ?_
      rintro e w1 ⟨rfl, hR1, hk1⟩
      have HPL := Shut.mk (dplace_calls hR1 s (by omega))
      rw [HPV.out] at HPL
      have HR1 := Shut.mk hR1
      have HK1 := Shut.mk hk1
      clear hR1 hk1
      go_wp2_with fail
      refine HPL.out.mono ?_
      rintro e w4 ⟨rfl, hb4⟩
      have HR4 := Shut.mk (HR1.out.below hb4)
      have HK4 := Shut.mk (HK1.out.below_ hb4)
      obtain ⟨g, cap, hv, hnc, hcm, hcell⟩ := HR4.out.head (by omega)
      obtain ⟨N, hN⟩ : ∃ N, N = R.length := ⟨_, rfl⟩
      rw [← hN] at hi hl hv hnc
      have HN := Shut.mk hN
      unfold maxLen at hcm
      have c1 : w4.cell? ⟨g, k * 3 + 1, none⟩ = some (.slice c.A NX c.cp) := by rw [HNX.out]; exact hcell (k * 3 + 1) _ (rfs_get HX.out 1 (by omega))
      have c2 : w4.cell? ⟨g, k * 3 + 2, none⟩ = some (.int .i64 (c.syn : Int)) := hcell (k * 3 + 2) _ (rfs_get HX.out 2 (by omega))
      have c0 : w4.cell? ⟨gx, 0, none⟩ = some (.slice (some ⟨g, 0, none⟩) N cap) := by rw [← hv]; exact HR4.out.blk.cell 0
      have HV := Shut.mk hv
      have cf : w4.frozen? ⟨g, k * 3 + 2, none⟩ = false := by
        have := HR4.out.own
        rw [hv, ← hN] at this
        exact this.freeAt _
      have hkI : (k : Int) < (N : Int) := by omega
      have hk0 : ¬ (k : Int) < 0 := by omega
      have HA := Shut.mk (AfterD.set (w := w) (HR4.out.turns HX.out HV.out NX) (T' := setF (R.map RF.fl) s.data.toList c.b c.b.length) (by
        have h9 := set_fl HP.out HX.out (y := ⟨c.k, c.A, c.cp, c.b, NX⟩) rfl
        rw [HS.out] at h9
        rw [h9, HNX.out]) (((HK4.out.mono (L' := footD gx v R) (by simp [footD]))).setCell (by simp [footD, HV.out, Value.ownBlock]) _) (fun g hg => .inl hg) (fun d hd g' hg' => by
        rcases List.mem_or_eq_of_mem_set hd with hd | rfl
        · exact .inl (footD_own hd hg')
        · exact .inl (footD_own hxm.out hg')))
      clear hv hN hcell hb4
      go_wp2_with fail
      go_region
      all_goals (
        go_wp2_with fail
        go_ret
        exact ⟨rfl, HA.out.drew⟩)
    · rw [hk]
      have HPV := Shut.mk hpv
      clear hR hpv hk
      go_enter Try.func41, Try.ntmps41
      go_wp2_with fail
      refine HB.out.mono ?_
      rintro e w1 ⟨rfl, hR1, hk1⟩
      have HPL := Shut.mk (dplace_calls hR1 s (by omega))
      rw [HPV.out] at HPL
      have HR1 := Shut.mk hR1
      have HK1 := Shut.mk hk1
      clear hR1 hk1
      go_wp2_with fail
      refine HPL.out.mono ?_
      rintro e w4 ⟨rfl, hb4⟩
      have HA := Shut.mk (AfterD.num (HR1.out.below hb4) (HK1.out.below_ hb4))
      clear hb4
      go_wp2_with fail
      go_ret
      exact ⟨rfl, HA.out⟩
def rDelE (T : List Fl) (s : List UInt8) (fuse : Int) : Int := if fuse = 0 then 62 else if (look T s).isSome then 0 else 60
def delT (T : List Fl) (s : List UInt8) (fuse : Int) : List Fl := if fuse = 0 then T else if (look T s).isSome then delF T s else T
theorem rremove_calls (hR : RdAt w gx v R room short fuse) (s : ByteArray) (hl : R.length < 900000) (f0 : -1 ≤ fuse) (f1 : fuse ≤ 9223372036854775807) :
    Calls Try.prog 44 #[.pointer (some ⟨gx, 0, none⟩), .string s] w fun e w' => e = .returned (.int .i64 (rDelE (R.map RF.fl) s.data.toList fuse)) ∧ AfterD w w' gx v R (delT (R.map RF.fl) s.data.toList fuse) room short (chFuse true fuse) := by
  have HB := Shut.mk (burn_calls hR f0 f1)
  unfold rDelE delT
  by_cases hf : fuse = 0
  · subst hf
    rw [if_pos rfl, if_pos rfl]
    have h0 : decide ((0 : Int) ≠ 0) = false := rfl
    rw [h0] at HB
    clear hR h0
    go_enter Try.func44, Try.ntmps44
    go_wp2_with fail
    refine HB.out.mono ?_
    rintro e w1 ⟨rfl, hR1, hk1⟩
    have HA := Shut.mk (AfterD.num hR1 hk1)
    clear hR1 hk1
    go_wp2_with fail
    go_ret
    exact ⟨rfl, HA.out⟩
  · rw [if_neg hf, if_neg hf]
    rw [decide_eq_true hf] at HB
    generalize chFuse true fuse = fu at HB ⊢
    have hpc := placeV_cases R s.data.toList
    obtain ⟨lk, hlk⟩ : ∃ l, l = look (R.map RF.fl) s.data.toList := ⟨_, rfl⟩
    rw [← hlk] at hpc ⊢
    clear hR hlk
    go_enter Try.func44, Try.ntmps44
    go_wp2_with fail
    refine HB.out.mono ?_
    rintro e w1 ⟨rfl, hR1, hk1⟩
    have HPL := Shut.mk (dplace_calls hR1 s (by omega))
    have HR1 := Shut.mk hR1
    have HK1 := Shut.mk hk1
    clear hR1 hk1
    go_wp2_with fail
    refine HPL.out.mono ?_
    rintro e w4 ⟨rfl, hb4⟩
    have HR4 := Shut.mk (HR1.out.below hb4)
    have HK4 := Shut.mk (HK1.out.below_ hb4)
    clear hb4
    rcases hpc with ⟨c, _, _, _, hpv, rfl⟩ | ⟨hpv, rfl⟩
    · rw [hpv]
      have hk0 : ¬ (idxD R s.data.toList : Int) < 0 := by omega
      have HD := Shut.mk (rdrop_calls HR4.out s (by omega))
      go_wp2_with fail
      refine HD.out.mono ?_
      rintro e w5 ⟨rfl, v5, hR5, hk5, hv5⟩
      have HA := Shut.mk (AfterD.set (w := w) (v := v) hR5 (keepD_fl _ _) ((HK4.out.trans hk5 (fun x hx => .inl hx)).mono (by simp [footD])) (fun g hg => .inr (Nat.le_trans HK4.out.size (hv5 g hg))) (fun d hd g' hg' => .inl (footD_own (List.mem_filter.1 hd).1 hg')))
      clear hR5 hk5 hv5
      go_wp2_with fail
      go_ret
      exact ⟨rfl, HA.out⟩
    · rw [hpv]
      have HA := Shut.mk (AfterD.num HR4.out HK4.out)
      go_wp2_with fail
      go_ret
      exact ⟨rfl, HA.out⟩
def rRenE (T : List Fl) (a z : List UInt8) (fuse : Int) : Int := if chErr (nameOk z) fuse ≠ 0 then chErr (nameOk z) fuse else if (look T a).isSome then 0 else 60
def renT (T : List Fl) (a z : List UInt8) (fuse : Int) : List Fl := if chErr (nameOk z) fuse ≠ 0 then T else (look T a).elim T fun p => insF (z, p.1, p.2) (delF (delF T a) z)
set_option maxHeartbeats 1000000 in
theorem rrename_calls (hR : RdAt w gx v R room short fuse) (s t : ByteArray) (hl : R.length < 900000) (ht : t.size ≤ reach) (f0 : -1 ≤ fuse) (f1 : fuse ≤ 9223372036854775807) :
    Calls Try.prog 43 #[.pointer (some ⟨gx, 0, none⟩), .string s, .string t] w fun e w' => e = .returned (.int .i64 (rRenE (R.map RF.fl) s.data.toList t.data.toList fuse)) ∧ AfterD w w' gx v R (renT (R.map RF.fl) s.data.toList t.data.toList fuse) room short (chFuse (nameOk t.data.toList) fuse) := by
  have HN := Shut.mk (risName_calls t w ht)
  have HB := Shut.mk (burn_calls hR f0 f1)
  unfold rRenE renT
  cases hok : nameOk t.data.toList with
  | false =>
    rw [hok] at HN
    have h1 : chErr false fuse = 1 := rfl
    have h2 : chFuse false fuse = fuse := rfl
    have HA := Shut.mk (AfterD.num hR (Kb.refl _ _))
    rw [h1, h2, if_pos (by decide), if_pos (by decide)]
    clear hR h1 h2 hok
    go_enter Try.func43, Try.ntmps43
    go_wp2_with fail
    refine HN.out.mono ?_
    rintro e w1 ⟨rfl, rfl⟩
    go_wp2_with fail
    go_ret
    exact ⟨rfl, HA.out⟩
  | true =>
    rw [hok] at HN
    by_cases hf : fuse = 0
    · subst hf
      have h1 : chErr true 0 = 62 := rfl
      have h0 : decide ((0 : Int) ≠ 0) = false := rfl
      rw [h0] at HB
      rw [h1, if_pos (by decide), if_pos (by decide)]
      clear hR h1 h0 hok
      go_enter Try.func43, Try.ntmps43
      go_wp2_with fail
      refine HN.out.mono ?_
      rintro e w1 ⟨rfl, rfl⟩
      go_wp2_with fail
      refine HB.out.mono ?_
      rintro e w1 ⟨rfl, hR1, hk1⟩
      have HA := Shut.mk (AfterD.num hR1 hk1)
      clear hR1 hk1
      go_wp2_with fail
      go_ret
      exact ⟨rfl, HA.out⟩
    · have h1 : chErr true fuse = 0 := chErr_tt hf
      rw [h1, if_neg (show ¬ (0 : Int) ≠ 0 by decide), if_neg (show ¬ (0 : Int) ≠ 0 by decide)]
      rw [decide_eq_true hf] at HB
      generalize chFuse true fuse = fu at HB ⊢
      have hpc := placeV_cases R s.data.toList
      obtain ⟨lk, hlk⟩ : ∃ l, l = look (R.map RF.fl) s.data.toList := ⟨_, rfl⟩
      rw [← hlk] at hpc ⊢
      clear hR hlk h1 hok
      go_enter Try.func43, Try.ntmps43
      go_wp2_with fail
      refine HN.out.mono ?_
      rintro e w1 ⟨rfl, rfl⟩
      go_wp2_with fail
      refine HB.out.mono ?_
      rintro e w1 ⟨rfl, hR1, hk1⟩
      have HPL := Shut.mk (dplace_calls hR1 s (by omega))
      have HR1 := Shut.mk hR1
      have HK1 := Shut.mk hk1
      clear hR1 hk1
      go_wp2_with fail
      refine HPL.out.mono ?_
      rintro e w4 ⟨rfl, hb4⟩
      have HR4 := Shut.mk (HR1.out.below hb4)
      have HK4 := Shut.mk (HK1.out.below_ hb4)
      clear hb4
      rcases hpc with ⟨c, hc, hcs, hi, hpv, rfl⟩ | ⟨hpv, rfl⟩
      · rw [hpv]
        have hk0 : ¬ (idxD R s.data.toList : Int) < 0 := by omega
        obtain ⟨k, hkq⟩ : ∃ k, k = idxD R s.data.toList := ⟨_, rfl⟩
        rw [← hkq] at hi hc hk0 ⊢
        have HX := Shut.mk hc
        have HXM := Shut.mk (List.mem_of_getElem? hc)
        obtain ⟨g, cap, hv, hnc, hcm, hcell⟩ := HR4.out.head (by omega)
        have c0 : w4.cell? ⟨gx, 0, none⟩ = some (.slice (some ⟨g, 0, none⟩) R.length cap) := by rw [← hv]; exact HR4.out.blk.cell 0
        have d0 : w4.cell? ⟨g, k * 3, none⟩ = some (.string c.k) := hcell (k * 3) _ (rfs_get HX.out 0 (by omega))
        have d1 : w4.cell? ⟨g, k * 3 + 1, none⟩ = some (.slice c.A c.b.length c.cp) := hcell (k * 3 + 1) _ (rfs_get HX.out 1 (by omega))
        have d2 : w4.cell? ⟨g, k * 3 + 2, none⟩ = some (.int .i64 (c.syn : Int)) := hcell (k * 3 + 2) _ (rfs_get HX.out 2 (by omega))
        have hkI : (k : Int) < (R.length : Int) := by omega
        have hba : Below w4.heap.size w4 (w4.alloc c.obj) := (Below.refl _ w4).alloc (Nat.le_refl _) c.obj
        have HD := Shut.mk (rdrop_calls (HR4.out.below hba) s (by omega))
        have HB0 := Shut.mk (Blk.new w4 89 #[.string c.k, .slice c.A c.b.length c.cp, .int .i64 (c.syn : Int)])
        have HOC := Shut.mk ((HR4.out.rows c HXM.out).below hba fun g hg => (HR4.out.rows c HXM.out).block_lt hg)
        have HKA := Shut.mk (HK4.out.alloc c.obj)
        have hgx4 : gx < w4.heap.size := HR4.out.blk.lt
        have hsA : (w4.alloc c.obj).heap.size = w4.heap.size + 1 := World.size_alloc _ _
        clear hc hcs hpv hv hcell hba hkq
        go_wp2_with fail
        refine HD.out.mono ?_
        rintro e w5 ⟨rfl, v5, hR5, hk5, hv5⟩
        have HB5 := Shut.mk (hk5.blk HB0.out (by simp; omega))
        have HOC5 := Shut.mk (hk5.own HOC.out (by
          intro g' hg'
          have := (HR4.out.own_ne HXM.out g' hg').1
          simpa using this))
        have HD2 := Shut.mk (rdrop_calls hR5 t (Nat.lt_of_le_of_lt (keepD_len _ _) (by omega)))
        have HK5 := Shut.mk (HKA.out.trans hk5 (fun x hx => .inl hx))
        have hR5l := hR5.blk.lt
        have hs5 := hk5.size
        clear hR5 hk5 hv5
        go_wp2_with fail
        refine HD2.out.mono ?_
        rintro e w6 ⟨rfl, v6, hR6, hk6, hv6⟩
        have HB6 := Shut.mk (hk6.blk HB5.out (by simp; omega))
        have HOC6 := Shut.mk (hk6.own HOC5.out (by
          intro g' hg'
          have := (HR4.out.own_ne HXM.out g' hg').1
          simpa using this))
        have HK6 := Shut.mk (HK5.out.trans hk6 (fun x hx => .inl hx))
        have e0 : w6.cell? ⟨w4.heap.size, 0, none⟩ = some (.string c.k) := HB6.out.cell 0
        have ef := HB6.out.free 0
        have hbs := HB6.out.set_ 0 (.string t)
        have hks : Kb w6 (w6.setCell ⟨w4.heap.size, 0, none⟩ (.string t)) [w4.heap.size] := (Kb.refl w6 _).setCell (by simp) _
        have HK7 := Shut.mk ((HK6.out.mono (L' := [gx, w4.heap.size]) (by simp)).setCell (p := ⟨w4.heap.size, 0, none⟩) (by simp) (.string t))
        have hRR : RdAt (w6.setCell ⟨w4.heap.size, 0, none⟩ (.string t)) gx v6 (keepD t.data.toList (keepD s.data.toList R)) room short fu := hR6.keep hks (by
          intro x hx
          rw [List.mem_singleton]
          rcases footD_cases hx with rfl | hx | ⟨d, hd, hx⟩
          · omega
          · have := hv6 x hx
            omega
          · exact own_block_ne (hR6.rows d hd) HB6.out (by decide) x hx)
        have hox : Own (w6.setCell ⟨w4.heap.size, 0, none⟩ (.string t)) 5 1 (RF.v ⟨t, c.A, c.cp, c.b, c.syn⟩) c.b.length (bys c.b) := hks.own HOC6.out (by
          intro g' hg'
          rw [List.mem_singleton]
          exact own_block_ne HOC6.out HB6.out (by decide) g' hg')
        have g0 : (w6.setCell ⟨w4.heap.size, 0, none⟩ (.string t)).cell? ⟨w4.heap.size, 0, none⟩ = some (.string t) := hbs.cell 0
        have g1 : (w6.setCell ⟨w4.heap.size, 0, none⟩ (.string t)).cell? ⟨w4.heap.size, 1, none⟩ = some (.slice c.A c.b.length c.cp) := hbs.cell 1
        have g2 : (w6.setCell ⟨w4.heap.size, 0, none⟩ (.string t)).cell? ⟨w4.heap.size, 2, none⟩ = some (.int .i64 (c.syn : Int)) := hbs.cell 2
        have HAD := Shut.mk (radd_calls hRR ⟨t, c.A, c.cp, c.b, c.syn⟩ hox (Nat.lt_of_le_of_lt (Nat.le_trans (keepD_len _ _) (keepD_len _ _)) (by omega)))
        have HW7 : (w6.setCell ⟨w4.heap.size, 0, none⟩ (.string t)).heap.size = w6.heap.size := by simp
        have hs6 := hk6.size
        have hs04 := HK4.out.size
        clear hRR hox hbs hks hR6 hk6 hv6
        go_wp2_with fail
        refine HAD.out.mono ?_
        rintro e w8 ⟨rfl, v8, hR8, hk8, hv8⟩
        have HK8 := Shut.mk (HK7.out.trans hk8 (fun x hx => .inl (by simp at hx; simp [hx])))
        have HA := Shut.mk (AfterD.set (w := w) (v := v) (R := R) hR8 (T' := insF (t.data.toList, c.b, c.syn) (delF (delF (R.map RF.fl) s.data.toList) t.data.toList)) (by rw [insD_fl, keepD_fl, keepD_fl]; rfl)
          (HK8.out.fresh (fun x hx => by
            simp at hx
            rcases hx with rfl | rfl
            · exact .inl gx_foot
            · exact .inr hs04)) (fun g' hg' => .inr (by have := hv8 g' hg'; omega)) (fun d hd g' hg' => by
            rcases List.mem_cons.1 ((insD_perm _ _).mem_iff.1 hd) with rfl | hd
            · exact .inl (footD_own HXM.out hg')
            · exact .inl (footD_own (List.mem_filter.1 (List.mem_filter.1 hd).1).1 hg')))
        clear hR8 hk8 hv8
        go_wp2_with fail
        go_ret
        exact ⟨rfl, HA.out⟩
      · rw [hpv]
        have HA := Shut.mk (AfterD.num HR4.out HK4.out)
        go_wp2_with fail
        go_ret
        exact ⟨rfl, HA.out⟩
end
end Go.Proofs.Ytjmaimpfplojpaa
