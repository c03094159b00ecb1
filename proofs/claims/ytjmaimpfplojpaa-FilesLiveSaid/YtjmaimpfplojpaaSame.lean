/- Walk: the statements' SameDisks, of two disks that have the same: true. -/
import Derived.Test.YtjmaimpfplojpaaPair2
import Derived.Test.YtjmaimpfplojpaaEqual
namespace Go.Proofs.Ytjmaimpfplojpaa
open Go.RowKit Go.Maps
set_option linter.unusedSimpArgs false
set_option linter.unusedVariables false
set_option maxRecDepth 100000

section
variable {w w' : World} {gd gx : Nat} {F G : List Nat} {d : Ds} {T : List Fl} {r s f : Int}
theorem dd_list (h : DD w gd F d) (hn : d.n < 1000000000) (hS : Same d T) :
    Calls Try.prog 26 #[gp gd] w fun e w' => ∃ v, e = .returned v ∧ Own w' 9 1 v (T.map (·.1)).length ((T.map (·.1)).map Proofs.encStr) ∧ Below w.heap.size w w' ∧ ∀ g, v.ownBlock = some g → w.heap.size ≤ g := by
  obtain ⟨gm, es, hD, hE, hF⟩ := h
  refine list_calls hD hn (by rw [List.pairwise_map]; exact hS.ok.rising) (fun a => ?_)
  have h1 : look (fls es) a = (lookE es a).map fun e => (e.b, e.syn) := look_map es a
  have h2 : look (fls es) a = look T a := by rw [hE]; exact hS.look a
  constructor
  · intro ha e
    rw [e] at h1
    rw [h2] at h1
    obtain ⟨x, hx, rfl⟩ := List.mem_map.1 ha
    exact look_none.1 h1 x hx rfl
  · intro ha
    by_cases hm : a ∈ T.map (·.1)
    · exact hm
    · exfalso
      have h3 : look T a = none := look_none.2 fun x hx e => hm (List.mem_map.2 ⟨x, hx, e⟩)
      rw [h2, h3] at h1
      cases hl : lookE es a with
      | none => exact ha hl
      | some e => rw [hl] at h1; cases h1
theorem dd_used (h : DD w gd F d) (hS : Same d T) : Calls Try.prog 12 #[gp gd] w fun e w' => e = .returned (.int .i64 (used T : Int)) ∧ Below w.heap.size w w' := by
  have := dk_used h
  rw [usedP hS.perm] at this
  exact this
theorem rdB_at {A : Option Addr} {n c : Nat} {l : List UInt8} (h : Own w 5 1 (.slice A n c) n (bys l)) : RdB w A l := by
  obtain ⟨A7, c7, e7, hr7, _⟩ := h.form
  injection e7 with e7
  subst e7
  exact rdB_of_rd hr7
set_option maxHeartbeats 2000000 in
theorem same_calls (hd : DD w gd F d) (hx : NRd w gx G T r s f) (hS : Same d T) (hn : d.n < 900000) (hnm : ∀ x ∈ T, x.1.length ≤ 32) :
    Calls Try.prog 31 #[gp gd, .pointer (some ⟨gx, 0, none⟩)] w fun e w' => e = .returned (.bool true) ∧ Below w.heap.size w w' := by
  have HD := Shut.mk hd
  have HX := Shut.mk hx
  have HS := Shut.mk hS
  have HNM := Shut.mk hnm
  obtain ⟨N, hN⟩ : ∃ N, N = (T.map (·.1)).length := ⟨_, rfl⟩
  have hNl : N < 900000 := by rw [hN, List.length_map]; exact hS.ok.len
  have HN := Shut.mk hN
  have HRL := Shut.mk (rd_list hx hS.ok)
  rw [← hN] at HRL
  clear hd hx hS hnm hN
  go_enter Try.func31, Try.ntmps31
  go_wp2_with fail
  refine HRL.out.mono ?_
  rintro e w1 ⟨u, rfl, ho1, hb1, hn1⟩
  have HO1 := Shut.mk ho1
  have HB1 := Shut.mk hb1
  obtain ⟨Au, cu, hu, hrd, hnc, hcm, _⟩ := ho1.form
  subst hu
  have HRD := Shut.mk hrd
  unfold maxLen at hcm
  have HPL := Shut.mk (dd_list (Dsk.below HD.out hb1) (by omega) HS.out)
  rw [← HN.out] at HPL
  clear ho1 hb1 hn1 hrd HRL
  go_wp2_with fail
  refine HPL.out.mono ?_
  rintro e w2 ⟨v2, rfl, ho2, hb2, hn2⟩
  have HB2 := Shut.mk (HB1.out.trans (hb2.mono HB1.out.size))
  have HEQ := Shut.mk (equal_names v2 (.slice Au N cu) (T.map (·.1)) w2 (by rw [← HN.out]; exact ho2) (by rw [← HN.out]; exact HO1.out.below hb2 fun g hg => HO1.out.block_lt hg))
  have HR2 := Shut.mk (HRD.out.keep hb2)
  clear ho2 hb2 hn2 HPL
  go_wp2_with fail
  refine HEQ.out.mono ?_
  rintro e w3 ⟨rfl, hb3⟩
  have HB3 := Shut.mk (HB2.out.trans (hb3.mono HB2.out.size))
  have HR3 := Shut.mk (HR2.out.keep hb3)
  have HU := Shut.mk (dd_used (Dsk.below HD.out HB3.out) HS.out)
  clear hb3 HEQ
  go_wp2_with fail
  refine HU.out.mono ?_
  rintro e w4 ⟨rfl, hb4⟩
  have HB4 := Shut.mk (HB3.out.trans (hb4.mono HB3.out.size))
  have HR4 := Shut.mk (HR3.out.keep hb4)
  have HU2 := Shut.mk (rd_used (HX.out.below HB4.out) HS.out.ok)
  clear hb4 HU
  go_wp2_with fail
  refine HU2.out.mono ?_
  rintro e w5 ⟨rfl, hb5⟩
  have HB5 := Shut.mk (HB4.out.trans (hb5.mono HB4.out.size))
  have HR5 := Shut.mk (HR4.out.keep hb5)
  have hne : ((used T : Int) != (used T : Int)) = false := by simp
  clear hb5 HU2
  go_wp2_with fail
  go_loopw [28] (fun i wr => ∃ k : Nat, k ≤ N ∧ i = .int .i64 k ∧ Below w5.heap.size w5 wr) (fun i _ => N - (intOf i).toNat)
  case atStart => exact ⟨0, Nat.zero_le _, rfl, Below.refl _ _⟩
  case round =>
    obtain ⟨k, hk, rfl, hbr⟩ := hrel
    have HBR := Shut.mk hbr
    by_cases hlt : k < N
    · have hkI : (k : Int) < (N : Int) := by omega
      obtain ⟨x, hx⟩ : ∃ x, T[k]? = some x := ⟨T[k]'(by have := HN.out; rw [List.length_map] at this; omega), List.getElem?_eq_getElem _⟩
      have hxm := List.mem_of_getElem? hx
      have HLK := Shut.mk (show look T x.1 = some (x.2.1, x.2.2) from (look_iff HS.out.ok.keys _ _ _).2 hxm)
      have HN32 := Shut.mk (HNM.out x hxm)
      obtain ⟨nm, hnmq⟩ : ∃ nm : ByteArray, nm = ⟨x.1.toArray⟩ := ⟨_, rfl⟩
      have HNQ := Shut.mk (show nm.data.toList = x.1 by rw [hnmq])
      have hsz : nm.size ≤ reach := by
        rw [Lib.size_eq, HNQ.out]
        have := HN32.out
        unfold reach
        omega
      obtain ⟨ad, rfl, hc⟩ := HR5.out (fun e => by
        have h9 := congrArg List.length e
        rw [List.length_map, ← HN.out] at h9
        simp at h9
        omega)
      have c0 := hc k (.string nm) (by rw [List.getElem?_map, List.getElem?_map, hx]; simp only [Option.map_some]; rw [encStr_form, hnmq])
      have d0 : wr.cell? (ad.add k) = some (.string nm) := (hbr.cell (World.block_lt_of_cell? w5 _ c0)).trans c0
      have HBW := Shut.mk (HB5.out.trans (hbr.mono HB5.out.size))
      have HRP := Shut.mk (dd_read (Dsk.below HD.out HBW.out) nm hsz)
      rw [HNQ.out, HS.out.look, HLK.out] at HRP
      have HSZ := Shut.mk hsz
      clear hc c0 hbr hnmq hx hxm hsz
      go_wp2_with fail
      refine HRP.out.mono ?_
      rintro e w6 ⟨A6, c6, rfl, ho6, hb6, hn6⟩
      have HB6 := Shut.mk (HBW.out.trans (hb6.mono HBW.out.size))
      have HB6' := Shut.mk (HBR.out.trans (hb6.mono HBR.out.size))
      have HO6 := Shut.mk ho6
      have HRX := Shut.mk (rd_read (HX.out.below HB6.out) HS.out.ok nm)
      rw [HNQ.out, HLK.out] at HRX
      clear ho6 hb6 hn6 HRP
      go_wp2_with fail
      refine HRX.out.mono ?_
      rintro e w7 ⟨A7, c7, rfl, ho7, hb7, hn7⟩
      have HB7 := Shut.mk (HB6.out.trans (hb7.mono HB6.out.size))
      have HB7' := Shut.mk (HB6'.out.trans (hb7.mono HB6'.out.size))
      have HQ := Shut.mk (equal_calls A6 A7 _ c6 _ c7 x.2.1 x.2.1 w7 (rdB_at (HO6.out.below hb7 fun g hg => HO6.out.block_lt hg)) (rdB_at ho7) rfl rfl)
      have hbt : (x.2.1 == x.2.1) = true := by simp
      rw [hbt] at HQ
      have HY := Shut.mk (dk_synced (Dsk.below HD.out HB7.out) nm HSZ.out (b := x.2.1) (sy := x.2.2) (by rw [HNQ.out, HS.out.look, HLK.out]))
      have HYX := Shut.mk (rd_synced (HX.out.below HB7.out) HS.out.ok nm)
      rw [HNQ.out, HLK.out] at HYX
      simp only [Option.map_some, Option.getD_some] at HQ HYX
      have hn2 : ((x.2.2 : Int) != (x.2.2 : Int)) = false := by simp
      clear ho7 hb7 hn7 HRX hbt
      go_wp2_with fail
      refine HQ.out.mono ?_
      rintro e w' ⟨rfl, rfl⟩
      go_wp2_with fail
      refine HY.out.mono ?_
      rintro e w' ⟨rfl, rfl⟩
      go_wp2_with fail
      refine HYX.out.mono ?_
      rintro e w8 ⟨rfl, hb8⟩
      have HB8' := Shut.mk (HB7'.out.trans (hb8.mono HB7'.out.size))
      clear hb8
      go_wp2_with fail
      go_roundw
      case rel => exact ⟨k + 1, by omega, by go_num, HB8'.out⟩
      case measure => simp [intOf]; omega
    · obtain rfl : k = N := by omega
      have hkI : ¬ (k : Int) < (k : Int) := by omega
      go_wp2_with fail
      go_ret
      exact ⟨rfl, HB5.out.trans (HBR.out.mono HB5.out.size)⟩
end
end Go.Proofs.Ytjmaimpfplojpaa
