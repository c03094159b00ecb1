/- Walk: the law NetLives answers true. -/
import Derived.Test.YtdnbdmffaoimgaaLives
import Derived.Test.YtdnbdmffaoimgaaEqual
namespace Go.Proofs.Ytdnbdmffaoimgaa
open Go.RowKit Go.Maps
set_option linter.unusedSimpArgs false
set_option linter.unusedVariables false
set_option maxRecDepth 100000

abbrev Dox := Int × Int × List UInt8
/-- the address holds the calls -/
def RdDo (w : World) (A : Option Addr) (ds : List Dox) : Prop :=
  ∀ k d, ds[k]? = some d → ∃ (ad : Addr) (B : Option Addr) (c : Nat), A = some ad ∧ w.cell? (ad.add (k * 3)) = some (.int .i64 d.1) ∧ w.cell? ⟨(ad.add (k * 3)).block, (ad.add (k * 3)).off + 1, none⟩ = some (.int .i64 d.2.1) ∧
    w.cell? ⟨(ad.add (k * 3)).block, (ad.add (k * 3)).off + 2, none⟩ = some (.slice B d.2.2.length c) ∧ RdB w B d.2.2 ∧ -9223372036854775808 ≤ d.2.1 ∧ d.2.1 ≤ 9223372036854775807
def tot (ds : List Dox) (k : Nat) : Nat := ((ds.take k).map fun d => d.2.2.length).sum
theorem tot_succ {ds : List Dox} {k : Nat} {d : Dox} (h : ds[k]? = some d) : tot ds (k + 1) = tot ds k + d.2.2.length := by
  unfold tot
  rw [List.take_add_one, h]
  simp
theorem tot_le (ds : List Dox) (k : Nat) : tot ds k ≤ tot ds ds.length := by
  unfold tot
  rw [List.take_length]
  have e : ds.map (fun d => d.2.2.length) = (ds.take k).map (fun d => d.2.2.length) ++ (ds.drop k).map (fun d => d.2.2.length) := by rw [← List.map_append, List.take_append_drop]
  rw [e, List.sum_append]
  omega
theorem upd_len {L : List Cn} {a ad : Int} {b : List UInt8} : (upd L a ad b).length = L.length := by simp [upd]
theorem dr_len {L : List Cn} {a : Int} : (dr L a).length ≤ L.length := List.length_filter_le _ _
set_option maxHeartbeats 8000000 in
theorem netLives_run (A : Option Addr) (ds : List Dox) (cl : Nat) (w : World) (hl : RdDo w A ds) (hcl : ds.length ≤ cl) (hcm : cl ≤ maxLen) (htot : tot ds ds.length ≤ 1048576) :
    Calls Try.prog 6 #[.slice A ds.length cl] w fun e w' => e = .returned (.bool true) ∧ Below w.heap.size w w' := by
  have HL := Shut.mk hl
  have HT := Shut.mk (fun k => Nat.le_trans (tot_le ds k) htot)
  clear hl htot
  unfold maxLen at hcm
  obtain ⟨NL, hNL⟩ : ∃ NL, NL = ds.length := ⟨_, rfl⟩
  rw [← hNL] at hcl ⊢
  have HNL := Shut.mk hNL
  clear hNL
  go_enter Try.func6, Try.ntmps6
  go_wp2_with fail
  refine (lv_new w).mono ?_
  rintro e w1 ⟨gn, rfl, hV1⟩
  have HV1 := Shut.mk hV1
  clear hV1
  go_wp2_with fail
  generalize w1.alloc (.cells #[.slice none 0 0, .int .i64 0] 53) = W1 at HV1 ⊢
  generalize w1.heap.size = gx at HV1 ⊢
  go_loopw [29] (fun i wr => ∃ (k n last : Nat) (L : List Cn), k ≤ NL ∧ k ≤ 61 ∧ n ≤ k ∧ last ≤ k ∧ L.length ≤ k ∧ (∀ c ∈ L, c.2.2.length ≤ tot ds k) ∧ i = .int .i64 k ∧ LV w wr gn gx n last L last L []) (fun i _ => NL - (intOf i).toNat)
  case atStart => exact ⟨0, 0, 0, [], Nat.zero_le _, by omega, Nat.le_refl _, Nat.le_refl _, by simp, by simp, rfl, HV1.out⟩
  case round =>
    obtain ⟨k, n, last, L, hk, hk61, hn, hla, hLl, hby, rfl, hV⟩ := hrel
    have HV := Shut.mk hV
    have HBY := Shut.mk hby
    have HID := Shut.mk hV.ids
    clear hV hby
    by_cases hlt : k < NL
    · have hkI : (k : Int) < (NL : Int) := by omega
      obtain ⟨d, hd⟩ : ∃ d, ds[k]? = some d := ⟨ds[k]'(by rw [← HNL.out]; exact hlt), List.getElem?_eq_getElem _⟩
      obtain ⟨ad, B, c, rfl, q0, q1, q2, hrb, hn1, hn2⟩ := HL.out k d hd
      have r0 := (HV.out.below.cell (World.block_lt_of_cell? w _ q0)).trans q0
      have r1 := (HV.out.below.cell (World.block_lt_of_cell? w _ q1)).trans q1
      have r2 := (HV.out.below.cell (World.block_lt_of_cell? w _ q2)).trans q2
      have HRB := Shut.mk (hrb.keep HV.out.below)
      have RDB0 := Shut.mk (fun (w9 : World) (hb : Below w.heap.size w w9) => hrb.keep hb)
      have hts := tot_succ hd
      have htk := HT.out k
      have htk1 := HT.out (k + 1)
      clear q0 q1 q2 hrb hd
      obtain ⟨op, nn, bb⟩ := d
      obtain ⟨m, hm⟩ : ∃ m, m = bb.length := ⟨_, rfl⟩
      simp only [] at r0 r1 r2 HRB hts hn1 hn2
      rw [← hm] at r2 hts
      have HM := Shut.mk hm
      clear hm
      by_cases h60 : k ≤ 60
      · have h60I : ¬ (k : Int) > 60 := by omega
        obtain ⟨N0, hN0, hB0⟩ := u64_nat op
        obtain ⟨r, hr5, hT0⟩ := tmod_nat N0 5 (by omega)
        have hT0' : ((N0 : Int).tmod 5) = (r : Int) := hT0
        have hwi : IntKind.i64.wrap (r : Int) = (r : Int) := by rw [IntKind.wrap_i64]; omega
        clear hT0
        obtain ⟨gk, hgk⟩ : ∃ gk, gk = wr.heap.size := ⟨_, rfl⟩
        have hVB := HV.out.box (.cells #[.int .i64 op, .int .i64 nn, .slice B m c] 43)
        have HRA := Shut.mk (HRB.out.keep ((Below.refl _ wr).alloc (Nat.le_refl _) (.cells #[.int .i64 op, .int .i64 nn, .slice B m c] 43)))
        have HB0 := Shut.mk (show Blk (wr.alloc (.cells #[.int .i64 op, .int .i64 nn, .slice B m c] 43)) wr.heap.size 43 #[.int .i64 op, .int .i64 nn, .slice B m c] from Blk.new wr _ _)
        have HVB := Shut.mk hVB
        have HR0 := Shut.mk (fun (w9 : World) (hb : Below w.heap.size w w9) => RDB0.out w9 hb)
        clear hVB HV
        obtain ⟨WB, hWB⟩ : ∃ WB, WB = wr.alloc (.cells #[.int .i64 op, .int .i64 nn, .slice B m c] 43) := ⟨_, rfl⟩
        rw [← hWB, ← hgk] at HVB HB0
        rw [← hWB] at HRA
        have d1 : WB.cell? ⟨gk, 1, none⟩ = some (.int .i64 nn) := HB0.out.cell 1
        have d2 : WB.cell? ⟨gk, 2, none⟩ = some (.slice B m c) := HB0.out.cell 2
        go_upto_region 9 with fail
        rw [← hWB, ← hgk]
        clear hWB hgk HB0 r0 r1 r2 HRB hwi hT0' hN0
        have hr : r = 0 ∨ r = 1 ∨ r = 2 ∨ r = 3 ∨ r = 4 := by omega
        clear hr5
        rcases hr with rfl | rfl | rfl | rfl | rfl
        · by_cases hdom : 0 ≤ nn ∧ nn ≤ 4294967295
          · have g1 : ¬ nn < 0 := by omega
            have HDP := Shut.mk (lv_dial HVB.out nn hdom.1 hdom.2 (by omega) (by omega))
            go_wp2_with fail
            refine HDP.out.mono ?_
            rintro e w2 ⟨rfl, hV2⟩
            have e1 : w2.cell? ⟨gk, 1, none⟩ = some (.int .i64 nn) := cell_of_row w2 gk 1 _ _ _ (hV2.blk _ (List.mem_cons_self ..))
            have HDR := Shut.mk (lv_rdial hV2 nn hdom.1 hdom.2 (by omega) (by omega))
            clear hV2 HDP d1 d2
            go_wp2_with fail
            refine HDR.out.mono ?_
            rintro e w3 ⟨rfl, hVT⟩
            have HVT := Shut.mk hVT
            clear hVT HDR e1 hdom
            have z1 : w3.cell? ⟨gk, 1, none⟩ = some (.int .i64 nn) := cell_of_row w3 gk 1 _ _ _ (HVT.out.blk _ (List.mem_cons_self ..))
            have HA1 := Shut.mk (lv_addr HVT.out nn hn1 hn2)
            have HR1 := Shut.mk (lv_raddr HVT.out (by (try rw [List.length_append]); (try simp only [List.length_append, List.length_cons, List.length_nil]); omega) nn)
            have HI := Shut.mk HVT.out.ids
            obtain ⟨LX, hLX⟩ : ∃ LX, LX = L ++ [((last : Int) + 1, nn, [])] := ⟨_, rfl⟩
            rw [← hLX] at HA1 HR1 HVT HI
            obtain ⟨za, hza⟩ : ∃ z, z = (lookC LX nn).elim 0 (·.2.1) := ⟨_, rfl⟩
            obtain ⟨zb, hzb⟩ : ∃ z, z = (lookC LX nn).isSome := ⟨_, rfl⟩
            rw [← hza, ← hzb] at HA1 HR1
            have HLX := Shut.mk hLX
            clear hza hzb hLX
            go_wp2_with fail
            refine HA1.out.mono ?_
            rintro e w' ⟨rfl, rfl⟩
            go_wp2_with fail
            refine HR1.out.mono ?_
            rintro e w8 ⟨rfl, hV8⟩
            have HC8 := Shut.mk (lv_conns hV8 (by omega))
            clear hV8 HA1 HR1
            go_wp2_with fail
            refine HC8.out.mono ?_
            rintro e w9 ⟨v9, rfl, ho9, hb9, hV9⟩
            have HC9 := Shut.mk (lv_rconns hV9 (by rw [HLX.out]; (try rw [List.length_append]); (try simp only [List.length_append, List.length_cons, List.length_nil]); omega))
            have HO9 := Shut.mk ho9
            clear hV9 hb9 ho9 HC8
            go_wp2_with fail
            refine HC9.out.mono ?_
            rintro e w10 ⟨v10, rfl, ho10, hb10, hV10⟩
            have HEQ := Shut.mk (equal_ints v9 v10 (LX.map (·.1)) w10 (HO9.out.below hb10 (fun g hg => HO9.out.block_lt hg)) ho10)
            have HV10 := Shut.mk hV10
            clear hV10 hb10 ho10 HC9
            go_wp2_with fail
            refine HEQ.out.mono ?_
            rintro e w11 ⟨rfl, hb11⟩
            have HV11 := Shut.mk ((HV10.out.quiet hb11).less (kk' := []) (by simp))
            clear hb11 HEQ
            go_wp2_with fail
            go_roundw
            case rel => exact ⟨k + 1, n + 1, last + 1, LX, by omega, by omega, by omega, by omega, by rw [HLX.out]; (try rw [List.length_append]); (try simp only [List.length_append, List.length_cons, List.length_nil]); omega, by rw [HLX.out]; (intro c hc; rcases List.mem_append.1 hc with hc | hc; exact Nat.le_trans (HBY.out c hc) (by omega); rw [List.mem_singleton.1 hc]; exact Nat.zero_le _), by go_num, HV11.out⟩
            case measure => simp [intOf]; omega
          · have hbad : nn < 0 ∨ 4294967295 < nn := by omega
            have HDP := Shut.mk (lv_dial_bad HVB.out nn hbad)
            have HDR := Shut.mk (rdial_bad (gx := gx) nn hbad WB)
            clear hdom hbad
            go_wp2_with fail
            refine HDP.out.mono ?_
            rintro e w' ⟨rfl, rfl⟩
            go_wp2_with fail
            refine HDR.out.mono ?_
            rintro e w' ⟨rfl, rfl⟩
            have HVT := HVB
            clear HDR HDP d1 d2
            have z1 : WB.cell? ⟨gk, 1, none⟩ = some (.int .i64 nn) := cell_of_row WB gk 1 _ _ _ (HVT.out.blk _ (List.mem_cons_self ..))
            have HA1 := Shut.mk (lv_addr HVT.out nn hn1 hn2)
            have HR1 := Shut.mk (lv_raddr HVT.out (by omega) nn)
            have HI := Shut.mk HVT.out.ids
            obtain ⟨LX, hLX⟩ : ∃ LX, LX = L := ⟨_, rfl⟩
            rw [← hLX] at HA1 HR1 HVT HI
            obtain ⟨za, hza⟩ : ∃ z, z = (lookC LX nn).elim 0 (·.2.1) := ⟨_, rfl⟩
            obtain ⟨zb, hzb⟩ : ∃ z, z = (lookC LX nn).isSome := ⟨_, rfl⟩
            rw [← hza, ← hzb] at HA1 HR1
            have HLX := Shut.mk hLX
            clear hza hzb hLX
            go_wp2_with fail
            refine HA1.out.mono ?_
            rintro e w' ⟨rfl, rfl⟩
            go_wp2_with fail
            refine HR1.out.mono ?_
            rintro e w8 ⟨rfl, hV8⟩
            have HC8 := Shut.mk (lv_conns hV8 (by omega))
            clear hV8 HA1 HR1
            go_wp2_with fail
            refine HC8.out.mono ?_
            rintro e w9 ⟨v9, rfl, ho9, hb9, hV9⟩
            have HC9 := Shut.mk (lv_rconns hV9 (by rw [HLX.out]; omega))
            have HO9 := Shut.mk ho9
            clear hV9 hb9 ho9 HC8
            go_wp2_with fail
            refine HC9.out.mono ?_
            rintro e w10 ⟨v10, rfl, ho10, hb10, hV10⟩
            have HEQ := Shut.mk (equal_ints v9 v10 (LX.map (·.1)) w10 (HO9.out.below hb10 (fun g hg => HO9.out.block_lt hg)) ho10)
            have HV10 := Shut.mk hV10
            clear hV10 hb10 ho10 HC9
            go_wp2_with fail
            refine HEQ.out.mono ?_
            rintro e w11 ⟨rfl, hb11⟩
            have HV11 := Shut.mk ((HV10.out.quiet hb11).less (kk' := []) (by simp))
            clear hb11 HEQ
            go_wp2_with fail
            go_roundw
            case rel => exact ⟨k + 1, n, last, LX, by omega, by omega, by omega, by omega, by rw [HLX.out]; omega, by rw [HLX.out]; exact fun c hc => Nat.le_trans (HBY.out c hc) (by omega), by go_num, HV11.out⟩
            case measure => simp [intOf]; omega
        · cases hlk : lookC L nn with
          | none =>
            have HWP := Shut.mk (lv_write_none HVB.out nn hn1 hn2 hlk B m c)
            have HVD := Shut.mk (show LV w WB.drew gn gx n last L last L [(gk, .cells #[.int .i64 op, .int .i64 nn, .slice B m c] 43)] from HVB.out.quiet ⟨rfl, rfl, rfl, Nat.le_refl _, fun _ _ => rfl⟩)
            have HWP := Shut.mk (lv_write_none HVD.out nn hn1 hn2 hlk B m c)
            have HWR := Shut.mk (lv_rwrite_none HVD.out (by omega) nn hlk B m c)
            clear hlk
            go_wp2_with fail
            go_region_held3 (fun w' => w'.cell? ⟨gk, 1, none⟩ = some (.int .i64 nn) ∧ w'.cell? ⟨gk, 2, none⟩ = some (.slice B m c))
              (first | exact ⟨d1, d2⟩ | exact ⟨e1, e2⟩ | go_keep)
              (first
                | (go_at_call 9
                   refine HWP.out.mono ?_
                   rintro e w' ⟨rfl, rfl⟩)
                | (go_at_call 17
                   refine HWR.out.mono ?_
                   rintro e w3 ⟨rfl, hVT⟩
                   have e1 : w3.cell? ⟨gk, 1, none⟩ = some (.int .i64 nn) := cell_of_row w3 gk 1 _ _ _ (hVT.blk _ (List.mem_cons_self ..))
                   have e2 : w3.cell? ⟨gk, 2, none⟩ = some (.slice B m c) := cell_of_row w3 gk 2 _ _ _ (hVT.blk _ (List.mem_cons_self ..))
                   have HVT := Shut.mk hVT
                   clear hVT))
            clear HWR HWP HVD d1 d2 e1 e2
            have z1 : w3.cell? ⟨gk, 1, none⟩ = some (.int .i64 nn) := cell_of_row w3 gk 1 _ _ _ (HVT.out.blk _ (List.mem_cons_self ..))
            have HA1 := Shut.mk (lv_addr HVT.out nn hn1 hn2)
            have HR1 := Shut.mk (lv_raddr HVT.out (by omega) nn)
            have HI := Shut.mk HVT.out.ids
            obtain ⟨LX, hLX⟩ : ∃ LX, LX = L := ⟨_, rfl⟩
            rw [← hLX] at HA1 HR1 HVT HI
            obtain ⟨za, hza⟩ : ∃ z, z = (lookC LX nn).elim 0 (·.2.1) := ⟨_, rfl⟩
            obtain ⟨zb, hzb⟩ : ∃ z, z = (lookC LX nn).isSome := ⟨_, rfl⟩
            rw [← hza, ← hzb] at HA1 HR1
            have HLX := Shut.mk hLX
            clear hza hzb hLX
            go_wp2_with fail
            refine HA1.out.mono ?_
            rintro e w' ⟨rfl, rfl⟩
            go_wp2_with fail
            refine HR1.out.mono ?_
            rintro e w8 ⟨rfl, hV8⟩
            have HC8 := Shut.mk (lv_conns hV8 (by omega))
            clear hV8 HA1 HR1
            go_wp2_with fail
            refine HC8.out.mono ?_
            rintro e w9 ⟨v9, rfl, ho9, hb9, hV9⟩
            have HC9 := Shut.mk (lv_rconns hV9 (by rw [HLX.out]; omega))
            have HO9 := Shut.mk ho9
            clear hV9 hb9 ho9 HC8
            go_wp2_with fail
            refine HC9.out.mono ?_
            rintro e w10 ⟨v10, rfl, ho10, hb10, hV10⟩
            have HEQ := Shut.mk (equal_ints v9 v10 (LX.map (·.1)) w10 (HO9.out.below hb10 (fun g hg => HO9.out.block_lt hg)) ho10)
            have HV10 := Shut.mk hV10
            clear hV10 hb10 ho10 HC9
            go_wp2_with fail
            refine HEQ.out.mono ?_
            rintro e w11 ⟨rfl, hb11⟩
            have HV11 := Shut.mk ((HV10.out.quiet hb11).less (kk' := []) (by simp))
            clear hb11 HEQ
            go_wp2_with fail
            go_roundw
            case rel => exact ⟨k + 1, n, last, LX, by omega, by omega, by omega, by omega, by rw [HLX.out]; omega, by rw [HLX.out]; exact fun c hc => Nat.le_trans (HBY.out c hc) (by omega), by go_num, HV11.out⟩
            case measure => simp [intOf]; omega
          | some cc =>
            obtain ⟨ad2, l2, hl2⟩ : ∃ ad2 l2, lookC L nn = some (nn, ad2, l2) := ⟨cc.2.1, cc.2.2, by rw [hlk]; obtain ⟨_, e⟩ := lookC_some hlk; rw [← e]⟩
            have hll : l2.length ≤ tot ds k := HBY.out _ (lookC_some hl2).1
            have HVD := Shut.mk (show LV w WB.drew gn gx n last L last L [(gk, .cells #[.int .i64 op, .int .i64 nn, .slice B m c] 43)] from HVB.out.quiet ⟨rfl, rfl, rfl, Nat.le_refl _, fun _ _ => rfl⟩)
            have HRD := Shut.mk (show RdB WB.drew B bb from HRA.out.keep (w' := WB.drew) ⟨rfl, rfl, rfl, Nat.le_refl _, fun _ _ => rfl⟩)
            have HWP := Shut.mk (lv_write HVD.out nn hn1 hn2 hl2 B m c bb HRD.out HM.out.symm (by unfold reach; omega))
            have HHL := Shut.mk hl2
            have hWBs : WB.heap.size = WB.drew.heap.size := rfl
            clear hl2 hlk
            go_wp2_with fail
            go_region_held3 (fun w' => w'.cell? ⟨gk, 1, none⟩ = some (.int .i64 nn) ∧ w'.cell? ⟨gk, 2, none⟩ = some (.slice B m c))
              (first | exact ⟨d1, d2⟩ | exact ⟨e1, e2⟩ | exact ⟨g1, g2⟩ | go_keep)
              (first
                | (go_at_call 9
                   refine HWP.out.mono ?_
                   rintro e w2 ⟨rfl, hV2⟩
                   have e1 : w2.cell? ⟨gk, 1, none⟩ = some (.int .i64 nn) := cell_of_row w2 gk 1 _ _ _ (hV2.blk _ (List.mem_cons_self ..))
                   have e2 : w2.cell? ⟨gk, 2, none⟩ = some (.slice B m c) := cell_of_row w2 gk 2 _ _ _ (hV2.blk _ (List.mem_cons_self ..))
                   have HWR := Shut.mk (lv_rwrite hV2 HID.out (by omega) nn HHL.out B m c bb (HR0.out w2 hV2.below) HM.out.symm (by unfold reach; omega))
                   clear hV2)
                | (go_at_call 17
                   refine HWR.out.mono ?_
                   rintro e w3 ⟨rfl, hVT⟩
                   have g1 : w3.cell? ⟨gk, 1, none⟩ = some (.int .i64 nn) := cell_of_row w3 gk 1 _ _ _ (hVT.blk _ (List.mem_cons_self ..))
                   have g2 : w3.cell? ⟨gk, 2, none⟩ = some (.slice B m c) := cell_of_row w3 gk 2 _ _ _ (hVT.blk _ (List.mem_cons_self ..))
                   have HVT := Shut.mk hVT
                   clear hVT))
            clear HWR HWP HVD HRD d1 d2 e1 e2 g1 g2
            have z1 : w3.cell? ⟨gk, 1, none⟩ = some (.int .i64 nn) := cell_of_row w3 gk 1 _ _ _ (HVT.out.blk _ (List.mem_cons_self ..))
            have HA1 := Shut.mk (lv_addr HVT.out nn hn1 hn2)
            have HR1 := Shut.mk (lv_raddr HVT.out (by (try rw [upd_len]); omega) nn)
            have HI := Shut.mk HVT.out.ids
            obtain ⟨LX, hLX⟩ : ∃ LX, LX = upd L nn ad2 (l2 ++ bb) := ⟨_, rfl⟩
            rw [← hLX] at HA1 HR1 HVT HI
            obtain ⟨za, hza⟩ : ∃ z, z = (lookC LX nn).elim 0 (·.2.1) := ⟨_, rfl⟩
            obtain ⟨zb, hzb⟩ : ∃ z, z = (lookC LX nn).isSome := ⟨_, rfl⟩
            rw [← hza, ← hzb] at HA1 HR1
            have HLX := Shut.mk hLX
            clear hza hzb hLX
            go_wp2_with fail
            refine HA1.out.mono ?_
            rintro e w' ⟨rfl, rfl⟩
            go_wp2_with fail
            refine HR1.out.mono ?_
            rintro e w8 ⟨rfl, hV8⟩
            have HC8 := Shut.mk (lv_conns hV8 (by omega))
            clear hV8 HA1 HR1
            go_wp2_with fail
            refine HC8.out.mono ?_
            rintro e w9 ⟨v9, rfl, ho9, hb9, hV9⟩
            have HC9 := Shut.mk (lv_rconns hV9 (by rw [HLX.out]; (try rw [upd_len]); omega))
            have HO9 := Shut.mk ho9
            clear hV9 hb9 ho9 HC8
            go_wp2_with fail
            refine HC9.out.mono ?_
            rintro e w10 ⟨v10, rfl, ho10, hb10, hV10⟩
            have HEQ := Shut.mk (equal_ints v9 v10 (LX.map (·.1)) w10 (HO9.out.below hb10 (fun g hg => HO9.out.block_lt hg)) ho10)
            have HV10 := Shut.mk hV10
            clear hV10 hb10 ho10 HC9
            go_wp2_with fail
            refine HEQ.out.mono ?_
            rintro e w11 ⟨rfl, hb11⟩
            have HV11 := Shut.mk ((HV10.out.quiet hb11).less (kk' := []) (by simp))
            clear hb11 HEQ
            go_wp2_with fail
            go_roundw
            case rel => exact ⟨k + 1, n, last, LX, by omega, by omega, by omega, by omega, by rw [HLX.out]; (try rw [upd_len]); omega, by rw [HLX.out]; (intro c hc; rcases upd_mem hc with rfl | ⟨hc, _⟩; (show (l2 ++ bb).length ≤ _; rw [List.length_append, ← HM.out]; omega); exact Nat.le_trans (HBY.out c hc) (by omega)), by go_num, HV11.out⟩
            case measure => simp [intOf]; omega
        · cases hlk : lookC L nn with
          | none =>
            have HWP := Shut.mk (lv_write_none HVB.out nn hn1 hn2 hlk B m c)
            have HVD := Shut.mk (show LV w WB.drew gn gx n last L last L [(gk, .cells #[.int .i64 op, .int .i64 nn, .slice B m c] 43)] from HVB.out.quiet ⟨rfl, rfl, rfl, Nat.le_refl _, fun _ _ => rfl⟩)
            have HWP := Shut.mk (lv_write_none HVD.out nn hn1 hn2 hlk B m c)
            have HWR := Shut.mk (lv_rwrite_none HVD.out (by omega) nn hlk B m c)
            clear hlk
            go_wp2_with fail
            go_region_held3 (fun w' => w'.cell? ⟨gk, 1, none⟩ = some (.int .i64 nn) ∧ w'.cell? ⟨gk, 2, none⟩ = some (.slice B m c))
              (first | exact ⟨d1, d2⟩ | exact ⟨e1, e2⟩ | go_keep)
              (first
                | (go_at_call 9
                   refine HWP.out.mono ?_
                   rintro e w' ⟨rfl, rfl⟩)
                | (go_at_call 17
                   refine HWR.out.mono ?_
                   rintro e w3 ⟨rfl, hVT⟩
                   have e1 : w3.cell? ⟨gk, 1, none⟩ = some (.int .i64 nn) := cell_of_row w3 gk 1 _ _ _ (hVT.blk _ (List.mem_cons_self ..))
                   have e2 : w3.cell? ⟨gk, 2, none⟩ = some (.slice B m c) := cell_of_row w3 gk 2 _ _ _ (hVT.blk _ (List.mem_cons_self ..))
                   have HVT := Shut.mk hVT
                   clear hVT))
            clear HWR HWP HVD d1 d2 e1 e2
            have z1 : w3.cell? ⟨gk, 1, none⟩ = some (.int .i64 nn) := cell_of_row w3 gk 1 _ _ _ (HVT.out.blk _ (List.mem_cons_self ..))
            have HA1 := Shut.mk (lv_addr HVT.out nn hn1 hn2)
            have HR1 := Shut.mk (lv_raddr HVT.out (by omega) nn)
            have HI := Shut.mk HVT.out.ids
            obtain ⟨LX, hLX⟩ : ∃ LX, LX = L := ⟨_, rfl⟩
            rw [← hLX] at HA1 HR1 HVT HI
            obtain ⟨za, hza⟩ : ∃ z, z = (lookC LX nn).elim 0 (·.2.1) := ⟨_, rfl⟩
            obtain ⟨zb, hzb⟩ : ∃ z, z = (lookC LX nn).isSome := ⟨_, rfl⟩
            rw [← hza, ← hzb] at HA1 HR1
            have HLX := Shut.mk hLX
            clear hza hzb hLX
            go_wp2_with fail
            refine HA1.out.mono ?_
            rintro e w' ⟨rfl, rfl⟩
            go_wp2_with fail
            refine HR1.out.mono ?_
            rintro e w8 ⟨rfl, hV8⟩
            have HC8 := Shut.mk (lv_conns hV8 (by omega))
            clear hV8 HA1 HR1
            go_wp2_with fail
            refine HC8.out.mono ?_
            rintro e w9 ⟨v9, rfl, ho9, hb9, hV9⟩
            have HC9 := Shut.mk (lv_rconns hV9 (by rw [HLX.out]; omega))
            have HO9 := Shut.mk ho9
            clear hV9 hb9 ho9 HC8
            go_wp2_with fail
            refine HC9.out.mono ?_
            rintro e w10 ⟨v10, rfl, ho10, hb10, hV10⟩
            have HEQ := Shut.mk (equal_ints v9 v10 (LX.map (·.1)) w10 (HO9.out.below hb10 (fun g hg => HO9.out.block_lt hg)) ho10)
            have HV10 := Shut.mk hV10
            clear hV10 hb10 ho10 HC9
            go_wp2_with fail
            refine HEQ.out.mono ?_
            rintro e w11 ⟨rfl, hb11⟩
            have HV11 := Shut.mk ((HV10.out.quiet hb11).less (kk' := []) (by simp))
            clear hb11 HEQ
            go_wp2_with fail
            go_roundw
            case rel => exact ⟨k + 1, n, last, LX, by omega, by omega, by omega, by omega, by rw [HLX.out]; omega, by rw [HLX.out]; exact fun c hc => Nat.le_trans (HBY.out c hc) (by omega), by go_num, HV11.out⟩
            case measure => simp [intOf]; omega
          | some cc =>
            obtain ⟨ad2, l2, hl2⟩ : ∃ ad2 l2, lookC L nn = some (nn, ad2, l2) := ⟨cc.2.1, cc.2.2, by rw [hlk]; obtain ⟨_, e⟩ := lookC_some hlk; rw [← e]⟩
            have hll : l2.length ≤ tot ds k := HBY.out _ (lookC_some hl2).1
            have HVD := Shut.mk (show LV w WB.drew gn gx n last L last L [(gk, .cells #[.int .i64 op, .int .i64 nn, .slice B m c] 43)] from HVB.out.quiet ⟨rfl, rfl, rfl, Nat.le_refl _, fun _ _ => rfl⟩)
            have HRD := Shut.mk (show RdB WB.drew B bb from HRA.out.keep (w' := WB.drew) ⟨rfl, rfl, rfl, Nat.le_refl _, fun _ _ => rfl⟩)
            have HWP := Shut.mk (lv_write HVD.out nn hn1 hn2 hl2 B m c bb HRD.out HM.out.symm (by unfold reach; omega))
            have HHL := Shut.mk hl2
            have hWBs : WB.heap.size = WB.drew.heap.size := rfl
            clear hl2 hlk
            go_wp2_with fail
            go_region_held3 (fun w' => w'.cell? ⟨gk, 1, none⟩ = some (.int .i64 nn) ∧ w'.cell? ⟨gk, 2, none⟩ = some (.slice B m c))
              (first | exact ⟨d1, d2⟩ | exact ⟨e1, e2⟩ | exact ⟨g1, g2⟩ | go_keep)
              (first
                | (go_at_call 9
                   refine HWP.out.mono ?_
                   rintro e w2 ⟨rfl, hV2⟩
                   have e1 : w2.cell? ⟨gk, 1, none⟩ = some (.int .i64 nn) := cell_of_row w2 gk 1 _ _ _ (hV2.blk _ (List.mem_cons_self ..))
                   have e2 : w2.cell? ⟨gk, 2, none⟩ = some (.slice B m c) := cell_of_row w2 gk 2 _ _ _ (hV2.blk _ (List.mem_cons_self ..))
                   have HWR := Shut.mk (lv_rwrite hV2 HID.out (by omega) nn HHL.out B m c bb (HR0.out w2 hV2.below) HM.out.symm (by unfold reach; omega))
                   clear hV2)
                | (go_at_call 17
                   refine HWR.out.mono ?_
                   rintro e w3 ⟨rfl, hVT⟩
                   have g1 : w3.cell? ⟨gk, 1, none⟩ = some (.int .i64 nn) := cell_of_row w3 gk 1 _ _ _ (hVT.blk _ (List.mem_cons_self ..))
                   have g2 : w3.cell? ⟨gk, 2, none⟩ = some (.slice B m c) := cell_of_row w3 gk 2 _ _ _ (hVT.blk _ (List.mem_cons_self ..))
                   have HVT := Shut.mk hVT
                   clear hVT))
            clear HWR HWP HVD HRD d1 d2 e1 e2 g1 g2
            have z1 : w3.cell? ⟨gk, 1, none⟩ = some (.int .i64 nn) := cell_of_row w3 gk 1 _ _ _ (HVT.out.blk _ (List.mem_cons_self ..))
            have HA1 := Shut.mk (lv_addr HVT.out nn hn1 hn2)
            have HR1 := Shut.mk (lv_raddr HVT.out (by (try rw [upd_len]); omega) nn)
            have HI := Shut.mk HVT.out.ids
            obtain ⟨LX, hLX⟩ : ∃ LX, LX = upd L nn ad2 (l2 ++ bb) := ⟨_, rfl⟩
            rw [← hLX] at HA1 HR1 HVT HI
            obtain ⟨za, hza⟩ : ∃ z, z = (lookC LX nn).elim 0 (·.2.1) := ⟨_, rfl⟩
            obtain ⟨zb, hzb⟩ : ∃ z, z = (lookC LX nn).isSome := ⟨_, rfl⟩
            rw [← hza, ← hzb] at HA1 HR1
            have HLX := Shut.mk hLX
            clear hza hzb hLX
            go_wp2_with fail
            refine HA1.out.mono ?_
            rintro e w' ⟨rfl, rfl⟩
            go_wp2_with fail
            refine HR1.out.mono ?_
            rintro e w8 ⟨rfl, hV8⟩
            have HC8 := Shut.mk (lv_conns hV8 (by omega))
            clear hV8 HA1 HR1
            go_wp2_with fail
            refine HC8.out.mono ?_
            rintro e w9 ⟨v9, rfl, ho9, hb9, hV9⟩
            have HC9 := Shut.mk (lv_rconns hV9 (by rw [HLX.out]; (try rw [upd_len]); omega))
            have HO9 := Shut.mk ho9
            clear hV9 hb9 ho9 HC8
            go_wp2_with fail
            refine HC9.out.mono ?_
            rintro e w10 ⟨v10, rfl, ho10, hb10, hV10⟩
            have HEQ := Shut.mk (equal_ints v9 v10 (LX.map (·.1)) w10 (HO9.out.below hb10 (fun g hg => HO9.out.block_lt hg)) ho10)
            have HV10 := Shut.mk hV10
            clear hV10 hb10 ho10 HC9
            go_wp2_with fail
            refine HEQ.out.mono ?_
            rintro e w11 ⟨rfl, hb11⟩
            have HV11 := Shut.mk ((HV10.out.quiet hb11).less (kk' := []) (by simp))
            clear hb11 HEQ
            go_wp2_with fail
            go_roundw
            case rel => exact ⟨k + 1, n, last, LX, by omega, by omega, by omega, by omega, by rw [HLX.out]; (try rw [upd_len]); omega, by rw [HLX.out]; (intro c hc; rcases upd_mem hc with rfl | ⟨hc, _⟩; (show (l2 ++ bb).length ≤ _; rw [List.length_append, ← HM.out]; omega); exact Nat.le_trans (HBY.out c hc) (by omega)), by go_num, HV11.out⟩
            case measure => simp [intOf]; omega
        · cases hlk : lookC L nn with
          | none =>
            have HWP := Shut.mk (lv_take_none HVB.out nn hn1 hn2 hlk)
            have HWR := Shut.mk (lv_rtake_none HVB.out (by omega) nn hlk)
            clear hlk
            go_wp2_with fail
            refine HWP.out.mono ?_
            rintro e w' ⟨rfl, rfl⟩
            go_wp2_with fail
            refine HWR.out.mono ?_
            rintro e w3 ⟨rfl, hVT⟩
            have HVT := Shut.mk hVT
            have HEB := Shut.mk (equal_calls none none 0 0 0 0 [] [] w3 (fun k hk => by simp at hk) (fun k hk => by simp at hk) rfl rfl)
            clear hVT HWR HWP d1 d2
            go_wp2_with fail
            refine HEB.out.mono ?_
            rintro e w' ⟨rfl, rfl⟩
            have hbt : (([] : List UInt8) == []) = true := rfl
            rw [hbt]
            have z1 : w3.cell? ⟨gk, 1, none⟩ = some (.int .i64 nn) := cell_of_row w3 gk 1 _ _ _ (HVT.out.blk _ (List.mem_cons_self ..))
            have HA1 := Shut.mk (lv_addr HVT.out nn hn1 hn2)
            have HR1 := Shut.mk (lv_raddr HVT.out (by omega) nn)
            have HI := Shut.mk HVT.out.ids
            obtain ⟨LX, hLX⟩ : ∃ LX, LX = L := ⟨_, rfl⟩
            rw [← hLX] at HA1 HR1 HVT HI
            obtain ⟨za, hza⟩ : ∃ z, z = (lookC LX nn).elim 0 (·.2.1) := ⟨_, rfl⟩
            obtain ⟨zb, hzb⟩ : ∃ z, z = (lookC LX nn).isSome := ⟨_, rfl⟩
            rw [← hza, ← hzb] at HA1 HR1
            have HLX := Shut.mk hLX
            clear hza hzb hLX
            go_wp2_with fail
            refine HA1.out.mono ?_
            rintro e w' ⟨rfl, rfl⟩
            go_wp2_with fail
            refine HR1.out.mono ?_
            rintro e w8 ⟨rfl, hV8⟩
            have HC8 := Shut.mk (lv_conns hV8 (by omega))
            clear hV8 HA1 HR1
            go_wp2_with fail
            refine HC8.out.mono ?_
            rintro e w9 ⟨v9, rfl, ho9, hb9, hV9⟩
            have HC9 := Shut.mk (lv_rconns hV9 (by rw [HLX.out]; omega))
            have HO9 := Shut.mk ho9
            clear hV9 hb9 ho9 HC8
            go_wp2_with fail
            refine HC9.out.mono ?_
            rintro e w10 ⟨v10, rfl, ho10, hb10, hV10⟩
            have HEQ := Shut.mk (equal_ints v9 v10 (LX.map (·.1)) w10 (HO9.out.below hb10 (fun g hg => HO9.out.block_lt hg)) ho10)
            have HV10 := Shut.mk hV10
            clear hV10 hb10 ho10 HC9
            go_wp2_with fail
            refine HEQ.out.mono ?_
            rintro e w11 ⟨rfl, hb11⟩
            have HV11 := Shut.mk ((HV10.out.quiet hb11).less (kk' := []) (by simp))
            clear hb11 HEQ
            go_wp2_with fail
            go_roundw
            case rel => exact ⟨k + 1, n, last, LX, by omega, by omega, by omega, by omega, by rw [HLX.out]; omega, by rw [HLX.out]; exact fun c hc => Nat.le_trans (HBY.out c hc) (by omega), by go_num, HV11.out⟩
            case measure => simp [intOf]; omega
          | some cc =>
            obtain ⟨ad2, l2, hl2⟩ : ∃ ad2 l2, lookC L nn = some (nn, ad2, l2) := ⟨cc.2.1, cc.2.2, by rw [hlk]; obtain ⟨_, e⟩ := lookC_some hlk; rw [← e]⟩
            have hll : l2.length ≤ tot ds k := HBY.out _ (lookC_some hl2).1
            have HWP := Shut.mk (lv_take HVB.out nn hn1 hn2 hl2 (by unfold reach; omega))
            have HHL := Shut.mk hl2
            clear hl2 hlk
            go_wp2_with fail
            refine HWP.out.mono ?_
            rintro e w2 ⟨At, ct, kt, rfl, hV2, hrt⟩
            have e1 : w2.cell? ⟨gk, 1, none⟩ = some (.int .i64 nn) := cell_of_row w2 gk 1 _ _ _ (hV2.blk _ (List.mem_append_right _ (List.mem_cons_self ..)))
            have HWR := Shut.mk (lv_rtake hV2 HID.out (by omega) nn HHL.out)
            have HRT := Shut.mk hrt
            clear hV2 HWP d1 d2 hrt
            go_wp2_with fail
            refine HWR.out.mono ?_
            rintro e w3 ⟨Au, cu, rfl, hru, hVT⟩
            have HEB := Shut.mk (equal_calls At Au l2.length ct l2.length cu l2 l2 w3 (HRT.out w3 fun p hp => hVT.blk p (List.mem_append_left _ hp)) hru rfl rfl)
            rw [beq_self_eq_true] at HEB
            have HVT := Shut.mk (hVT.less (kk' := [(gk, .cells #[.int .i64 op, .int .i64 nn, .slice B m c] 43)]) (fun p hp => List.mem_append_right _ hp))
            clear hVT HWR e1 hru
            go_wp2_with fail
            refine HEB.out.mono ?_
            rintro e w' ⟨rfl, rfl⟩
            have z1 : w3.cell? ⟨gk, 1, none⟩ = some (.int .i64 nn) := cell_of_row w3 gk 1 _ _ _ (HVT.out.blk _ (List.mem_cons_self ..))
            have HA1 := Shut.mk (lv_addr HVT.out nn hn1 hn2)
            have HR1 := Shut.mk (lv_raddr HVT.out (by (try rw [upd_len]); omega) nn)
            have HI := Shut.mk HVT.out.ids
            obtain ⟨LX, hLX⟩ : ∃ LX, LX = upd L nn ad2 [] := ⟨_, rfl⟩
            rw [← hLX] at HA1 HR1 HVT HI
            obtain ⟨za, hza⟩ : ∃ z, z = (lookC LX nn).elim 0 (·.2.1) := ⟨_, rfl⟩
            obtain ⟨zb, hzb⟩ : ∃ z, z = (lookC LX nn).isSome := ⟨_, rfl⟩
            rw [← hza, ← hzb] at HA1 HR1
            have HLX := Shut.mk hLX
            clear hza hzb hLX
            go_wp2_with fail
            refine HA1.out.mono ?_
            rintro e w' ⟨rfl, rfl⟩
            go_wp2_with fail
            refine HR1.out.mono ?_
            rintro e w8 ⟨rfl, hV8⟩
            have HC8 := Shut.mk (lv_conns hV8 (by omega))
            clear hV8 HA1 HR1
            go_wp2_with fail
            refine HC8.out.mono ?_
            rintro e w9 ⟨v9, rfl, ho9, hb9, hV9⟩
            have HC9 := Shut.mk (lv_rconns hV9 (by rw [HLX.out]; (try rw [upd_len]); omega))
            have HO9 := Shut.mk ho9
            clear hV9 hb9 ho9 HC8
            go_wp2_with fail
            refine HC9.out.mono ?_
            rintro e w10 ⟨v10, rfl, ho10, hb10, hV10⟩
            have HEQ := Shut.mk (equal_ints v9 v10 (LX.map (·.1)) w10 (HO9.out.below hb10 (fun g hg => HO9.out.block_lt hg)) ho10)
            have HV10 := Shut.mk hV10
            clear hV10 hb10 ho10 HC9
            go_wp2_with fail
            refine HEQ.out.mono ?_
            rintro e w11 ⟨rfl, hb11⟩
            have HV11 := Shut.mk ((HV10.out.quiet hb11).less (kk' := []) (by simp))
            clear hb11 HEQ
            go_wp2_with fail
            go_roundw
            case rel => exact ⟨k + 1, n, last, LX, by omega, by omega, by omega, by omega, by rw [HLX.out]; (try rw [upd_len]); omega, by rw [HLX.out]; (intro c hc; rcases upd_mem hc with rfl | ⟨hc, _⟩; exact Nat.zero_le _; exact Nat.le_trans (HBY.out c hc) (by omega)), by go_num, HV11.out⟩
            case measure => simp [intOf]; omega
        · cases hlk : lookC L nn with
          | none =>
            have HVD := Shut.mk (show LV w WB.drew gn gx n last L last L [(gk, .cells #[.int .i64 op, .int .i64 nn, .slice B m c] 43)] from HVB.out.quiet ⟨rfl, rfl, rfl, Nat.le_refl _, fun _ _ => rfl⟩)
            have HWP := Shut.mk (lv_drop_none HVD.out nn hn1 hn2 hlk)
            have HWR := Shut.mk (lv_rdrop_none HVD.out (by omega) nn hlk)
            clear hlk
            go_wp2_with fail
            go_region_held3 (fun w' => w'.cell? ⟨gk, 1, none⟩ = some (.int .i64 nn))
              (first | exact d1 | exact e1 | go_keep)
              (first
                | (go_at_call 13
                   refine HWP.out.mono ?_
                   rintro e w' ⟨rfl, rfl⟩)
                | (go_at_call 19
                   refine HWR.out.mono ?_
                   rintro e w3 ⟨rfl, hVT⟩
                   have e1 : w3.cell? ⟨gk, 1, none⟩ = some (.int .i64 nn) := cell_of_row w3 gk 1 _ _ _ (hVT.blk _ (List.mem_cons_self ..))
                   have HVT := Shut.mk hVT
                   clear hVT))
            clear HWR HWP HVD d1 d2 e1
            have z1 : w3.cell? ⟨gk, 1, none⟩ = some (.int .i64 nn) := cell_of_row w3 gk 1 _ _ _ (HVT.out.blk _ (List.mem_cons_self ..))
            have HA1 := Shut.mk (lv_addr HVT.out nn hn1 hn2)
            have HR1 := Shut.mk (lv_raddr HVT.out (by omega) nn)
            have HI := Shut.mk HVT.out.ids
            obtain ⟨LX, hLX⟩ : ∃ LX, LX = L := ⟨_, rfl⟩
            rw [← hLX] at HA1 HR1 HVT HI
            obtain ⟨za, hza⟩ : ∃ z, z = (lookC LX nn).elim 0 (·.2.1) := ⟨_, rfl⟩
            obtain ⟨zb, hzb⟩ : ∃ z, z = (lookC LX nn).isSome := ⟨_, rfl⟩
            rw [← hza, ← hzb] at HA1 HR1
            have HLX := Shut.mk hLX
            clear hza hzb hLX
            go_wp2_with fail
            refine HA1.out.mono ?_
            rintro e w' ⟨rfl, rfl⟩
            go_wp2_with fail
            refine HR1.out.mono ?_
            rintro e w8 ⟨rfl, hV8⟩
            have HC8 := Shut.mk (lv_conns hV8 (by omega))
            clear hV8 HA1 HR1
            go_wp2_with fail
            refine HC8.out.mono ?_
            rintro e w9 ⟨v9, rfl, ho9, hb9, hV9⟩
            have HC9 := Shut.mk (lv_rconns hV9 (by rw [HLX.out]; omega))
            have HO9 := Shut.mk ho9
            clear hV9 hb9 ho9 HC8
            go_wp2_with fail
            refine HC9.out.mono ?_
            rintro e w10 ⟨v10, rfl, ho10, hb10, hV10⟩
            have HEQ := Shut.mk (equal_ints v9 v10 (LX.map (·.1)) w10 (HO9.out.below hb10 (fun g hg => HO9.out.block_lt hg)) ho10)
            have HV10 := Shut.mk hV10
            clear hV10 hb10 ho10 HC9
            go_wp2_with fail
            refine HEQ.out.mono ?_
            rintro e w11 ⟨rfl, hb11⟩
            have HV11 := Shut.mk ((HV10.out.quiet hb11).less (kk' := []) (by simp))
            clear hb11 HEQ
            go_wp2_with fail
            go_roundw
            case rel => exact ⟨k + 1, n, last, LX, by omega, by omega, by omega, by omega, by rw [HLX.out]; omega, by rw [HLX.out]; exact fun c hc => Nat.le_trans (HBY.out c hc) (by omega), by go_num, HV11.out⟩
            case measure => simp [intOf]; omega
          | some cc =>
            obtain ⟨ad2, l2, hl2⟩ : ∃ ad2 l2, lookC L nn = some (nn, ad2, l2) := ⟨cc.2.1, cc.2.2, by rw [hlk]; obtain ⟨_, e⟩ := lookC_some hlk; rw [← e]⟩
            have HVD := Shut.mk (show LV w WB.drew gn gx n last L last L [(gk, .cells #[.int .i64 op, .int .i64 nn, .slice B m c] 43)] from HVB.out.quiet ⟨rfl, rfl, rfl, Nat.le_refl _, fun _ _ => rfl⟩)
            have HWP := Shut.mk (lv_drop HVD.out nn hn1 hn2 hl2)
            have HHL := Shut.mk hl2
            clear hl2 hlk
            go_wp2_with fail
            go_region_held3 (fun w' => w'.cell? ⟨gk, 1, none⟩ = some (.int .i64 nn))
              (first | exact d1 | exact e1 | exact g1 | go_keep)
              (first
                | (go_at_call 13
                   refine HWP.out.mono ?_
                   rintro e w2 ⟨rfl, hV2⟩
                   have e1 : w2.cell? ⟨gk, 1, none⟩ = some (.int .i64 nn) := cell_of_row w2 gk 1 _ _ _ (hV2.blk _ (List.mem_cons_self ..))
                   have HWR := Shut.mk (lv_rdrop hV2 HID.out (by omega) nn HHL.out)
                   clear hV2)
                | (go_at_call 19
                   refine HWR.out.mono ?_
                   rintro e w3 ⟨rfl, hVT⟩
                   have g1 : w3.cell? ⟨gk, 1, none⟩ = some (.int .i64 nn) := cell_of_row w3 gk 1 _ _ _ (hVT.blk _ (List.mem_cons_self ..))
                   have HVT := Shut.mk hVT
                   clear hVT))
            clear HWR HWP HVD d1 d2 e1 g1
            have z1 : w3.cell? ⟨gk, 1, none⟩ = some (.int .i64 nn) := cell_of_row w3 gk 1 _ _ _ (HVT.out.blk _ (List.mem_cons_self ..))
            have HA1 := Shut.mk (lv_addr HVT.out nn hn1 hn2)
            have HR1 := Shut.mk (lv_raddr HVT.out (by (have := dr_len (L := L) (a := nn)); omega) nn)
            have HI := Shut.mk HVT.out.ids
            obtain ⟨LX, hLX⟩ : ∃ LX, LX = dr L nn := ⟨_, rfl⟩
            rw [← hLX] at HA1 HR1 HVT HI
            obtain ⟨za, hza⟩ : ∃ z, z = (lookC LX nn).elim 0 (·.2.1) := ⟨_, rfl⟩
            obtain ⟨zb, hzb⟩ : ∃ z, z = (lookC LX nn).isSome := ⟨_, rfl⟩
            rw [← hza, ← hzb] at HA1 HR1
            have HLX := Shut.mk hLX
            clear hza hzb hLX
            go_wp2_with fail
            refine HA1.out.mono ?_
            rintro e w' ⟨rfl, rfl⟩
            go_wp2_with fail
            refine HR1.out.mono ?_
            rintro e w8 ⟨rfl, hV8⟩
            have HC8 := Shut.mk (lv_conns hV8 (by omega))
            clear hV8 HA1 HR1
            go_wp2_with fail
            refine HC8.out.mono ?_
            rintro e w9 ⟨v9, rfl, ho9, hb9, hV9⟩
            have HC9 := Shut.mk (lv_rconns hV9 (by rw [HLX.out]; (have := dr_len (L := L) (a := nn)); omega))
            have HO9 := Shut.mk ho9
            clear hV9 hb9 ho9 HC8
            go_wp2_with fail
            refine HC9.out.mono ?_
            rintro e w10 ⟨v10, rfl, ho10, hb10, hV10⟩
            have HEQ := Shut.mk (equal_ints v9 v10 (LX.map (·.1)) w10 (HO9.out.below hb10 (fun g hg => HO9.out.block_lt hg)) ho10)
            have HV10 := Shut.mk hV10
            clear hV10 hb10 ho10 HC9
            go_wp2_with fail
            refine HEQ.out.mono ?_
            rintro e w11 ⟨rfl, hb11⟩
            have HV11 := Shut.mk ((HV10.out.quiet hb11).less (kk' := []) (by simp))
            clear hb11 HEQ
            go_wp2_with fail
            go_roundw
            case rel => exact ⟨k + 1, n, last, LX, by omega, by omega, by omega, by omega, by rw [HLX.out]; (have := dr_len (L := L) (a := nn)); omega, by rw [HLX.out]; exact fun c hc => Nat.le_trans (HBY.out c (dr_mem hc).1) (by omega), by go_num, HV11.out⟩
            case measure => simp [intOf]; omega
      · have h60I : (k : Int) > 60 := by omega
        have HDP := Shut.mk (lv_dial (HV.out.quiet ((Below.refl _ wr).alloc (Nat.le_refl _) (.cells #[.int .i64 op, .int .i64 nn, .slice B m c] 43))) 5 (by omega) (by omega) (by omega) (by omega))
        go_wp2_with fail
        refine HDP.out.mono ?_
        rintro e w2 ⟨rfl, hV2⟩
        have HDR := Shut.mk (lv_rdial hV2 5 (by omega) (by omega) (by omega) (by omega))
        clear hV2 HDP
        go_wp2_with fail
        refine HDR.out.mono ?_
        rintro e w3 ⟨rfl, hV3⟩
        go_wp2_with fail
        go_ret
        exact ⟨rfl, hV3.below⟩
    · have hkI : ¬ (k : Int) < (NL : Int) := by omega
      have HDP := Shut.mk (lv_dial HV.out 5 (by omega) (by omega) (by omega) (by omega))
      go_wp2_with fail
      refine HDP.out.mono ?_
      rintro e w2 ⟨rfl, hV2⟩
      have HDR := Shut.mk (lv_rdial hV2 5 (by omega) (by omega) (by omega) (by omega))
      clear hV2 HDP
      go_wp2_with fail
      refine HDR.out.mono ?_
      rintro e w3 ⟨rfl, hV3⟩
      go_wp2_with fail
      go_ret
      exact ⟨rfl, hV3.below⟩
end Go.Proofs.Ytdnbdmffaoimgaa
