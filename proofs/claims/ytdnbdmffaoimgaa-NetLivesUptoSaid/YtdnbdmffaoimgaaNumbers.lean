/- Walk: the law NetNumbers answers true. -/
import Derived.Test.YtdnbdmffaoimgaaConns
namespace Go.Proofs.Ytdnbdmffaoimgaa
open Go.RowKit Go.Maps
set_option linter.unusedSimpArgs false
set_option linter.unusedVariables false
set_option maxRecDepth 100000

theorem info_i64 : (Try.prog.info? 3).map (fun i => (i.zero, i.size, i.bytes)) = some (some (.int .i64 0), 1, 8) := by kernel_rfl
/-- the address holds the numbers -/
def RdI (w : World) (A : Option Addr) (l : List Int) : Prop := ∀ k, k < l.length → ∃ ad, A = some ad ∧ w.cell? (ad.add k) = some (.int .i64 (l.getD k 0))
theorem net_int_ne {w : World} {gn gm last n : Nat} {f : Lit → Option Nat} {v : Value} {m : Nat} {xs : List Value} (hN : NetAt w gn gm last n f) (ho : Own w 3 1 v m xs) : ∀ g, v.ownBlock = some g → g ≠ gn ∧ g ≠ gm := by
  intro g hg
  rcases ho.2 with ⟨rfl, _⟩ | ⟨g', cap, cur, rfl, hh, _⟩
  · simp [Value.ownBlock] at hg
  · simp [Value.ownBlock] at hg
    subst hg
    refine ⟨fun e => ?_, fun e => ?_⟩
    · have hb := hN.blk
      unfold Blk at hb
      rw [e, hb] at hh
      simp at hh
    · obtain ⟨D, ⟨es, clock, h2, _⟩, _⟩ := hN.map
      rw [e, h2] at hh
      cases hh
theorem kint_inj {a b : Int} (h : kint a = kint b) : a = b := by
  unfold kint at h
  injection h
set_option maxHeartbeats 2000000 in
theorem netNumbers_run (A : Option Addr) (l : List Int) (c : Nat) (tk : Int) (w : World) (hl : RdI w A l) (hc : l.length ≤ c) (hcm : c ≤ maxLen) (t0 : 0 ≤ tk) (t1 : tk ≤ 18446744073709551615) :
    Calls Try.prog 4 #[.slice A l.length c, .int .u64 tk] w fun e w' => e = .returned (.bool true) ∧ Below w.heap.size w w' := by
  obtain ⟨i0, hi, hz0, hz1, hz2⟩ := info_parts info_i64
  have HL := Shut.mk hl
  clear hl
  unfold maxLen at hcm
  obtain ⟨NL, hNL⟩ : ∃ NL, NL = l.length := ⟨_, rfl⟩
  rw [← hNL] at hc ⊢
  have HNL := Shut.mk hNL
  clear hNL
  go_enter Try.func4, Try.ntmps4
  go_wp2_with fail
  refine (new_calls _).mono ?_
  rintro e w1 ⟨gn, gm, rfl, hN1, hb1, hgn, hgm⟩
  have HN1 := Shut.mk hN1
  have HB1 := Shut.mk hb1
  clear hN1 hb1
  go_wp2_with fail
  go_loopw [6, 16] (fun v i wr => ∃ (k n : Nat) (f : Lit → Option Nat) (want : List Int), k ≤ NL ∧ k ≤ 31 ∧ n ≤ k ∧ i = .int .i64 (k : Nat) ∧ NetAt wr gn gm k n f ∧ (∀ a : Int, a ∈ want ↔ f (kint a) ≠ none) ∧ want.Pairwise (· < ·) ∧ (∀ a ∈ want, a ≤ (k : Int)) ∧ want.length ≤ k ∧
    Own wr 3 1 v want.length (want.map Go.encZ) ∧ (∀ g, v.ownBlock = some g → w.heap.size ≤ g) ∧ Below w.heap.size w wr) (fun _ i _ => NL - (intOf i).toNat)
  case atStart => exact ⟨0, 0, fun _ => none, [], Nat.zero_le _, by omega, Nat.le_refl _, rfl, HN1.out, by simp, .nil, by simp, by simp, Own.nil _ _ _, by simp [Value.ownBlock], HB1.out⟩
  case round =>
    obtain ⟨k, n, f, want, hk, hk31, hn, rfl, hN, hm, hp, hle, hwl, ho, hnew, hbr⟩ := hrel
    have HN := Shut.mk hN
    have HM := Shut.mk hm
    have HP := Shut.mk hp
    have HLE := Shut.mk hle
    have HO := Shut.mk ho
    have HNEW := Shut.mk hnew
    have HBR := Shut.mk hbr
    clear hN hm hp hle ho hnew hbr
    by_cases hlt : k < NL
    · by_cases h30 : k ≤ 30
      · obtain ⟨al, rfl, hcell⟩ := HL.out k (by rw [← HNL.out]; exact hlt)
        have hcell' := (HBR.out.cell (World.block_lt_of_cell? w _ hcell)).trans hcell
        clear hcell
        generalize l.getD k 0 = a0 at hcell'
        obtain ⟨N0, hN0, hB0⟩ := u64_nat a0
        obtain ⟨ad, had, hT0⟩ := tmod_nat N0 4294967296 (by omega)
        have hT0' : ((N0 : Int).tmod 4294967296) = (ad : Int) := hT0
        have hwi : IntKind.i64.wrap (ad : Int) = (ad : Int) := by rw [IntKind.wrap_i64]; omega
        have h301 : ¬ (k : Int) > 30 := by omega
        clear hT0
        have HD := Shut.mk (dial_calls gn gm k n f (ad : Int) wr HN.out (by omega) (by omega) (by omega) (by omega))
        go_wp2_with fail
        refine HD.out.mono ?_
        rintro e w2 ⟨gc, rfl, hgc, hN2, hc2, hk2⟩
        have HN2 := Shut.mk hN2
        have HK2 := Shut.mk hk2
        have ho2 := hk2.own HO.out (fun g hg => by simpa using net_int_ne HN.out HO.out g hg)
        have HO2 := Shut.mk ho2
        have hb2 : Below w.heap.size w w2 := hk2.below HBR.out (fun b hb => by simp at hb; rcases hb with rfl | rfl <;> assumption) HBR.out.size
        have HB2 := Shut.mk hb2
        obtain ⟨m32, hm32⟩ : ∃ m : Nat, m = k % 32 := ⟨_, rfl⟩
        have e32 : (k : Int) % 32 = (m32 : Int) := by omega
        have hm33 : m32 < 32 := by omega
        clear hN2 hk2 hb2 hc2 hT0' hN0 hB0 hwi hcell' hm32 HD
        have hoa := ho2.alloc (.cells #[.int .i64 ((k : Int) + 1)] 3)
        have hra := rd_new w2 #[.int .i64 ((k : Int) + 1)] 3
        clear ho2
        go_wp2_with (
          at_builtin
          refine wpList_append _ rfl _ _ _ rfl 3 i0 _ 1 8 Try.underlying38 hi hz0 hz1 hz2 rfl (by decide) _ _ _ rfl hoa _ 1 1 _ rfl rfl hra (by simp [Value.oneCell']) (by simp only [maxLen]; omega) (by omega) ?_
          intro v4 w4 hap)
        case roundEnd =>
          have hapg : (w2.alloc (.cells #[.int .i64 ((k : Int) + 1)] 3)).grownBy w4 u6.ownBlock := hap.grown
          have hapl : v4.ownBlock = u6.ownBlock ∨ v4.ownBlock = some (w2.alloc (.cells #[.int .i64 ((k : Int) + 1)] 3)).heap.size := hap.lies
          have hka : Kb w2 w4 u6.ownBlock.toList := ((Kb.refl w2 _).alloc _).trans (Kb.of_grown hapg (L := u6.ownBlock.toList) (fun r hr => by rw [hr]; simp)) (fun x hx => .inl hx)
          have hni := net_int_ne HN2.out HO2.out
          have hmem : ∀ a : Int, a ∈ want ++ [(k : Int) + 1] ↔ turned f (kint ((k : Int) + 1)) (some gc) (kint a) ≠ none := by
            intro a
            by_cases ha : a = (k : Int) + 1
            · subst ha
              rw [turned_same]
              simp
            · rw [turned_other f (some gc) (fun e => ha (kint_inj e)), ← HM.out a]
              simp [ha]
          have hpw : (want ++ [(k : Int) + 1]).Pairwise (· < ·) := by
            rw [List.pairwise_append]
            refine ⟨HP.out, List.pairwise_singleton _ _, fun a ha b hb => ?_⟩
            have := HLE.out a ha
            simp at hb
            omega
          refine ⟨⟨k + 1, n + 1, _, want ++ [(k : Int) + 1], by omega, by omega, by omega, by go_num, HN2.out.kept hka (fun hc => (hni gn (by simpa using hc)).1 rfl) (fun hc => (hni gm (by simpa using hc)).2 rfl), hmem, hpw, fun a ha => ?_, by simp; omega, hap.own.cast (by simp) (by simp), fun g hg => ?_, hka.below HB2.out (fun b hb => HNEW.out b (by simpa using hb)) HB2.out.size⟩, by simp [intOf]; omega⟩
          · rcases List.mem_append.1 ha with ha | ha
            · have := HLE.out a ha
              omega
            · simp at ha
              omega
          · rcases hapl with h | h
            · exact HNEW.out g (h ▸ hg)
            · rw [h] at hg
              have := HB2.out.size
              cases hg
              simp
              omega
        have HDR := Shut.mk (drop_calls gn gm (k + 1) (n + 1) gc _ ((k : Int) + 1) w2 HN2.out (by omega) (by omega) (turned_same _ _ _))
        refine HDR.out.mono ?_
        rintro e w3 ⟨rfl, hN3, hk3⟩
        have hni := net_int_ne HN2.out HO2.out
        have HN3 := Shut.mk hN3
        have HO3 := Shut.mk (hk3.own HO2.out (fun g hg => by simpa using (hni g hg).2))
        have HB3 := Shut.mk (hk3.below HB2.out (fun b hb => by simp at hb; subst hb; exact hgm) HB2.out.size)
        have HDN := Shut.mk (drop_none gn gm (k + 1) (n + 1) _ ((k : Int) + 1) w3 hN3 (by omega) (by omega) (turned_same _ _ _))
        clear hN3 hk3 hni HDR
        go_wp2_with fail
        refine HDN.out.mono ?_
        rintro e w' ⟨rfl, rfl⟩
        have hmem : ∀ a : Int, a ∈ want ↔ turned (turned f (kint ((k : Int) + 1)) (some gc)) (kint ((k : Int) + 1)) none (kint a) ≠ none := by
          intro a
          by_cases ha : a = (k : Int) + 1
          · subst ha
            rw [turned_same]
            have : ¬ ((k : Int) + 1) ∈ want := fun hc => by have := HLE.out _ hc; omega
            simp [this]
          · have hne : kint a ≠ kint ((k : Int) + 1) := fun e => ha (kint_inj e)
            rw [turned_other _ _ hne, turned_other _ _ hne, ← HM.out a]
        have HMEM := Shut.mk hmem
        clear hmem HDN
        go_wp2_with fail
        go_roundw
        case rel => exact ⟨k + 1, n + 1, _, want, by omega, by omega, by omega, by go_num, HN3.out, HMEM.out, HP.out, fun a ha => by have := HLE.out a ha; omega, by omega, HO3.out, HNEW.out, HB3.out⟩
        case measure => simp [intOf]; omega
      · have h301 : (k : Int) > 30 := by omega
        obtain ⟨al, rfl, hcell⟩ := HL.out k (by rw [← HNL.out]; exact hlt)
        have hcell' := (HBR.out.cell (World.block_lt_of_cell? w _ hcell)).trans hcell
        clear hcell
        have HDA := Shut.mk (dial_arg gn gm k n f wr HN.out)
        go_wp2_with fail
        refine HDA.out.mono ?_
        rintro e w' ⟨rfl, rfl⟩
        have HCN := Shut.mk (conns_calls gn gm k n f wr HN.out (by omega) HP.out HM.out)
        go_wp2_with fail
        refine HCN.out.mono ?_
        rintro e w5 ⟨v5, rfl, ho5, hb5, _⟩
        have HEQ := Shut.mk (equal_ints v5 u6 want w5 ho5 (HO.out.below hb5 (fun g hg => HO.out.block_lt hg)))
        have HB5 := Shut.mk (HBR.out.trans (hb5.mono HBR.out.size))
        clear ho5 hb5
        go_wp2_with fail
        refine HEQ.out.mono ?_
        rintro e w6 ⟨rfl, hb6⟩
        go_wp2_with fail
        go_ret
        exact ⟨rfl, HB5.out.trans (hb6.mono HB5.out.size)⟩
    · have hno : ¬ (k : Int) < (NL : Int) := by omega
      have HDA := Shut.mk (dial_arg gn gm k n f wr HN.out)
      go_wp2_with fail
      refine HDA.out.mono ?_
      rintro e w' ⟨rfl, rfl⟩
      have HCN := Shut.mk (conns_calls gn gm k n f wr HN.out (by omega) HP.out HM.out)
      go_wp2_with fail
      refine HCN.out.mono ?_
      rintro e w5 ⟨v5, rfl, ho5, hb5, _⟩
      have HEQ := Shut.mk (equal_ints v5 u6 want w5 ho5 (HO.out.below hb5 (fun g hg => HO.out.block_lt hg)))
      have HB5 := Shut.mk (HBR.out.trans (hb5.mono HBR.out.size))
      clear ho5 hb5
      go_wp2_with fail
      refine HEQ.out.mono ?_
      rintro e w6 ⟨rfl, hb6⟩
      go_wp2_with fail
      go_ret
      exact ⟨rfl, HB5.out.trans (hb6.mono HB5.out.size)⟩
end Go.Proofs.Ytdnbdmffaoimgaa
