/- Walk: the law NetCarries answers true (under way). -/
import Derived.Test.YtdnbdmffaoimgaaNet3
import Derived.Test.YtdnbdmffaoimgaaEqual
namespace Go.Proofs.Ytdnbdmffaoimgaa
open Go.RowKit Go.Maps
set_option linter.unusedSimpArgs false
set_option linter.unusedVariables false
set_option maxRecDepth 100000

/-- the address holds the slices of bytes ls -/
def RdL (w : World) (Al : Option Addr) (ls : List (List UInt8)) : Prop :=
  ∀ k, k < ls.length → ∃ ad A c, Al = some ad ∧ w.cell? (ad.add k) = some (.slice A (ls.getD k []).length c) ∧ RdB w A (ls.getD k [])
theorem u64_nat (a : Int) : ∃ n : Nat, IntKind.u64.wrap a = (n : Int) ∧ (n : Int) < 18446744073709551616 := by
  rw [IntKind.wrap_u64]
  exact ⟨(a % 18446744073709551616).toNat, by omega, by omega⟩
theorem tmod_nat (a b : Nat) (h : 0 < b) : ∃ m : Nat, m < b ∧ (a : Int).tmod (b : Int) = (m : Int) :=
  ⟨a % b, Nat.mod_lt _ h, by rw [Int.tmod_eq_emod_of_nonneg (by omega)]; simp⟩

theorem flat_take_le (ls : List (List UInt8)) (k : Nat) : (ls.take k).flatten.length ≤ ls.flatten.length := by
  have h : ls.flatten = (ls.take k).flatten ++ (ls.drop k).flatten := by rw [← List.flatten_append, List.take_append_drop]
  rw [h, List.length_append]
  omega
/-- append at an operation with a guard -/
theorem wpList_append_g {P : Program} (w : World) {ops : Array Oper} {rest : List Oper} {o : Oper} {a : Act} {Q : Exit → Act → World → Prop} (hgd : Region.wanted o (yielded ops a.tmps) = true) (s x : Operand) (t : TypeId)
    (ho : o.op = .call { callee := .builtin .append, args := #[s, x], argTypes := #[t, t] })
    (e : TypeId) (i : TypeInfo) (z : Value) (size bytes : Nat) (ht : P.underlying t = some (.slice e)) (hi : P.info? e = some i) (hz : i.zero = some z)
    (hsize : i.size = size) (hby : i.bytes = bytes) (hzs : z.cells.size = size) (hsz : 0 < size)
    (v : Value) (n : Nat) (xs : List Value) (hs : a.eval s = v) (hown : Own w e size v n xs)
    (A : Option Addr) (m c : Nat) (news : List Value) (hx : a.eval x = .slice A m c) (hl : news.length = m * size) (hr : Rd w A news) (h1 : ∀ u ∈ news, u.oneCell' = true)
    (h63 : n + m ≤ maxLen) (hbytes : (n + m) * bytes ≤ 140737488355328)
    (h : ∀ v' w', Appended w w' e size v v' n m xs news → wpList P ops Q rest (a.put o.dst v') w') : wpList P ops Q (o :: rest) a w :=
  wpList_step fun _ hK => by
    rw [if_pos hgd]
    exact wp_append w s x t ho e i z size bytes ht hi hz hsize hby hzs hsz v n xs hs hown A m c news hx hl hr h1 h63 hbytes fun v' w' hp => hK _ _ (h v' w' hp)
/-- three rows of the call's own, apart -/
structure Sep (B : Nat) (a b c : Value) : Prop where
  fa : ∀ g, a.ownBlock = some g → B ≤ g
  fb : ∀ g, b.ownBlock = some g → B ≤ g
  fc : ∀ g, c.ownBlock = some g → B ≤ g
  ab : ∀ g, a.ownBlock = some g → b.ownBlock ≠ some g
  ac : ∀ g, a.ownBlock = some g → c.ownBlock ≠ some g
  bc : ∀ g, b.ownBlock = some g → c.ownBlock ≠ some g
/-- what holds at the head of a round -/
structure Round (w wr : World) (gn gm gc ad : Nat) (ls : List (List UInt8)) (k : Nat) (want got : Value) : Prop where
  go : ∃ v pend gotl, NetAt wr gn gm 1 1 (turned (fun _ => none) (kint 1) (some gc)) ∧ Blk wr gc 57 #[.int .i64 (ad : Int), v] ∧ Own wr 5 1 v pend.length (bys pend) ∧
    Own wr 5 1 want (ls.take k).flatten.length (bys (ls.take k).flatten) ∧ Own wr 5 1 got gotl.length (bys gotl) ∧ gotl ++ pend = (ls.take k).flatten ∧ Sep w.heap.size v want got
  below : Below w.heap.size w wr
set_option maxHeartbeats 1000000 in
theorem netCarries_run (a0 : Int) (Al : Option Addr) (ls : List (List UInt8)) (cl : Nat) (tk : Int) (w : World) (h0 : -9223372036854775808 ≤ a0) (h0' : a0 ≤ 9223372036854775807) (hl : RdL w Al ls) (hcl : ls.length ≤ cl) (hcm : cl ≤ maxLen)
    (hsum : ls.flatten.length ≤ 1048576) (hlen : ls.length ≤ 1048576) (t0 : 0 ≤ tk) (t1 : tk ≤ 18446744073709551615) :
    Calls Try.prog 3 #[.int .i64 a0, .slice Al ls.length cl, .int .u64 tk] w fun e w' => e = .returned (.bool true) ∧ Below w.heap.size w w' := by
  obtain ⟨i0, hi, hz0, hz1, hz2⟩ := info_parts info_u8
  have HL := Shut.mk hl
  clear hl
  obtain ⟨N0, hN0, hB0⟩ := u64_nat a0
  obtain ⟨ad, had, hT0⟩ := tmod_nat N0 4294967296 (by omega)
  have hT0' : ((N0 : Int).tmod 4294967296) = (ad : Int) := hT0
  clear hT0
  go_enter Try.func3, Try.ntmps3
  go_wp2_with fail
  refine (new_calls _).mono ?_
  rintro e w1 ⟨gn, gm, rfl, hN1, hb1, hgn, hgm⟩
  go_wp2_with fail
  refine (dial_calls gn gm 0 0 _ (ad : Int) w1 hN1 (by omega) (by omega) (by omega) (by omega)).mono ?_
  rintro e w2 ⟨gc, rfl, hgc, hN2, hc2, hk2⟩
  have hb2 : Below w.heap.size w w2 := hk2.below hb1 (fun b hb => by simp at hb; rcases hb with rfl | rfl <;> assumption) hb1.size
  go_wp2_with fail
  have hN2' : NetAt w2 gn gm 1 1 (turned (fun _ => none) (kint 1) (some gc)) := hN2
  have hR0 : Round w w2 gn gm gc ad ls 0 (.slice none 0 0) (.slice none 0 0) := ⟨⟨.slice none 0 0, [], [], hN2', hc2, Own.nil _ _ _, (Own.nil _ _ _).cast (by simp) (by simp [bys]), Own.nil _ _ _, by simp, ⟨fun g hg => (by simp [Value.ownBlock] at hg), fun g hg => (by simp [Value.ownBlock] at hg), fun g hg => (by simp [Value.ownBlock] at hg), fun g hg => (by simp [Value.ownBlock] at hg), fun g hg => (by simp [Value.ownBlock] at hg), fun g hg => (by simp [Value.ownBlock] at hg)⟩⟩, hb2⟩
  have hgmw : w.heap.size ≤ gm := hgm
  have hgcw : w.heap.size ≤ gc := Nat.le_trans hb1.size hgc
  obtain ⟨NL, hNL⟩ : ∃ NL, NL = ls.length := ⟨_, rfl⟩
  rw [← hNL]
  have HNL := Shut.mk hNL
  have HSUM := Shut.mk hsum
  rw [← hNL] at hlen hcl
  clear hNL hsum
  clear hN1 hN2 hc2 hk2 hb2 hb1 hN2'
  go_loopw [10, 11, 40] (fun want got i wr => ∃ k : Nat, k ≤ NL ∧ i = .int .i64 k ∧ Round w wr gn gm gc ad ls k want got) (fun _ _ i _ => NL - (intOf i).toNat)
  case atStart => exact ⟨0, Nat.zero_le _, rfl, hR0⟩
  case round =>
    clear hR0
    obtain ⟨k, hk, rfl, ⟨v, pend, gotl, hN, hc, ho, how, hog, heq, hsep⟩, hbr⟩ := hrel
    have HEQ := Shut.mk heq
    have HSEP := Shut.mk hsep
    have HOW := Shut.mk how
    have HOG := Shut.mk hog
    have HO := Shut.mk ho
    have HN := Shut.mk hN
    have HC := Shut.mk hc
    clear heq hsep how hog ho hN hc
    obtain ⟨Aw, cw, hvw, _⟩ := HOW.out.form
    subst hvw
    obtain ⟨Ag, cg, hvg, _⟩ := HOG.out.form
    subst hvg
    by_cases hlt : k < NL
    · obtain ⟨al, A, c, rfl, hcell, hrb⟩ := HL.out k (by rw [← HNL.out]; exact hlt)
      have hcell' := (hbr.cell (World.block_lt_of_cell? w _ hcell)).trans hcell
      have HRB := Shut.mk (hrb.keep hbr)
      have HRB0 := Shut.mk hrb
      have HTK := Shut.mk (show (ls.take (k + 1)).flatten = (ls.take k).flatten ++ ls.getD k [] by
        rw [take_snoc ls k (by rw [← HNL.out]; exact hlt) [], List.flatten_append]
        simp)
      clear hrb hcell
      generalize ls.getD k [] = bb at hcell' HRB HRB0 HTK
      obtain ⟨NB, hNB⟩ : ∃ NB, NB = bb.length := ⟨_, rfl⟩
      rw [← hNB] at hcell'
      have HNB := Shut.mk hNB
      clear hNB
      have hb1 : (ls.take (k + 1)).flatten.length ≤ 1048576 := Nat.le_trans (flat_take_le ls (k + 1)) HSUM.out
      have hb2 : pend.length ≤ (ls.take k).flatten.length := by rw [← HEQ.out, List.length_append]; omega
      rw [HTK.out, List.length_append, ← HNB.out] at hb1
      have HW := Shut.mk (write_calls gn gm 1 1 gc _ 1 (ad : Int) A NB c bb pend v wr HN.out (by omega) (by omega) (turned_same _ _ _) HC.out HO.out HRB.out HNB.out.symm (by unfold reach; omega))
      go_wp2_with fail
      refine HW.out.mono ?_
      rintro e w3 ⟨v3, rfl, hN3, hc3, ho3, hk3, hl3⟩
      clear HW
      have hcne := conn_own_ne HC.out HOW.out
      have hcng := conn_own_ne HC.out HOG.out
      have how3 := hk3.own HOW.out (fun g hg => by
        simp only [List.mem_cons, Option.mem_toList, not_or]
        exact ⟨hcne g hg, fun e => HSEP.out.ab g e hg⟩)
      have hog3 := hk3.own HOG.out (fun g hg => by
        simp only [List.mem_cons, Option.mem_toList, not_or]
        exact ⟨hcng g hg, fun e => HSEP.out.ac g e hg⟩)
      have hbr3 : Below w.heap.size w w3 := hk3.below hbr (fun b hb => by
        simp only [List.mem_cons, Option.mem_toList] at hb
        rcases hb with rfl | hb
        · exact hgcw
        · exact HSEP.out.fa b hb) hbr.size
      have hnews := rd_of_rdB (HRB0.out.keep hbr3)
      have hbl : (bys bb).length = NB * 1 := by rw [bys_length, ← HNB.out]; omega
      obtain ⟨NW, hNW⟩ : ∃ NW, NW = (ls.take k).flatten.length := ⟨_, rfl⟩
      rw [← hNW] at how3 hb1 hb2 ⊢
      have hsep5 := HSEP.out
      have how5 := HOW.out
      rw [← hNW] at hsep5 how5
      clear HSEP HOW
      have HSEP := Shut.mk hsep5
      have HOW := Shut.mk how5
      clear hsep5 how5
      have HNW := Shut.mk hNW
      have HL3 := Shut.mk hl3
      have HOW3 := Shut.mk how3
      have HOG3 := Shut.mk hog3
      have HBL := Shut.mk hbl
      have HNEWS := Shut.mk hnews
      have HK3 := Shut.mk hk3
      have HO3 := Shut.mk ho3
      have HN3 := Shut.mk hN3
      have HC3 := Shut.mk hc3
      have HLT := Shut.mk hlt
      obtain ⟨m32, hm32⟩ : ∃ m : Nat, m = k % 32 := ⟨_, rfl⟩
      have e32 : (k : Int) % 32 = (m32 : Int) := by omega
      have e32' : (k : Int).tmod 32 = (m32 : Int) := by rw [Int.tmod_eq_emod_of_nonneg (by omega)]; exact e32
      have hm33 : m32 < 32 := by omega
      have hmaxw : NW + NB ≤ 1048576 := by omega
      clear hm32 hb1 hb2
      clear hNW hl3 hcne hcng how3 hog3 hbl hnews hk3 ho3 hN3 hc3
      have hsw : w.heap.size ≤ wr.heap.size := hbr.size
      have HSW := Shut.mk hsw
      clear hsw
      have HBR3 := Shut.mk hbr3
      clear hcell' hbr hbr3 hN0 hB0 hT0' e32' hgn hgm hgc
      go_wp2_with (
        at_builtin
        refine wpList_append _ rfl _ _ _ rfl 5 i0 _ 1 1 Try.underlying29 hi hz0 hz1 hz2 rfl (by decide) _ _ _ rfl HOW3.out _ NB c _ rfl HBL.out HNEWS.out (bys_one bb) (by simp only [maxLen]; omega) (by omega) ?_
        intro v4 w4 hap
        obtain ⟨A4, c4, hv4, _⟩ := hap.own.form
        subst hv4)
      all_goals
        have hgrw : w3.grownBy w4 (Value.slice Aw NW cw).ownBlock := hap.grown
        have hlies : (Value.slice A4 (NW + NB) c4).ownBlock = (Value.slice Aw NW cw).ownBlock ∨ (Value.slice A4 (NW + NB) c4).ownBlock = some w3.heap.size := hap.lies
        have how4 : Own w4 5 1 (.slice A4 (NW + NB) c4) (NW + NB) (bys (ls.take (k + 1)).flatten) := hap.own.cast rfl (by rw [HTK.out, bys_append])
      all_goals
        have hk4 : Kb w3 w4 (Value.slice Aw NW cw).ownBlock.toList := Kb.of_grown hgrw (fun r hr => by rw [hr]; simp)
        have hv3w : ∀ g, v3.ownBlock = some g → (Value.slice Aw NW cw).ownBlock ≠ some g := by
          intro g hg e
          rcases HL3.out g hg with h | h
          · exact HSEP.out.ab g h e
          · have := HOW.out.block_lt (g := g) e
            omega
        have ho4 := hk4.own HO3.out (fun g hg hm => hv3w g hg (by simpa using hm))
        have hog4 := hk4.own HOG3.out (fun g hg hm => HSEP.out.bc g (by simpa using hm) hg)
        have hc4 := hk4.blk HC3.out (fun hm => conn_own_ne HC3.out HOW3.out gc (by simpa using hm) rfl)
        have hN4 := HN3.out.kept hk4 (fun hm => (net_own_ne HN3.out HOW3.out gn (by simpa using hm)).1 rfl) (fun hm => (net_own_ne HN3.out HOW3.out gm (by simpa using hm)).2 rfl)
        have hbr4 : Below w.heap.size w w4 := hk4.below HBR3.out (fun b hb => HSEP.out.fb b (by simpa using hb)) HBR3.out.size
        have hsw := HSW.out
        have hs3 := HBR3.out.size
        have hsep4 : Sep w.heap.size v3 (.slice A4 (NW + NB) c4) (.slice Ag gotl.length cg) := by
          refine ⟨fun g hg => ?_, fun g hg => ?_, HSEP.out.fc, fun g hg e => ?_, fun g hg e => ?_, fun g hg e => ?_⟩
          · rcases HL3.out g hg with h | h
            · exact HSEP.out.fa g h
            · omega
          · rcases hlies with h | h
            · exact HSEP.out.fb g (h ▸ hg)
            · rw [h] at hg; cases hg; exact hs3
          · rcases hlies with h | h
            · exact hv3w g hg (h ▸ e)
            · rw [h] at e
              cases e
              exact Nat.lt_irrefl _ (HO3.out.block_lt hg)
          · rcases HL3.out g hg with h | h
            · exact HSEP.out.ac g h e
            · have := HOG.out.block_lt (g := g) e
              omega
          · rcases hlies with h | h
            · exact HSEP.out.bc g (h ▸ hg) e
            · rw [h] at hg
              cases hg
              exact Nat.lt_irrefl _ (HOG3.out.block_lt e)
        have heq4 : gotl ++ (pend ++ bb) = (ls.take (k + 1)).flatten := by rw [HTK.out, ← HEQ.out, List.append_assoc]
      case roundEnd =>
        have hlt' := HLT.out
        refine ⟨⟨k + 1, by omega, by go_num, ⟨⟨v3, pend ++ bb, gotl, hN4, hc4, ho4, how4.cast (by rw [HTK.out, List.length_append, ← HNW.out, ← HNB.out]) rfl, hog4, heq4, hsep4⟩, hbr4⟩⟩, by simp [intOf]; omega⟩
      have hgl : gotl.length + (pend ++ bb).length ≤ 1048576 := by
        have h := congrArg List.length heq4
        rw [List.length_append] at h
        rw [h]
        exact Nat.le_trans (flat_take_le ls (k + 1)) HSUM.out
      refine (take_calls gn gm 1 1 gc _ 1 (ad : Int) (pend ++ bb) v3 w4 hN4 (by omega) (by omega) (turned_same _ _ _) hc4 ho4 (by unfold reach; omega)).mono ?_
      rintro e w5 ⟨v5, rfl, hN5, hc5, ho5, hk5, hn5⟩
      have HOG5 := Shut.mk (hk5.own hog4 (fun g hg hm => conn_own_ne hc4 hog4 g hg (by simpa using hm)))
      have HOW5 := Shut.mk (hk5.own how4 (fun g hg hm => conn_own_ne hc4 how4 g hg (by simpa using hm)))
      have HBR5 := Shut.mk (hk5.below hbr4 (fun b hb => by simp at hb; subst hb; exact hgcw) hbr4.size)
      obtain ⟨A5, c5, hv5, hr5, _⟩ := ho5.form
      subst hv5
      have HL5 := Shut.mk (show (bys (pend ++ bb)).length = (pend ++ bb).length * 1 by rw [bys_length]; omega)
      have HR5 := Shut.mk hr5
      have HO5 := Shut.mk ho5
      have HN5 := Shut.mk hN5
      have HC5 := Shut.mk hc5
      have HK5 := Shut.mk hk5
      have HNN5 := Shut.mk hn5
      have HSEP4 := Shut.mk hsep4
      have HEQ4 := Shut.mk heq4
      have HS4 := Shut.mk hbr4.size
      obtain ⟨NP, hNP⟩ : ∃ NP, NP = (pend ++ bb).length := ⟨_, rfl⟩
      obtain ⟨NG, hNG⟩ : ∃ NG, NG = gotl.length := ⟨_, rfl⟩
      have hog5 := HOG5.out
      rw [← hNG] at hog5
      rw [← hNP, ← hNG] at hgl
      rw [← hNP, ← hNG]
      have HOGN := Shut.mk hog5
      have HL5' := Shut.mk (show (bys (pend ++ bb)).length = NP * 1 by rw [HL5.out, hNP])
      have HNP := Shut.mk hNP
      have HNG := Shut.mk hNG
      clear hog5 hNP hNG hr5 ho5 hN5 hc5 hk5 hn5 hsep4 heq4 hbr4 hk4 hv3w ho4 hog4 hc4 hN4 hgrw hlies how4 hap hsw hs3
      go_wp2_with (
        at_builtin
        refine wpList_append _ rfl _ _ _ rfl 5 i0 _ 1 1 Try.underlying29 hi hz0 hz1 hz2 rfl (by decide) _ _ _ rfl HOGN.out _ NP c5 _ rfl HL5'.out HR5.out (bys_one _) (by simp only [maxLen]; omega) (by omega) ?_
        intro v6 w6 hap6
        obtain ⟨A6, c6, hv6, _⟩ := hap6.own.form
        subst hv6)
      have hgr6 : w5.grownBy w6 (Value.slice Ag NG cg).ownBlock := hap6.grown
      have hlies6 : (Value.slice A6 (NG + NP) c6).ownBlock = (Value.slice Ag NG cg).ownBlock ∨ (Value.slice A6 (NG + NP) c6).ownBlock = some w5.heap.size := hap6.lies
      have hk6 : Kb w5 w6 (Value.slice Ag NG cg).ownBlock.toList := Kb.of_grown hgr6 (fun r hr => by rw [hr]; simp)
      have hsep6 := HSEP4.out
      rw [← HNG.out] at hsep6
      have hN6 := HN5.out.kept hk6 (fun hm => (net_own_ne HN5.out HOGN.out gn (by simpa using hm)).1 rfl) (fun hm => (net_own_ne HN5.out HOGN.out gm (by simpa using hm)).2 rfl)
      have hc6 := hk6.blk HC5.out (fun hm => conn_own_ne HC5.out HOGN.out gc (by simpa using hm) rfl)
      have how6 := hk6.own HOW5.out (fun g hg hm => hsep6.bc g hg (by simpa using hm))
      have hs5 := HBR5.out.size
      have hbr6 : Below w.heap.size w w6 := hk6.below HBR5.out (fun b hb => hsep6.fc b (by simpa using hb)) hs5
      have hog6 : Own w6 5 1 (.slice A6 (NG + NP) c6) (gotl ++ (pend ++ bb)).length (bys (gotl ++ (pend ++ bb))) := hap6.own.cast (by have h1 := HNG.out; have h2 := HNP.out; rw [List.length_append] at h2; simp only [List.length_append]; omega) (bys_append gotl (pend ++ bb)).symm
      have hsep7 : Sep w.heap.size (.slice none 0 0) (.slice A4 (NW + NB) c4) (.slice A6 (NG + NP) c6) := by
        refine ⟨fun g hg => (by simp [Value.ownBlock] at hg), hsep6.fb, fun g hg => ?_, fun g hg => (by simp [Value.ownBlock] at hg), fun g hg => (by simp [Value.ownBlock] at hg), fun g hg e => ?_⟩
        · rcases hlies6 with h | h
          · exact hsep6.fc g (h ▸ hg)
          · rw [h] at hg; cases hg; exact hs5
        · rcases hlies6 with h | h
          · exact hsep6.bc g hg (h ▸ e)
          · rw [h] at e
            cases e
            exact Nat.lt_irrefl _ (HOW5.out.block_lt hg)
      have hlt' := HLT.out
      refine ⟨⟨k + 1, by omega, by go_num, ⟨⟨.slice none 0 0, [], gotl ++ (pend ++ bb), hN6, hc6, Own.nil _ _ _, how6.cast (by rw [HTK.out, List.length_append, ← HNW.out, ← HNB.out]) rfl, hog6, by rw [List.append_nil]; exact HEQ4.out, hsep7⟩, hbr6⟩⟩, by simp [intOf]; omega⟩
    · obtain rfl : k = NL := by omega
      have hfin : ls.take k = ls := List.take_of_length_le (by rw [HNL.out]; exact Nat.le_refl _)
      have heq := HEQ.out
      rw [hfin] at heq
      have hgl : gotl.length + pend.length ≤ 1048576 := by
        rw [← List.length_append, heq]
        exact HSUM.out
      clear hfin
      obtain ⟨NW, hNW⟩ : ∃ NW, NW = (ls.take k).flatten.length := ⟨_, rfl⟩
      have how5 := HOW.out
      have hsep5 := HSEP.out
      rw [← hNW] at how5 hsep5 ⊢
      clear HOW HSEP
      have HOW := Shut.mk how5
      have HSEP := Shut.mk hsep5
      have HNW := Shut.mk hNW
      clear how5 hsep5 hNW
      go_wp2_with fail
      refine (take_calls gn gm 1 1 gc _ 1 (ad : Int) pend v wr HN.out (by omega) (by omega) (turned_same _ _ _) HC.out HO.out (by unfold reach; omega)).mono ?_
      rintro e w3 ⟨v3, rfl, hN3, hc3, ho3, hk3, hn3⟩
      have HOW3 := Shut.mk (hk3.own HOW.out (fun g hg hm => conn_own_ne HC.out HOW.out g hg (by simpa using hm)))
      have HOG3 := Shut.mk (hk3.own HOG.out (fun g hg hm => conn_own_ne HC.out HOG.out g hg (by simpa using hm)))
      have HBR3 := Shut.mk (hk3.below hbr (fun b hb => by simp at hb; subst hb; exact hgcw) hbr.size)
      have HO3 := Shut.mk ho3
      have HN3 := Shut.mk hN3
      have HC3 := Shut.mk hc3
      have HEQF := Shut.mk heq
      have HNN3 := Shut.mk hn3
      have HGL := Shut.mk hgl
      have HSW := Shut.mk hbr.size
      obtain ⟨A3, c3, hv3, hr3, _⟩ := ho3.form
      subst hv3
      have HT := Shut.mk (take_calls gn gm 1 1 gc _ 1 (ad : Int) [] (.slice none 0 0) w3 hN3 (by omega) (by omega) (turned_same _ _ _) hc3 (Own.nil _ _ _) (by simp))
      clear heq hgl hk3 hn3 hN3 hc3 ho3 hr3 hbr hN0 hB0 hT0'
      go_wp2_with fail
      refine HT.out.mono ?_
      rintro e w4 ⟨v4, rfl, hN4, hc4, ho4, hk4, hn4⟩
      obtain ⟨A4, c4, hv4, _⟩ := ho4.form
      subst hv4
      have HOW4 := Shut.mk (hk4.own HOW3.out (fun g hg hm => conn_own_ne HC3.out HOW3.out g hg (by simpa using hm)))
      have HOG4 := Shut.mk (hk4.own HOG3.out (fun g hg hm => conn_own_ne HC3.out HOG3.out g hg (by simpa using hm)))
      have HO34 := Shut.mk (hk4.own HO3.out (fun g hg hm => conn_own_ne HC3.out HO3.out g hg (by simpa using hm)))
      have HBR4 := Shut.mk (hk4.below HBR3.out (fun b hb => by simp at hb; subst hb; exact hgcw) HBR3.out.size)
      have HA := Shut.mk (addr_calls gn gm 1 1 gc _ 1 (ad : Int) (.slice none 0 0) w4 hN4 (by omega) (by omega) (turned_same _ _ _) hc4)
      have HN4 := Shut.mk hN4
      have HC4 := Shut.mk hc4
      clear HT hN4 hc4 ho4 hk4 hn4
      go_wp2_with fail
      refine HA.out.mono ?_
      rintro e w' ⟨rfl, rfl⟩
      clear HA
      have hgl := HGL.out
      have HLP := Shut.mk (bys_length pend)
      obtain ⟨NP, hNP⟩ : ∃ NP, NP = pend.length := ⟨_, rfl⟩
      obtain ⟨NG, hNG⟩ : ∃ NG, NG = gotl.length := ⟨_, rfl⟩
      have ho34 := HO34.out
      have hog4 := HOG4.out
      rw [← hNG] at hog4
      rw [← hNP] at ho34
      rw [← hNP, ← hNG] at hgl
      have HP := Shut.mk (show (bys pend).length = NP * 1 by rw [HLP.out, hNP, Nat.mul_one])
      obtain ⟨A3', c3', hv3', hr3', _⟩ := ho34.form
      injection hv3' with e1 e2 e3
      subst e1
      have HR3 := Shut.mk hr3'
      have HOGN := Shut.mk hog4
      rw [← hNP, ← hNG]
      have HNP := Shut.mk hNP
      have HNG := Shut.mk hNG
      clear ho34 hog4 hr3' hNP hNG e2 e3
      go_wp2_with (
        at_builtin
        refine wpList_append_g _ (by rfl) (.tmp 101) (.tmp 102) _ rfl 5 i0 _ 1 1 Try.underlying29 hi hz0 hz1 hz2 rfl (by decide) _ _ _ rfl HOGN.out _ NP c3 _ rfl HP.out HR3.out (bys_one _) (by simp only [maxLen]; omega) (by omega) ?_
        intro v6 w6 hap6
        obtain ⟨A6, c6, hv6, _⟩ := hap6.own.form
        subst hv6)
      have hgr6 : w4.grownBy w6 (Value.slice Ag NG cg).ownBlock := hap6.grown
      have hk6 : Kb w4 w6 (Value.slice Ag NG cg).ownBlock.toList := Kb.of_grown hgr6 (fun r hr => by rw [hr]; simp)
      have hsep6 := HSEP.out
      rw [← HNG.out] at hsep6
      have how6 := hk6.own HOW4.out (fun g hg hm => hsep6.bc g hg (by simpa using hm))
      have hog6 : Own w6 5 1 (.slice A6 (NG + NP) c6) (NG + NP) (bys (gotl ++ pend)) := hap6.own.cast rfl (bys_append gotl pend).symm
      have hN6 := HN4.out.kept hk6 (fun hm => (net_own_ne HN4.out HOGN.out gn (by simpa using hm)).1 rfl) (fun hm => (net_own_ne HN4.out HOGN.out gm (by simpa using hm)).2 rfl)
      have hbr6 : Below w.heap.size w w6 := hk6.below HBR4.out (fun b hb => hsep6.fc b (by simpa using hb)) HBR4.out.size
      have hlen6 : (gotl ++ pend).length = NG + NP := by rw [List.length_append, ← HNG.out, ← HNP.out]
      have HE := Shut.mk (equal_calls A6 Aw (NG + NP) c6 NW cw (gotl ++ pend) (ls.take k).flatten w6 (own_rdB _ hog6) (own_rdB _ how6) hlen6 HNW.out.symm)
      have HEQ6 := Shut.mk HEQ.out
      have HN6 := Shut.mk hN6
      have HBR6 := Shut.mk hbr6
      clear how6 hog6 hN6 hbr6 hk6 hsep6 hgr6 hlen6
      go_wp2_with fail
      refine HE.out.mono ?_
      rintro e w' ⟨rfl, rfl⟩
      rw [HEQ6.out, beq_self_eq_true]
      clear HE
      go_wp2_with fail
      refine (drop_calls gn gm 1 1 gc _ 1 w6 HN6.out (by omega) (by omega) (turned_same _ _ _)).mono ?_
      rintro e w7 ⟨rfl, hN7, hk7⟩
      have hbr7 : Below w.heap.size w w7 := hk7.below HBR6.out (fun b hb => by simp at hb; subst hb; exact hgmw) HBR6.out.size
      go_wp2_with fail
      refine (write_none gn gm 1 1 _ 1 none 0 0 w7 hN7 (by omega) (by omega) (turned_same _ _ _)).mono ?_
      rintro e w' ⟨rfl, rfl⟩
      go_wp2_with fail
      go_ret
      exact ⟨rfl, hbr7⟩
end Go.Proofs.Ytdnbdmffaoimgaa
