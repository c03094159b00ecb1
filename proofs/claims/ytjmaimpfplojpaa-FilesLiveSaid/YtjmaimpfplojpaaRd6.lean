/- Walks: the document's disk: add. -/
import Derived.Test.YtjmaimpfplojpaaRd5
namespace Go.Proofs.Ytjmaimpfplojpaa
open Go.RowKit Go.Maps
set_option linter.unusedSimpArgs false
set_option linter.unusedVariables false
set_option maxRecDepth 100000

def gtK (a b : ByteArray) : Bool := !(Op.bytesLess a.toList b.toList || a.toList == b.toList)
def addStep (x : RF) (s : List RF × Bool) (f : RF) : List RF × Bool := if !s.2 && gtK f.k x.k then (s.1 ++ [x] ++ [f], true) else (s.1 ++ [f], s.2)
def addFold (x : RF) (R : List RF) : List RF × Bool := R.foldl (addStep x) ([], false)
def addD (x : RF) (R : List RF) : List RF := if (addFold x R).2 then (addFold x R).1 else (addFold x R).1 ++ [x]
theorem addFold_snoc (x : RF) (R : List RF) (f : RF) : addFold x (R ++ [f]) = addStep x (addFold x R) f := by
  unfold addFold
  rw [List.foldl_append]
  rfl
def insD (x : RF) : List RF → List RF
  | [] => [x]
  | f :: r => if gtK f.k x.k then x :: f :: r else f :: insD x r
theorem fold_true (x : RF) (R : List RF) : ∀ acc, R.foldl (addStep x) (acc, true) = (acc ++ R, true) := by
  induction R with
  | nil => intro acc; simp
  | cons f r ih =>
    intro acc
    rw [List.foldl_cons]
    have e : addStep x (acc, true) f = (acc ++ [f], true) := by simp [addStep]
    rw [e, ih]
    simp
theorem fold_false (x : RF) (R : List RF) : ∀ acc, ((R.foldl (addStep x) (acc, false)).2 = true ∧ (R.foldl (addStep x) (acc, false)).1 = acc ++ insD x R) ∨ ((R.foldl (addStep x) (acc, false)).2 = false ∧ (R.foldl (addStep x) (acc, false)).1 = acc ++ R ∧ insD x R = R ++ [x]) := by
  induction R with
  | nil => intro acc; exact .inr ⟨rfl, by simp, rfl⟩
  | cons f r ih =>
    intro acc
    rw [List.foldl_cons]
    by_cases h : gtK f.k x.k = true
    · have e : addStep x (acc, false) f = (acc ++ [x] ++ [f], true) := by simp [addStep, h]
      rw [e, fold_true]
      exact .inl ⟨rfl, by simp [insD, h]⟩
    · have e : addStep x (acc, false) f = (acc ++ [f], false) := by simp [addStep, h]
      rw [e]
      rcases ih (acc ++ [f]) with ⟨h1, h2⟩ | ⟨h1, h2, h3⟩
      · exact .inl ⟨h1, by rw [h2]; simp [insD, h]⟩
      · exact .inr ⟨h1, by rw [h2]; simp, by simp [insD, h, h3]⟩
theorem addD_ins (x : RF) (R : List RF) : addD x R = insD x R := by
  unfold addD addFold
  rcases fold_false x R [] with ⟨h1, h2⟩ | ⟨h1, h2, h3⟩
  · rw [h1, if_pos rfl, h2]
    rfl
  · rw [h1, if_neg (by simp), h2, h3]
    rfl
theorem insD_perm (x : RF) (R : List RF) : (insD x R).Perm (x :: R) := by
  induction R with
  | nil => exact List.Perm.refl _
  | cons f r ih =>
    unfold insD
    split
    · exact List.Perm.refl _
    · exact (ih.cons f).trans (List.Perm.swap x f r)
theorem addFold_len (x : RF) (R : List RF) : (addFold x R).1.length ≤ R.length + 1 := by
  unfold addFold
  rcases fold_false x R [] with ⟨h1, h2⟩ | ⟨h1, h2, h3⟩
  · rw [h2, List.nil_append, (insD_perm x R).length_eq]
    simp
  · rw [h2]
    simp
section
variable {w w' : World} {gx : Nat} {v : Value} {R : List RF} {room short fuse : Int}
set_option maxHeartbeats 4000000 in
theorem radd_calls (hR : RdAt w gx v R room short fuse) (x : RF) (hx : Own w 5 1 x.v x.b.length (bys x.b)) (hl : R.length < 1000000) :
    Calls Try.prog 62 #[.pointer (some ⟨gx, 0, none⟩), .agg #[.string x.k, .slice x.A x.b.length x.cp, .int .i64 (x.syn : Int)]] w fun e w' => e = .returned (.tuple #[]) ∧ ∃ v', RdAt w' gx v' (insD x R) room short fuse ∧ Kb w w' [gx] ∧ ∀ g, v'.ownBlock = some g → w.heap.size ≤ g := by
  obtain ⟨i0, hi, hz0, hz1, hz2⟩ := info_parts info_rf
  obtain ⟨N, hN⟩ : ∃ N, N = R.length := ⟨_, rfl⟩
  have ho := hR.own
  have q0 : w.cell? ⟨gx, 0, none⟩ = some v := hR.blk.cell 0
  rw [← hN] at ho hl
  obtain ⟨A, c, hv, hrd, hac, hcm, _⟩ := ho.form
  rw [hv] at q0
  have HRD := Shut.mk hrd
  have HN := Shut.mk hN
  have HR := Shut.mk hR
  have HX := Shut.mk hx
  unfold maxLen at hcm
  have hbx : Below w.heap.size w (w.alloc x.obj) := (Below.refl _ w).alloc (Nat.le_refl _) x.obj
  have qx : (w.alloc x.obj).cell? ⟨gx, 0, none⟩ = some (.slice A N c) := (World.cell?_alloc_lt w _ _ (World.block_lt_of_cell? w _ q0)).trans q0
  have HXB := Shut.mk (Blk.new w 89 #[.string x.k, .slice x.A x.b.length x.cp, .int .i64 (x.syn : Int)])
  have HB0 := Shut.mk hbx
  clear hR ho hrd hN hv hx q0 hbx
  go_enter Try.func62, Try.ntmps62
  go_wp2_with fail
  obtain ⟨W0, hW0⟩ : ∃ W0, W0 = w.alloc x.obj := ⟨_, rfl⟩
  rw [← hW0] at qx HXB HB0
  go_loopw [4, 5, 13] (fun u p i wr => ∃ k : Nat, k ≤ N ∧ i = .int .i64 k ∧ p = .bool (addFold x (R.take k)).2 ∧ Own wr 89 3 u (addFold x (R.take k)).1.length (rfs (addFold x (R.take k)).1) ∧ (∀ g, u.ownBlock = some g → W0.heap.size ≤ g) ∧ Below W0.heap.size W0 wr) (fun _ _ i _ => N - (intOf i).toNat)
  case atStart => exact ⟨0, Nat.zero_le _, rfl, rfl, Own.nil _ _ _, fun g hg => (by cases hg), by rw [hW0]; exact Below.refl _ _⟩
  case round =>
    obtain ⟨k, hk, rfl, rfl, hou, hnew, hbr⟩ := hrel
    have HBR := Shut.mk hbr
    have HNEW := Shut.mk hnew
    obtain ⟨M, hM⟩ : ∃ M, M = (addFold x (R.take k)).1.length := ⟨_, rfl⟩
    have hMk : M ≤ k + 1 := by rw [hM]; exact Nat.le_trans (addFold_len _ _) (by rw [List.length_take]; omega)
    rw [← hM] at hou
    have HM := Shut.mk hM
    obtain ⟨Au, cu, hu, _⟩ := hou.form
    subst hu
    have HOU := Shut.mk hou
    obtain ⟨pb, hpb⟩ : ∃ pb, pb = (addFold x (R.take k)).2 := ⟨_, rfl⟩
    rw [← hpb]
    have HPB := Shut.mk hpb
    have hs0 : W0.heap.size = w.heap.size + 1 := by rw [hW0]; simp
    have hsz := HBR.out.size
    have HXr := Shut.mk ((HXB.out).below hbr (by rw [hs0]; omega))
    have x0 : wr.cell? ⟨w.heap.size, 0, none⟩ = some (.string x.k) := HXr.out.cell 0
    have x1 : wr.cell? ⟨w.heap.size, 1, none⟩ = some (.slice x.A x.b.length x.cp) := HXr.out.cell 1
    have x2 : wr.cell? ⟨w.heap.size, 2, none⟩ = some (.int .i64 (x.syn : Int)) := HXr.out.cell 2
    clear hou hnew hM hpb
    by_cases hlt : k < N
    · obtain ⟨cc, hcc⟩ : ∃ cc, R[k]? = some cc := ⟨R[k]'(by rw [← HN.out]; exact hlt), List.getElem?_eq_getElem _⟩
      obtain ⟨ad, rfl, d0, d1, d2⟩ := rf_cells HRD.out hcc (HB0.out.trans (hbr.mono (by rw [hs0]; omega)))
      have hkI : (k : Int) < (N : Int) := by omega
      have HBA := Shut.mk (HBR.out.alloc HBR.out.size cc.obj)
      have HST := Shut.mk (show addFold x (R.take (k + 1)) = addStep x (addFold x (R.take k)) cc by rw [take_at hcc, addFold_snoc])
      by_cases hgo : (!pb && gtK cc.k x.k) = true
      · obtain ⟨hp0, hg0⟩ : pb = false ∧ gtK cc.k x.k = true := by simpa using hgo
        have hg1 : (Op.bytesLess cc.k.toList x.k.toList || cc.k.toList == x.k.toList) = false := by
          unfold gtK at hg0
          simpa using hg0
        have HS2 := Shut.mk (show addFold x (R.take (k + 1)) = ((addFold x (R.take k)).1 ++ [x] ++ [cc], true) by
          rw [HST.out]; unfold addStep; rw [← HPB.out, hp0, hg0]; rfl)
        have hxa := HXr.out.alloc cc.obj
        have y0 : (wr.alloc cc.obj).cell? ⟨w.heap.size, 0, none⟩ = some (.string x.k) := hxa.cell 0
        have y1 : (wr.alloc cc.obj).cell? ⟨w.heap.size, 1, none⟩ = some (.slice x.A x.b.length x.cp) := hxa.cell 1
        have y2 : (wr.alloc cc.obj).cell? ⟨w.heap.size, 2, none⟩ = some (.int .i64 (x.syn : Int)) := hxa.cell 2
        have hoa := (HOU.out.alloc cc.obj).alloc x.obj
        have hra : Rd ((wr.alloc cc.obj).alloc x.obj) (some ⟨(wr.alloc cc.obj).heap.size, 0, none⟩) [.string x.k, .slice x.A x.b.length x.cp, .int .i64 (x.syn : Int)] := rd_new (wr.alloc cc.obj) _ _
        rw [World.size_alloc] at hra
        have hba := HBA.out.alloc (by rw [World.size_alloc]; omega) x.obj
        have HCB := Shut.mk ((Blk.new wr 89 #[.string cc.k, .slice cc.A cc.b.length cc.cp, .int .i64 (cc.syn : Int)]).alloc x.obj)
        subst hp0
        clear hcc hgo hg0 hxa
        go_wp2_with (first
          | (at_builtin
             refine wpList_append _ rfl _ _ _ rfl 89 i0 _ 3 48 Try.underlying85 hi hz0 hz1 hz2 rfl (by decide) _ _ _ rfl hoa _ 1 1 _ rfl rfl hra (by simp [Value.oneCell']) (by simp only [maxLen]; omega) (by omega) ?_
             intro v4 w4 hap
             obtain ⟨A4, c4, hv4, _⟩ := hap.own.form
             subst hv4
             have HO4 := Shut.mk hap.own
             have hb4 := hba.grown hap.grown hba.size (fun r hr => HNEW.out r hr)
             have HB4 := Shut.mk hb4
             have hn4 := new_append hba.size HNEW.out hap.lies
             have HN4 := Shut.mk hn4
             have hcb := hap.grown.block _ HCB.out.lt (fun e => by
               have := HOU.out.block_lt e.symm
               omega)
             have hcb4 : Blk w4 wr.heap.size 89 #[.string cc.k, .slice cc.A cc.b.length cc.cp, .int .i64 (cc.syn : Int)] := hcb.trans HCB.out
             have z0 : w4.cell? ⟨wr.heap.size, 0, none⟩ = some (.string cc.k) := hcb4.cell 0
             have z1 : w4.cell? ⟨wr.heap.size, 1, none⟩ = some (.slice cc.A cc.b.length cc.cp) := hcb4.cell 1
             have z2 : w4.cell? ⟨wr.heap.size, 2, none⟩ = some (.int .i64 (cc.syn : Int)) := hcb4.cell 2
             have hoa2 := HO4.out.alloc cc.obj
             have hra2 : Rd (w4.alloc cc.obj) (some ⟨w4.heap.size, 0, none⟩) [.string cc.k, .slice cc.A cc.b.length cc.cp, .int .i64 (cc.syn : Int)] := rd_new w4 _ _
             have HBA2 := Shut.mk (hb4.alloc hb4.size cc.obj)
             clear hap hb4 hn4 hcb hcb4)
          | (at_builtin
             refine wpList_append _ rfl _ _ _ rfl 89 i0 _ 3 48 Try.underlying85 hi hz0 hz1 hz2 rfl (by decide) _ _ _ rfl hoa2 _ 1 1 _ rfl rfl hra2 (by simp [Value.oneCell']) (by simp only [maxLen]; omega) (by omega) ?_
             intro v5 w5 hap5))
        case roundEnd =>
          refine ⟨⟨k + 1, by omega, by go_num, by rw [HS2.out], by rw [HS2.out]; exact hap5.own.cast (by rw [List.length_append, List.length_append, ← HM.out]; rfl) (by rw [rfs_append, rfs_append]; rfl), new_append HBA2.out.size HN4.out hap5.lies, HBA2.out.grown hap5.grown HBA2.out.size (fun r hr => HN4.out r hr)⟩, by simp [intOf]; omega⟩
      · have HS2 := Shut.mk (show addFold x (R.take (k + 1)) = ((addFold x (R.take k)).1 ++ [cc], (addFold x (R.take k)).2) by
          rw [HST.out]; unfold addStep; rw [← HPB.out, if_neg hgo])
        have hoa := (HOU.out.alloc cc.obj).alloc cc.obj
        have hra : Rd ((wr.alloc cc.obj).alloc cc.obj) (some ⟨(wr.alloc cc.obj).heap.size, 0, none⟩) [.string cc.k, .slice cc.A cc.b.length cc.cp, .int .i64 (cc.syn : Int)] := rd_new (wr.alloc cc.obj) _ _
        rw [World.size_alloc] at hra
        have hba := HBA.out.alloc (by rw [World.size_alloc]; omega) cc.obj
        have hxa := HXr.out.alloc cc.obj
        have y0 : (wr.alloc cc.obj).cell? ⟨w.heap.size, 0, none⟩ = some (.string x.k) := hxa.cell 0
        have hcase : pb = true ∨ (pb = false ∧ (Op.bytesLess cc.k.toList x.k.toList || cc.k.toList == x.k.toList) = true) := by
          cases pb with
          | true => exact .inl rfl
          | false =>
            refine .inr ⟨rfl, ?_⟩
            cases hb : (Op.bytesLess cc.k.toList x.k.toList || cc.k.toList == x.k.toList) with
            | true => rfl
            | false =>
              exfalso
              apply hgo
              unfold gtK
              rw [hb]
              rfl
        clear hcc hgo hxa
        rcases hcase with rfl | ⟨rfl, hg1⟩
        · go_wp2_with (
            at_builtin
            refine wpList_append _ rfl _ _ _ rfl 89 i0 _ 3 48 Try.underlying85 hi hz0 hz1 hz2 rfl (by decide) _ _ _ rfl hoa _ 1 1 _ rfl rfl hra (by simp [Value.oneCell']) (by simp only [maxLen]; omega) (by omega) ?_
            intro v4 w4 hap)
          case roundEnd =>
            refine ⟨⟨k + 1, by omega, by go_num, by rw [HS2.out, ← HPB.out], by rw [HS2.out]; exact hap.own.cast (by rw [List.length_append, ← HM.out]; rfl) (by rw [rfs_append]; rfl), new_append hba.size HNEW.out hap.lies, hba.grown hap.grown hba.size (fun r hr => HNEW.out r hr)⟩, by simp [intOf]; omega⟩
        · go_wp2_with (
            at_builtin
            refine wpList_append _ rfl _ _ _ rfl 89 i0 _ 3 48 Try.underlying85 hi hz0 hz1 hz2 rfl (by decide) _ _ _ rfl hoa _ 1 1 _ rfl rfl hra (by simp [Value.oneCell']) (by simp only [maxLen]; omega) (by omega) ?_
            intro v4 w4 hap)
          case roundEnd =>
            refine ⟨⟨k + 1, by omega, by go_num, by rw [HS2.out, ← HPB.out], by rw [HS2.out]; exact hap.own.cast (by rw [List.length_append, ← HM.out]; rfl) (by rw [rfs_append]; rfl), new_append hba.size HNEW.out hap.lies, hba.grown hap.grown hba.size (fun r hr => HNEW.out r hr)⟩, by simp [intOf]; omega⟩
    · obtain rfl : k = N := by omega
      have hkI : ¬ (k : Int) < (k : Int) := by omega
      have HT := Shut.mk (show R.take k = R by rw [HN.out, List.take_length])
      have hbw : Below w.heap.size w wr := HB0.out.trans (hbr.mono (by rw [hs0]; omega))
      have HBW := Shut.mk hbw
      have hbx := HR.out.blk.below hbw HR.out.blk.lt
      have hf := hbx.free 0
      have qq : wr.cell? ⟨gx, 0, none⟩ = some (.slice A k c) := (hbr.cell (World.block_lt_of_cell? W0 _ qx)).trans qx
      have HRX := Shut.mk (HX.out.below hbw fun g hg => HX.out.block_lt hg)
      have HD := Shut.mk (addD_ins x R)
      have hgx := HR.out.blk.lt
      cases pb with
      | true =>
        have HS2 := Shut.mk (show insD x R = (addFold x (R.take k)).1 by
          rw [HT.out, ← HD.out]; unfold addD; rw [← HT.out, ← HPB.out, if_pos rfl])
        have HFR := Shut.mk (HR.out.newRow HBW.out (R7 := insD x R) (v7 := .slice Au M cu) (by
          rw [HS2.out]
          exact HOU.out.cast HM.out rfl) (fun g hg => by have := HNEW.out g hg; omega) (fun c hc => by
          rcases List.mem_cons.1 ((insD_perm x R).mem_iff.1 hc) with rfl | hc
          · exact .inr HRX.out
          · exact .inl hc))
        clear hbr hbw hbx
        go_wp2_with fail
        go_end0
        exact ⟨rfl, _, HFR.out.1, HFR.out.2, fun g hg => by have := HNEW.out g hg; omega⟩
      | false =>
        have HS2 := Shut.mk (show insD x R = (addFold x (R.take k)).1 ++ [x] by
          rw [HT.out, ← HD.out]; unfold addD; rw [← HT.out, ← HPB.out, if_neg (by simp)])
        have hoa := HOU.out.alloc x.obj
        have hra : Rd (wr.alloc x.obj) (some ⟨wr.heap.size, 0, none⟩) [.string x.k, .slice x.A x.b.length x.cp, .int .i64 (x.syn : Int)] := rd_new wr _ _
        have hba := HBR.out.alloc HBR.out.size x.obj
        clear hbr hbw
        go_wp2_with (
          at_builtin
          refine wpList_append _ rfl _ _ _ rfl 89 i0 _ 3 48 Try.underlying85 hi hz0 hz1 hz2 rfl (by decide) _ _ _ rfl hoa _ 1 1 _ rfl rfl hra (by simp [Value.oneCell']) (by simp only [maxLen]; omega) (by omega) ?_
          intro v4 w4 hap
          obtain ⟨A4, c4, hv4, _⟩ := hap.own.form
          subst hv4
          have hb4 := hba.grown hap.grown hba.size (fun r hr => HNEW.out r hr)
          have hbw4 : Below w.heap.size w w4 := HB0.out.trans (hb4.mono (by rw [hs0]; omega))
          have hn4 := new_append hba.size HNEW.out hap.lies
          have hbx4 := HR.out.blk.below hbw4 hgx
          have q4 : w4.cell? ⟨gx, 0, none⟩ = some (.slice A k c) := (hb4.cell (World.block_lt_of_cell? W0 _ qx)).trans qx
          have hf4 := hbx4.free 0
          have HFR := Shut.mk (HR.out.newRow hbw4 (R7 := insD x R) (v7 := .slice A4 (M + 1) c4) (by
            rw [HS2.out]
            exact hap.own.cast (by rw [List.length_append, ← HM.out]; rfl) (by rw [rfs_append]; rfl)) (fun g hg => by have := hn4 g hg; omega) (fun c hc => by
            rcases List.mem_cons.1 ((insD_perm x R).mem_iff.1 hc) with rfl | hc
            · exact .inr (HX.out.below hbw4 fun g hg => HX.out.block_lt hg)
            · exact .inl hc))
          have HN4 := Shut.mk hn4
          clear hap hb4 hbw4 hn4 hbx4)
        go_end0
        exact ⟨rfl, _, HFR.out.1, HFR.out.2, fun g hg => by have := HN4.out g hg; omega⟩
end
end Go.Proofs.Ytjmaimpfplojpaa
