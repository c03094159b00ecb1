/- Walk: the disk's Copy. -/
import Derived.Test.YtjmaimpfplojpaaNew2
import Derived.BigQuiet
import Derived.Deep.RegionHeld3
namespace Go.Proofs.Ytjmaimpfplojpaa
open Go.RowKit Go.Maps
set_option linter.unusedSimpArgs false
set_option linter.unusedVariables false
set_option maxRecDepth 100000

/-- the entries that are no longer to come -/
def gone (es : List Ent) (left : Lit → Bool) : List Ent := es.filter fun e => !left (.string e.key)
theorem gone_start {es : List Ent} {left : Lit → Bool} (h : ∀ e ∈ es, left (.string e.key) = true) : gone es left = [] := by
  unfold gone
  rw [List.filter_eq_nil_iff]
  intro e he
  rw [h e he]
  simp
theorem gone_end {es : List Ent} {left : Lit → Bool} (h : ∀ k, left k = false) : gone es left = es := by
  unfold gone
  rw [List.filter_eq_self]
  intro e he
  rw [h]
  rfl
theorem gone_same {es : List Ent} {left : Lit → Bool} {s : List UInt8} (hne : ∀ e ∈ es, e.key ≠ s) : gone es (fun z => left z && !z.sameKey (.string s)) = gone es left := by
  unfold gone
  refine List.filter_congr fun e he => ?_
  show (!(left (.string e.key) && !(Lit.string e.key).sameKey (.string s))) = !left (.string e.key)
  rw [sameKey_string, decide_eq_false (hne e he)]
  simp
theorem gone_step {es : List Ent} (hp : es.Pairwise fun a b => a.key ≠ b.key) {left : Lit → Bool} {s : List UInt8} {e : Ent} (h : lookE es s = some e) (hl : left (.string s) = true) :
    (gone es (fun z => left z && !z.sameKey (.string s))).Perm (gone es left ++ [e]) := by
  induction es with
  | nil => simp [lookE] at h
  | cons x r ih =>
    rw [List.pairwise_cons] at hp
    unfold lookE at h
    rw [List.find?_cons] at h
    have e0 : ∀ (f : Lit → Bool), gone (x :: r) f = if f (.string x.key) then gone r f else x :: gone r f := by
      intro f
      unfold gone
      rw [List.filter_cons]
      cases f (.string x.key) <;> rfl
    by_cases hx : x.key = s
    · rw [beq_iff_eq.2 hx] at h
      injection h with h
      subst h
      rw [e0, e0, hx, hl, gone_same (fun y hy e => hp.1 y hy (hx.trans e.symm))]
      simp only [sameKey_string, decide_true, Bool.not_true, Bool.and_false, if_true]
      exact List.perm_append_comm (l₁ := [x])
    · rw [beq_eq_false_iff_ne.2 hx] at h
      have hr := ih hp.2 h
      rw [e0, e0, sameKey_string, decide_eq_false hx]
      simp only [Bool.not_false, Bool.and_true]
      split
      · exact hr
      · exact hr.cons x
theorem gone_used (es : List Ent) (left : Lit → Bool) : usedE (gone es left) ≤ usedE es := by
  unfold gone usedE
  induction es with
  | nil => exact Nat.le_refl _
  | cons x r ih =>
    rw [List.filter_cons]
    split
    · simp only [List.map_cons, List.sum_cons]
      omega
    · simp only [List.map_cons, List.sum_cons]
      omega
theorem used_perm {S T : List Fl} (h : S.Perm T) : used S = used T := by
  unfold used
  exact (h.map _).sum_nat
theorem gone_key {es : List Ent} {left : Lit → Bool} {s : List UInt8} (hl : left (.string s) = true) : ∀ e ∈ gone es left, e.key ≠ s := by
  intro e he hk
  unfold gone at he
  have := (List.mem_filter.1 he).2
  rw [hk, hl] at this
  cases this
section
variable {w : World} {gd gm n : Nat} {es : List Ent} {room short fuse : Int}
set_option maxHeartbeats 2000000 in
theorem copy_calls (hD : DiskAt w gd gm n es room short fuse) (hel : es.length < 900000) : Calls Try.prog 27 #[gp gd] w fun e w' =>
    ∃ gc gcm m cs, e = .returned (gp gc) ∧ DiskAt w' gc gcm m cs room short fuse ∧ (fls cs).Perm (fls es) ∧ Below w.heap.size w w' ∧ (∀ x ∈ foot gc gcm cs, w.heap.size ≤ x) ∧ m ≤ es.length := by
  have q0 : w.cell? ⟨gd, 0, none⟩ = some (.map (some gm)) := hD.blk.cell 0
  have q1 : w.cell? ⟨gd, 1, none⟩ = some (.int .i64 room) := hD.blk.cell 1
  have q2 : w.cell? ⟨gd, 2, none⟩ = some (.int .i64 short) := hD.blk.cell 2
  have q3 : w.cell? ⟨gd, 3, none⟩ = some (.int .i64 fuse) := hD.blk.cell 3
  have hM := Shut.mk (made_calls hD)
  have HD := Shut.mk hD
  have hmm := @run_makeMap Try.prog
  clear hD
  go_enter Try.func27, Try.ntmps27
  go_wp2_with fail
  refine hM.out.mono ?_
  rintro e w' ⟨rfl, rfl⟩
  clear hM
  go_wp2_with fail
  have p1 : (w.alloc (.map #[] 0)).cell? ⟨gd, 1, none⟩ = some (.int .i64 room) := (World.cell?_alloc_lt w _ _ (World.block_lt_of_cell? w _ q1)).trans q1
  have p2 : (w.alloc (.map #[] 0)).cell? ⟨gd, 2, none⟩ = some (.int .i64 short) := (World.cell?_alloc_lt w _ _ (World.block_lt_of_cell? w _ q2)).trans q2
  have p3 : (w.alloc (.map #[] 0)).cell? ⟨gd, 3, none⟩ = some (.int .i64 fuse) := (World.cell?_alloc_lt w _ _ (World.block_lt_of_cell? w _ q3)).trans q3
  have hF0 : FM ((w.alloc (.map #[] 0)).alloc (.cells #[.map (some w.heap.size), .int .i64 room, .int .i64 short, .int .i64 fuse] 57)) Try.prog 9 w.heap.size 0 (fun _ => none) := (FM.made w _ _).keep (Below.heap_alloc _ _ _ (by simp))
  have hB0 := Blk.new (w.alloc (.map #[] 0)) 57 #[.map (some w.heap.size), .int .i64 room, .int .i64 short, .int .i64 fuse]
  rw [World.size_alloc] at hB0
  have HC0 := Shut.mk (show DiskAt ((w.alloc (.map #[] 0)).alloc (.cells #[.map (some w.heap.size), .int .i64 room, .int .i64 short, .int .i64 fuse] 57)) (w.heap.size + 1) w.heap.size 0 [] room short fuse from ⟨hB0, hF0, by simp, by simp, .nil, .nil, .nil, by simp, by simp [usedE]⟩)
  have hL0 : Below w.heap.size w ((w.alloc (.map #[] 0)).alloc (.cells #[.map (some w.heap.size), .int .i64 room, .int .i64 short, .int .i64 fuse] 57)) := ((Below.refl _ w).alloc (Nat.le_refl _) _).alloc (by simp) _
  have HL0 := Shut.mk hL0
  have hsz0 : ((w.alloc (.map #[] 0)).alloc (.cells #[.map (some w.heap.size), .int .i64 room, .int .i64 short, .int .i64 fuse] 57)).heap.size = w.heap.size + 2 := by simp
  clear hF0 hB0 hL0
  go_region
  obtain ⟨W0, hW0⟩ : ∃ W0, W0 = ((w.alloc (.map #[] 0)).alloc (.cells #[.map (some w.heap.size), .int .i64 room, .int .i64 short, .int .i64 fuse] 57)).drew := ⟨_, rfl⟩
  have HC1 := Shut.mk (show DiskAt W0 (w.heap.size + 1) w.heap.size 0 [] room short fuse from by rw [hW0]; exact HC0.out.below ⟨rfl, rfl, rfl, Nat.le_refl _, fun _ _ => rfl⟩)
  have HL1 := Shut.mk (show Below w.heap.size w W0 from by rw [hW0]; exact HL0.out.trans ⟨rfl, rfl, rfl, Nat.le_refl _, fun _ _ => rfl⟩)
  have HSZ1 := Shut.mk (show W0.heap.size = w.heap.size + 2 from by rw [hW0]; exact hsz0)
  rw [← hW0]
  clear hW0 HC0 HL0 hsz0 p1 p2 p3 q0 q1 q2 q3
  have hD1 := HD.out.below HL1.out
  have q0 : W0.cell? ⟨gd, 0, none⟩ = some (.map (some gm)) := hD1.blk.cell 0
  obtain ⟨D, hown, hf⟩ := hD1.map
  have HW := Shut.mk hf
  have HST := Shut.mk (gone_start (es := es) (left := Maps.has D) fun e he => has_of hf (g := e.g) (by unfold ef; rw [lookE_of_mem hD1.keys he]; rfl))
  have HD1 := Shut.mk hD1
  obtain ⟨GC, hGC⟩ : ∃ GC, GC = w.heap.size + 1 := ⟨_, rfl⟩
  obtain ⟨GM, hGM⟩ : ∃ GM, GM = w.heap.size := ⟨_, rfl⟩
  rw [← hGC, ← hGM] at HC1
  rw [← hGC]
  have HGC := Shut.mk hGC
  have HGM := Shut.mk hGM
  have HFL := Shut.mk (fun y (hy : y ∈ foot gd gm es) => HD.out.lt hy)
  clear hf hD1 hGC hGM
  go_wp2_with (first
    | (at_range; refine wpList_range_own _ rfl _ 55 rfl 9 71 name_keyed Try.underlying55 _ gm n D rfl hown ?_; intro w0 hrg0 hg0 hs0)
    | go_in)
  go_frame
  have hb0 : Below W0.heap.size W0 w0 := (Below.refl _ W0).grown hg0 (Nat.le_refl _) (fun k hk => by cases hk)
  have HB0 := Shut.mk hb0
  clear hown q0
  go_loopw [4, 5] (fun _ _ wr => ∃ left cnt m cs, wr.ranges Try.prog 9 ptrElem gm W0.heap.size n D left cnt ∧ DiskAt wr GC GM m cs room short fuse ∧ (fls cs).Perm (fls (gone es left)) ∧ m ≤ (gone es left).length ∧ (∀ x ∈ foot GC GM cs, w.heap.size ≤ x ∧ x ≠ W0.heap.size) ∧ Below w.heap.size w wr) (fun _ _ wr => wr.rangeLeft gm W0.heap.size)
  case atStart => exact ⟨_, _, 0, [], hrg0, HC1.out.below HB0.out, by rw [HST.out], by simp, by
    have h1 := HGC.out
    have h2 := HGM.out
    have h3 := HSZ1.out
    intro x hx
    simp [foot] at hx
    first | omega | skip, HL1.out.trans (HB0.out.mono HL1.out.size)⟩
  case round =>
    obtain ⟨left, cnt, m, cs, hrg, hCr, hpm, hmc, hfr, hbr⟩ := hrel
    have HCR := Shut.mk hCr
    have HPM := Shut.mk hpm
    have HFR := Shut.mk hfr
    have HBR := Shut.mk hbr
    have HMC := Shut.mk hmc
    clear hCr hpm hfr hbr hrg0 hg0 hs0 hb0 hmc
    go_wp2_with (first
      | (at_next; refine wpList_next_ranges _ rfl _ rfl 9 name_keyed ptrElem Value.string ptr (fun key kl h => by obtain ⟨s, h1, _⟩ := WideMaps.string_of_keyOf Try.underlying9 h; exact ⟨s, h1⟩) (fun v y h => by obtain ⟨o, h1, _⟩ := ptr_elem_inv h; exact ⟨o, h1⟩) gm W0.heap.size n _ _ _ rfl hrg ?_ ?_)
      | go_in)
    · intro _ hl0
      have HPE := Shut.mk (show (fls cs).Perm (fls es) from by have h := HPM.out; rw [gone_end hl0] at h; exact h)
      have HME := Shut.mk (show m ≤ es.length from by have h := HMC.out; rw [gone_end hl0] at h; exact h)
      clear hl0
      go_wp2
      go_ret
      exact ⟨GC, GM, m, cs, rfl, HCR.out, HPE.out, HBR.out, fun x hx => (HFR.out x hx).1, HME.out⟩
    · intro s o kl y ps w1 cnt1 hkey hlx hRy hat hrg1 hlt hg1 hs1 hen
      obtain ⟨s', hs', rfl, hsz'⟩ := WideMaps.string_of_keyOf Try.underlying9 hkey
      cases hs'
      obtain ⟨o', ho', hy⟩ := ptr_elem_inv hRy
      obtain ⟨rfl, rfl⟩ := Prod.mk.inj hy
      have ho : o' = o := by cases o <;> cases o' <;> simp_all [ptr]
      subst ho
      obtain ⟨g, hg, rfl⟩ := comes HW.out hat
      unfold ef at hg
      cases hl : lookE es s.data.toList with
      | none => rw [hl] at hg; cases hg
      | some e =>
        rw [hl] at hg
        injection hg with hg
        subst hg
        obtain ⟨hme, hke⟩ := lookE_mem hl
        have hgo := gone_step HD1.out.keys hl hlx
        have hgk := gone_key (es := es) hlx
        have hbw1 : Below w.heap.size w w1 := HBR.out.grown hg1 HBR.out.size (fun k hk => by cases hk; exact HL1.out.size)
        have hC1 : DiskAt w1 GC GM m cs room short fuse := HCR.out.keep (L := [W0.heap.size]) (Kb.of_grown hg1 (fun r hr => by cases hr; simp)) (fun x hx hc => (HFR.out x hx).2 (by simpa using hc))
        have hen' : (Instr.entry (.pointer (some ⟨W0.heap.size, 0, none⟩))).run Try.prog w1 = .ok (.tuple #[.string s, gp e.g]) w1 := hen
        have hDE := HD.out.below hbw1
        have hb := hDE.file e hme
        obtain ⟨Ae, ce, hve, hrd, _⟩ := (hDE.own e hme).form
        rw [hve] at hb
        have r0 : w1.cell? ⟨e.g, 0, none⟩ = some (.slice Ae e.b.length ce) := hb.cell 0
        have r1 : w1.cell? ⟨e.g, 1, none⟩ = some (.int .i64 (e.syn : Int)) := hb.cell 1
        have HBE := Shut.mk hb
        have HMEM := Shut.mk hme
        have r2 : w1.cell? ⟨GC, 0, none⟩ = some (.map (some GM)) := hC1.blk.cell 0
        have HLEN := Shut.mk (hDE.len e hme)
        obtain ⟨NE, hNE⟩ : ∃ NE, NE = e.b.length := ⟨_, rfl⟩
        have HCL := Shut.mk (clone_calls Ae ce e.b w1.drew (rdB_of_rd (show Rd w1.drew Ae (bys e.b) from hrd)) (by have := HLEN.out.2; unfold reach; omega))
        rw [← hNE] at r0 HCL
        have HNE := Shut.mk hNE
        have hNEq := hNE
        have hge := World.block_lt_of_cell? _ _ r0
        have hgc := World.block_lt_of_cell? _ _ r2
        have HKEY := Shut.mk hkey
        have HNO := Shut.mk (show lookE cs s.data.toList = none from lookE_none_of fun c hc hk => by
          have h1 : (c.key, c.b, c.syn) ∈ fls (gone es left) := HPM.out.mem_iff.1 (List.mem_map.2 ⟨c, hc, rfl⟩)
          obtain ⟨d, hd, he⟩ := List.mem_map.1 h1
          have h2 : d.key = c.key := congrArg Prod.fst he
          exact hgk d hd (h2.trans hk))
        have HPM2 := Shut.mk ((HPM.out.append_right [e.fl]).trans (show (fls (gone es left) ++ [e.fl]).Perm (fls (gone es (fun z => left z && !z.sameKey (.string s.data.toList)))) from by
          have := hgo.symm.map Ent.fl
          rw [List.map_append] at this
          exact this))
        have HML := Shut.mk (show m + 1 ≤ (gone es (fun z => left z && !z.sameKey (.string s.data.toList))).length from by
          rw [hgo.length_eq, List.length_append]
          have := HMC.out
          simp
          omega)
        have hmb : m < 900000 := by
          have h1 := HMC.out
          have h2 : (gone es left).length ≤ es.length := List.length_filter_le _ _
          omega
        have HSU := Shut.mk (show usedE cs + e.b.length ≤ 1099511627776 from by
          have h1 := used_perm HPM2.out
          have h2 := gone_used es (fun z => left z && !z.sameKey (.string s.data.toList))
          have h3 := HD1.out.sum
          have h4 : used (fls cs ++ [e.fl]) = usedE cs + e.b.length := by
            unfold used
            rw [List.map_append, List.sum_append]
            have := used_map cs
            unfold used at this
            unfold fls
            rw [this]
            simp [Ent.fl]
          have h5 : used (fls (gone es (fun z => left z && !z.sameKey (.string s.data.toList)))) = usedE (gone es (fun z => left z && !z.sameKey (.string s.data.toList))) := used_map _
          omega)
        have HC1' := Shut.mk hC1
        have HBW := Shut.mk hbw1
        have HRG := Shut.mk hrg1
        have HLE := Shut.mk hrg.left_eq
        have HLT := Shut.mk hlt
        have HKS := Shut.mk hke
        obtain ⟨EG, hEG⟩ : ∃ EG, EG = e.g := ⟨_, rfl⟩
        obtain ⟨SY, hSY⟩ : ∃ SY, SY = e.syn := ⟨_, rfl⟩
        rw [← hEG] at r0 r1 hge
        rw [← hSY] at r1
        have HEG := Shut.mk hEG
        have HSY := Shut.mk hSY
        rw [← hEG, ← hNEq, ← hSY] at HBE
        have HEW := Shut.mk (show EG < w.heap.size from by rw [HEG.out]; exact HFL.out _ (foot_ent HMEM.out))
        have hgp : (ptr (some ((fun x : Ent => x.g) e)) : Value) = gp EG := by rw [hEG]; rfl
        rw [← hEG] at hen'
        clear hen hrg hat hRy hb hve hl hme hke hgo hgk hDE hrd hNE hNEq hEG hSY hC1 hbw1 hrg1 hlt hg1
        go_wp2_with fail
        go_region_held3 (fun w' => w'.cell? ⟨EG, 0, none⟩ = some (.slice Ae NE ce) ∧ w'.cell? ⟨EG, 1, none⟩ = some (.int .i64 (SY : Int)) ∧ w'.cell? ⟨GC, 0, none⟩ = some (.map (some GM)))
          (first | exact ⟨r0, r1, r2⟩ | exact ⟨t0, t1, t2⟩ | exact ⟨u0, u1, u2⟩ | go_keep)
          (first
            | (go_at_call 17
               refine HCL.out.mono ?_
               rintro e5 w5 ⟨v5, rfl, ho5, hb5, hn5⟩
               have t0 := (hb5.cell hge).trans r0
               have t1 := (hb5.cell hge).trans r1
               have t2 := (hb5.cell hgc).trans r2
               obtain ⟨A5, c5, rfl, _⟩ := ho5.rdB
               have HO5 := Shut.mk ho5
               have HN5 := Shut.mk hn5
               have HB5' := Shut.mk (below_of_drew hb5)
               obtain ⟨w7, hup, hF7, hg7⟩ := FM.update (w5.alloc (.cells #[.slice A5 e.b.length c5, .int .i64 (SY : Int)] 73)) (HC1'.out.below (HB5'.out.alloc HB5'.out.size (.cells #[.slice A5 e.b.length c5, .int .i64 (SY : Int)] 73))).map name_keyed Try.underlying55 (by unfold maxLen; omega) w5.heap.size HKEY.out
               have HF7 := Shut.mk hF7
               have HG7 := Shut.mk hg7
               have hbe7 : Blk w7 EG 73 #[.slice Ae NE ce, .int .i64 (SY : Int)] := ((HBE.out.below HB5'.out (World.block_lt_of_cell? _ _ r0)).alloc (.cells #[.slice A5 e.b.length c5, .int .i64 (SY : Int)] 73)).grown hg7 (by have := HEW.out; have := HGM.out; omega)
               have hbc7 : Blk w7 GC 57 #[.map (some GM), .int .i64 room, .int .i64 short, .int .i64 fuse] := ((HC1'.out.blk.below HB5'.out (World.block_lt_of_cell? _ _ r2)).alloc (.cells #[.slice A5 e.b.length c5, .int .i64 (SY : Int)] 73)).grown hg7 (by have := HGC.out; have := HGM.out; omega)
               have u0 : w7.cell? ⟨EG, 0, none⟩ = some (.slice Ae NE ce) := hbe7.cell 0
               have u1 : w7.cell? ⟨EG, 1, none⟩ = some (.int .i64 (SY : Int)) := hbe7.cell 1
               have u2 : w7.cell? ⟨GC, 0, none⟩ = some (.map (some GM)) := hbc7.cell 0
               clear ho5 hb5 hn5 hF7 hg7 hbe7 hbc7))
        have hbx := HB5'.out.alloc HB5'.out.size (.cells #[.slice A5 e.b.length c5, .int .i64 (SY : Int)] 73)
        have hs1 : W0.heap.size < w1.heap.size := by
          have := HRG.out.lt
          omega
        have hkk : Kb w1 w7 [GM] := (Kb.of_below hbx [GM]).trans (Kb.of_grown HG7.out (L := [GM]) (fun r hr => by cases hr; simp)) (fun x hx => .inl hx)
        have hgmn : w5.heap.size ≠ GM := by
          have := HGM.out
          have := HBW.out.size
          have := HB5'.out.size
          have := HSZ1.out
          omega
        have hbf : Blk w7 w5.heap.size 73 #[.slice A5 e.b.length c5, .int .i64 (SY : Int)] := (Blk.new w5 _ _).grown HG7.out hgmn
        have hof : Own w7 5 1 (.slice A5 e.b.length c5) e.b.length (bys e.b) := (HO5.out.alloc _).other HG7.out (fun g hg => by
          have := HN5.out g hg
          have h1 : w1.drew.heap.size = w1.heap.size := rfl
          have := HGM.out
          have := HSZ1.out
          omega)
        have hnew := HC1'.out.add (x := ⟨s.data.toList, w5.heap.size, .slice A5 e.b.length c5, e.b, e.syn⟩) HNO.out hkk HF7.out (by rw [← HSY.out]; exact hbf) hof HB5'.out.size (fun g hg => HN5.out g hg) HLEN.out HSU.out
        have HNW := Shut.mk hnew
        have HBX := Shut.mk hbx
        have hrgn := (HRG.out.kept (row := none) ⟨HBX.out.os, HBX.out.tape, HBX.out.output, HBX.out.size, fun b hb _ => HBX.out.block b hb⟩ (by simp) (by simp)).kept HG7.out (fun e => by injection e with e; have := HFL.out gm (by simp [foot]); have := HGM.out; omega) (fun e => by injection e with e; have := HGM.out; have := HSZ1.out; omega)
        have HRN := Shut.mk hrgn
        have HPF := Shut.mk (show (fls (cs ++ [⟨s.data.toList, w5.heap.size, .slice A5 e.b.length c5, e.b, e.syn⟩])).Perm (fls (gone es (fun z => left z && !z.sameKey (.string s.data.toList)))) from by
          have h := HPM2.out
          unfold fls at h ⊢
          rw [List.map_append]
          have e9 : e.fl = (s.data.toList, e.b, e.syn) := by unfold Ent.fl; rw [HKS.out]
          rw [e9] at h
          exact h)
        have HFO := Shut.mk (show ∀ x ∈ foot GC GM (cs ++ [⟨s.data.toList, w5.heap.size, .slice A5 e.b.length c5, e.b, e.syn⟩]), w.heap.size ≤ x ∧ x ≠ W0.heap.size from fun x hx => by
          have h1 := HBW.out.size
          have h2 := HB5'.out.size
          simp only [foot, List.mem_cons, List.mem_flatMap, List.mem_append, List.mem_nil_iff, or_false] at hx
          rcases hx with rfl | rfl | ⟨y, hy | rfl, hx⟩
          · exact HFR.out x (by simp [foot])
          · exact HFR.out x (by simp [foot])
          · rcases hx with rfl | hx
            · exact HFR.out y.g (foot_ent hy)
            · exact HFR.out x (foot_own hy (by simpa using hx))
          · rcases hx with rfl | hx
            · simp only []
              omega
            · have h3 := HN5.out x (by simpa using hx)
              have h4 : w1.drew.heap.size = w1.heap.size := rfl
              omega)
        have HBN := Shut.mk (show Below w.heap.size w w7 from (HBW.out.trans (hbx.mono HBW.out.size)).grown HG7.out (by have := HBW.out.size; have := HBX.out.size; omega) (fun r hr => by cases hr; rw [HGM.out]; exact Nat.le_refl _))
        clear hbx hkk hgmn hbf hof hnew hrgn
        go_roundw
        case rel =>
          exact ⟨_, _, _, _, _, _, _, _, _, _, _, _, _, _, _, _, _, _, _, _, _, _, _, ⟨_, cnt1, m + 1, _, HRN.out, HNW.out, HPF.out, HML.out, HFO.out, HBN.out⟩, rfl⟩
        case measure => rw [HRN.out.left_eq, HLE.out]; exact HLT.out
end
end Go.Proofs.Ytjmaimpfplojpaa
