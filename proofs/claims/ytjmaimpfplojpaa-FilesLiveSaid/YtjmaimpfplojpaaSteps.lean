/- Walk: the statements' Steps: a step on both disks; they do not part. -/
import Derived.Test.YtjmaimpfplojpaaStep
import Derived.Deep.Cut
namespace Go.Proofs.Ytjmaimpfplojpaa
open Go.RowKit Go.Maps
set_option linter.unusedSimpArgs false
set_option linter.unusedVariables false
set_option maxRecDepth 100000

theorem clone_at (A : Option Addr) (cap n : Nat) (l : List UInt8) (w : World) (hr : RdB w A l) (hn : l.length = n) (hm : n ≤ reach) :
    Calls Try.prog 17 #[.slice A n cap] w fun e w' => ∃ v, e = .returned v ∧ Own w' 5 1 v n (bys l) ∧ Below w.heap.size w w' ∧ (∀ g, v.ownBlock = some g → w.heap.size ≤ g) := by
  subst hn
  exact clone_calls A cap l w hr hm
section
variable {w0 w : World} {gd gx : Nat} {d : Ds} {T : List Fl} {N : Nat} {Z : List Nat} {H : Nat → Option Obj}
set_option maxHeartbeats 8000000 in
theorem steps_calls (h : Pr w0 w gd gx d T N Z H) (hN : N < 700000) (op n : Int) (nm to : ByteArray) (B At : Option Addr) (m c ct : Nat) (b : List UInt8) (tl : List Tl) (hn1 : -9223372036854775808 ≤ n) (hn2 : n ≤ 9223372036854775807) (hnm : nm.size ≤ reach) (hto : to.size ≤ reach)
    (hb : RdB w0 B b) (hm : b.length = m) (hmc : m ≤ c) (hml : m ≤ reach) (hlen : tl.length < 9000000000000) (hR : RdT w0 At tl) (hA : ∀ ad, At = some ad → tl ≠ [] → ad.block < w0.heap.size) :
    Calls Try.prog 30 #[gp gd, gq gx, .agg #[.int .i64 op, .int .i64 n, .string nm, .string to, .slice B m c, .slice At tl.length ct]] w fun e w' => e = .returned (.bool true) ∧ ∃ d' T', Pr w0 w' gd gx d' T' (N + 1) Z H := by
  obtain ⟨N0, hN0, hB0⟩ := u64_natS op
  obtain ⟨r, hr5, hT0⟩ := tmod_natS N0 12 (by omega)
  have hT0' : ((N0 : Int).tmod 12) = (r : Int) := hT0
  have hwi : IntKind.i64.wrap (r : Int) = (r : Int) := by rw [IntKind.wrap_i64]; omega
  clear hT0
  obtain ⟨g, hg⟩ : ∃ g, g = w.heap.size := ⟨_, rfl⟩
  have hP := h.two.box (.cells #[.int .i64 op, .int .i64 n, .string nm, .string to, .slice B m c, .slice At tl.length ct] 49)
  have HB := Shut.mk (Blk.new w 49 #[.int .i64 op, .int .i64 n, .string nm, .string to, .slice B m c, .slice At tl.length ct])
  have HPR := Shut.mk (h.of_two (d' := d) hP)
  have HBR := Shut.mk hb
  have HTR := Shut.mk hR
  have HM := Shut.mk hm
  have HLESS := Shut.mk (fun (w9 : World) (d9 : Ds) (T9 : List Fl) (h9 : Pr w0 w9 gd gx d9 T9 (N + 1) (w.heap.size :: Z) (fun z => if z = w.heap.size then some (.cells #[.int .i64 op, .int .i64 n, .string nm, .string to, .slice B m c, .slice At tl.length ct] 49) else H z)) => (by
    have h8 := h9.two.less (Z' := Z) (fun z hz => List.mem_cons_of_mem _ hz)
    have hlt : ∀ z ∈ Z, z < w.heap.size := fun z hz => (h.two.zs z hz).1
    refine h9.of_two (d' := d9) ⟨h8.go, h8.below, fun z hz => ⟨(h8.zs z hz).1, (h8.zs z hz).2.trans ?_⟩⟩
    have := hlt z hz
    simp only [if_neg (show ¬ z = w.heap.size by omega)] : Pr w0 w9 gd gx d9 T9 (N + 1) Z H))
  have HCL := Shut.mk (fun (w9 : World) (d9 : Ds) (T9 : List Fl) (r9 s9 f9 : Int) (h9 : Two w0 w9 gd gx d9 T9 r9 s9 f9 (w.heap.size :: Z) (fun z => if z = w.heap.size then some (.cells #[.int .i64 op, .int .i64 n, .string nm, .string to, .slice B m c, .slice At tl.length ct] 49) else H z)) => (by
    have h8 := (h9.zs w.heap.size (by simp)).2
    simp only [if_true] at h8
    exact h8 : Blk w9 w.heap.size 49 #[.int .i64 op, .int .i64 n, .string nm, .string to, .slice B m c, .slice At tl.length ct]))
  obtain ⟨Hg, hHg⟩ : ∃ Hg, Hg = (fun z => if z = w.heap.size then some (.cells #[.int .i64 op, .int .i64 n, .string nm, .string to, .slice B m c, .slice At tl.length ct] 49) else H z) := ⟨_, rfl⟩
  rw [← hHg] at HPR HLESS HCL
  rw [← hg] at HPR HLESS HCL HB
  obtain ⟨W, hW⟩ : ∃ W, W = w.alloc (.cells #[.int .i64 op, .int .i64 n, .string nm, .string to, .slice B m c, .slice At tl.length ct] 49) := ⟨_, rfl⟩
  rw [← hW] at HPR HB
  have hsW : W.heap.size = g + 1 := by rw [hW, hg]; simp
  have HSW := Shut.mk hsW
  have c0 : W.cell? ⟨g, 0, none⟩ = some (.int .i64 op) := HB.out.cell 0
  have c1 : W.cell? ⟨g, 1, none⟩ = some (.int .i64 n) := HB.out.cell 1
  have c2 : W.cell? ⟨g, 2, none⟩ = some (.string nm) := HB.out.cell 2
  have c3 : W.cell? ⟨g, 3, none⟩ = some (.string to) := HB.out.cell 3
  have c4 : W.cell? ⟨g, 4, none⟩ = some (.slice B m c) := HB.out.cell 4
  have c5 : W.cell? ⟨g, 5, none⟩ = some (.slice At tl.length ct) := HB.out.cell 5
  clear hP hb hR hm hHg h hsW
  go_enter Try.func30, Try.ntmps30
  go_upto_region 1 with fail
  rw [← hW, ← hg]
  have HG := Shut.mk hg
  clear hg hW
  go_upto_region 4 with fail
  clear hwi hT0' hN0
  have hr : r = 0 ∨ r = 1 ∨ r = 2 ∨ r = 3 ∨ r = 4 ∨ r = 5 ∨ r = 6 ∨ r = 7 ∨ r = 8 ∨ r = 9 ∨ r = 10 ∨ r = 11 := by omega
  clear hr5
  rcases hr with rfl | rfl | rfl | rfl | rfl | rfl | rfl | rfl | rfl | rfl | rfl | rfl
  · skip
    have HCN := Shut.mk (clone_at B c m b W (HBR.out.keep HPR.out.two.below) HM.out hml)
    go_wp2_with fail
    refine HCN.out.mono ?_
    rintro e w1 ⟨v1, rfl, ho1, hb1, hn1⟩
    obtain ⟨A1, k1, hv1, hr1, hk1, hk2, hk3, _⟩ := ho1.form
    subst hv1
    have HO1 := Shut.mk ho1
    have HB1 := Shut.mk hb1
    have HN1 := Shut.mk hn1
    have hT1 := HPR.out.two.fresh hb1 (Z' := (Value.slice A1 m k1).ownBlock.toList) (fun z hz => by
      have hz' : (Value.slice A1 m k1).ownBlock = some z := by simpa using hz
      exact ⟨HN1.out z hz', HO1.out.block_lt hz'⟩)
    have HP1 := Shut.mk (HPR.out.of_two (d' := d) hT1)
    have HBG := Shut.mk (HB.out.below hb1 HB.out.lt)
    obtain ⟨n1, E, d1, T1, hA1, hX1⟩ := both_append HP1.out hN nm A1 B m k1 c b hnm (rdB_at ho1) HM.out hk1 hml hmc
    have HA1 := Shut.mk hA1
    have HX1 := Shut.mk hX1
    have e2 : w1.cell? ⟨g, 2, none⟩ = some (.string nm) := HBG.out.cell 2
    have e4 : w1.cell? ⟨g, 4, none⟩ = some (.slice B m c) := HBG.out.cell 4
    have hgz : ∀ (w9 : World) (d9 : Ds) (T9 : List Fl) (r9 s9 f9 : Int), Two w0 w9 gd gx d9 T9 r9 s9 f9 ((Value.slice A1 m k1).ownBlock.toList ++ g :: Z) (fun z => w1.heap[z]?) → Blk w9 g 49 #[.int .i64 op, .int .i64 n, .string nm, .string to, .slice B m c, .slice At tl.length ct] ∧ Own w9 5 1 (.slice A1 m k1) m (bys b) := fun w9 d9 T9 r9 s9 f9 h9 => by
      refine ⟨((h9.zs g (by simp)).2).trans HBG.out, HO1.out.keep fun z hz => (h9.zs z (by simp [hz])).2⟩
    have HGZ := Shut.mk hgz
    clear ho1 hn1 hT1 hA1 hX1 hr1 hgz hb1
    go_wp2_with fail
    refine HA1.out.mono ?_
    rintro e w2 ⟨rfl, hT2⟩
    have f2 : w2.cell? ⟨g, 2, none⟩ = some (.string nm) := (HGZ.out _ _ _ _ _ _ hT2).1.cell 2
    have f4 : w2.cell? ⟨g, 4, none⟩ = some (.slice B m c) := (HGZ.out _ _ _ _ _ _ hT2).1.cell 4
    have HX2 := Shut.mk (HX1.out w2 hT2 (HBR.out.keep hT2.below))
    clear hT2
    go_wp2_with fail
    refine HX2.out.mono ?_
    rintro e w3 ⟨rfl, hP3⟩
    have HP3 := Shut.mk hP3
    have HO3 := Shut.mk (HGZ.out _ _ _ _ _ _ hP3.two).2
    have HSP := Shut.mk (spoil_calls w3.heap.size A1 m k1 b (w3.alloc (.cells #[.slice A1 m k1] 28)) ((Blk.new w3 28 #[.slice A1 m k1]).cell 0) (HO3.out.alloc _) hml)
    clear hP3
    go_wp2_with fail
    refine HSP.out.mono ?_
    rintro e w4 ⟨rfl, hk4⟩
    have hq := HP3.out.quiet (w' := w3.alloc (.cells #[.slice A1 m k1] 28)) ((Below.refl _ w3).alloc (Nat.le_refl _) _)
    have hown : ∀ z, z ∈ (A1.map (·.block)).toList → (Value.slice A1 m k1).ownBlock = some z := fun z hz => by rw [hk3]; simpa using hz
    have hgA : ∀ z ∈ g :: Z, z ∉ (A1.map (·.block)).toList := fun z hz hc => by
      have h1 := HN1.out z (hown z hc)
      rcases List.mem_cons.1 hz with rfl | hz
      · have := HB.out.lt
        omega
      · have := (HPR.out.two.zs z (by simp [hz])).1
        omega
    have h4 := hq.two.kb hk4 (fun x hx => ⟨by simp [hown x hx], by
      have h1 := HN1.out x (hown x hx)
      have h2 := HPR.out.two.below.size
      omega⟩) (Z' := g :: Z) (fun z hz => ⟨by simp at hz; simp [hz], hgA z hz⟩)
    have h5 : Pr w0 w4 gd gx d1 T1 (N + 1) (g :: Z) Hg := hq.of_two (d' := d1) ⟨h4.go, h4.below, fun z hz => ⟨(h4.zs z hz).1, (h4.zs z hz).2.trans (by
      have h8 := (HPR.out.two.zs z hz).2
      have h9 := (HP1.out.two.zs z (by simp at hz; simp [hz])).2
      rw [← h8]
      exact (HB1.out.block z (HPR.out.two.zs z hz).1))⟩⟩
    have HF := Shut.mk (HLESS.out _ _ _ h5)
    have hnn : ((n1 : Int) == (n1 : Int)) = true := by simp
    have hee : (E == E) = true := by simp
    clear hq h4 h5 hgA hown hk4
    go_wp2_with fail
    go_ret
    exact ⟨rfl, _, _, HF.out⟩
  · skip
    have HCN := Shut.mk (clone_at B c m b W (HBR.out.keep HPR.out.two.below) HM.out hml)
    go_wp2_with fail
    refine HCN.out.mono ?_
    rintro e w1 ⟨v1, rfl, ho1, hb1, hn1⟩
    obtain ⟨A1, k1, hv1, hr1, hk1, hk2, hk3, _⟩ := ho1.form
    subst hv1
    have HO1 := Shut.mk ho1
    have HB1 := Shut.mk hb1
    have HN1 := Shut.mk hn1
    have hT1 := HPR.out.two.fresh hb1 (Z' := (Value.slice A1 m k1).ownBlock.toList) (fun z hz => by
      have hz' : (Value.slice A1 m k1).ownBlock = some z := by simpa using hz
      exact ⟨HN1.out z hz', HO1.out.block_lt hz'⟩)
    have HP1 := Shut.mk (HPR.out.of_two (d' := d) hT1)
    have HBG := Shut.mk (HB.out.below hb1 HB.out.lt)
    obtain ⟨n1, E, d1, T1, hA1, hX1⟩ := both_append HP1.out hN nm A1 B m k1 c b hnm (rdB_at ho1) HM.out hk1 hml hmc
    have HA1 := Shut.mk hA1
    have HX1 := Shut.mk hX1
    have e2 : w1.cell? ⟨g, 2, none⟩ = some (.string nm) := HBG.out.cell 2
    have e4 : w1.cell? ⟨g, 4, none⟩ = some (.slice B m c) := HBG.out.cell 4
    have hgz : ∀ (w9 : World) (d9 : Ds) (T9 : List Fl) (r9 s9 f9 : Int), Two w0 w9 gd gx d9 T9 r9 s9 f9 ((Value.slice A1 m k1).ownBlock.toList ++ g :: Z) (fun z => w1.heap[z]?) → Blk w9 g 49 #[.int .i64 op, .int .i64 n, .string nm, .string to, .slice B m c, .slice At tl.length ct] ∧ Own w9 5 1 (.slice A1 m k1) m (bys b) := fun w9 d9 T9 r9 s9 f9 h9 => by
      refine ⟨((h9.zs g (by simp)).2).trans HBG.out, HO1.out.keep fun z hz => (h9.zs z (by simp [hz])).2⟩
    have HGZ := Shut.mk hgz
    clear ho1 hn1 hT1 hA1 hX1 hr1 hgz hb1
    go_wp2_with fail
    refine HA1.out.mono ?_
    rintro e w2 ⟨rfl, hT2⟩
    have f2 : w2.cell? ⟨g, 2, none⟩ = some (.string nm) := (HGZ.out _ _ _ _ _ _ hT2).1.cell 2
    have f4 : w2.cell? ⟨g, 4, none⟩ = some (.slice B m c) := (HGZ.out _ _ _ _ _ _ hT2).1.cell 4
    have HX2 := Shut.mk (HX1.out w2 hT2 (HBR.out.keep hT2.below))
    clear hT2
    go_wp2_with fail
    refine HX2.out.mono ?_
    rintro e w3 ⟨rfl, hP3⟩
    have HP3 := Shut.mk hP3
    have HO3 := Shut.mk (HGZ.out _ _ _ _ _ _ hP3.two).2
    have HSP := Shut.mk (spoil_calls w3.heap.size A1 m k1 b (w3.alloc (.cells #[.slice A1 m k1] 28)) ((Blk.new w3 28 #[.slice A1 m k1]).cell 0) (HO3.out.alloc _) hml)
    clear hP3
    go_wp2_with fail
    refine HSP.out.mono ?_
    rintro e w4 ⟨rfl, hk4⟩
    have hq := HP3.out.quiet (w' := w3.alloc (.cells #[.slice A1 m k1] 28)) ((Below.refl _ w3).alloc (Nat.le_refl _) _)
    have hown : ∀ z, z ∈ (A1.map (·.block)).toList → (Value.slice A1 m k1).ownBlock = some z := fun z hz => by rw [hk3]; simpa using hz
    have hgA : ∀ z ∈ g :: Z, z ∉ (A1.map (·.block)).toList := fun z hz hc => by
      have h1 := HN1.out z (hown z hc)
      rcases List.mem_cons.1 hz with rfl | hz
      · have := HB.out.lt
        omega
      · have := (HPR.out.two.zs z (by simp [hz])).1
        omega
    have h4 := hq.two.kb hk4 (fun x hx => ⟨by simp [hown x hx], by
      have h1 := HN1.out x (hown x hx)
      have h2 := HPR.out.two.below.size
      omega⟩) (Z' := g :: Z) (fun z hz => ⟨by simp at hz; simp [hz], hgA z hz⟩)
    have h5 : Pr w0 w4 gd gx d1 T1 (N + 1) (g :: Z) Hg := hq.of_two (d' := d1) ⟨h4.go, h4.below, fun z hz => ⟨(h4.zs z hz).1, (h4.zs z hz).2.trans (by
      have h8 := (HPR.out.two.zs z hz).2
      have h9 := (HP1.out.two.zs z (by simp at hz; simp [hz])).2
      rw [← h8]
      exact (HB1.out.block z (HPR.out.two.zs z hz).1))⟩⟩
    have HF := Shut.mk (HLESS.out _ _ _ h5)
    have hnn : ((n1 : Int) == (n1 : Int)) = true := by simp
    have hee : (E == E) = true := by simp
    clear hq h4 h5 hgA hown hk4
    go_wp2_with fail
    go_ret
    exact ⟨rfl, _, _, HF.out⟩
  · skip
    have HCN := Shut.mk (clone_at B c m b W (HBR.out.keep HPR.out.two.below) HM.out hml)
    go_wp2_with fail
    refine HCN.out.mono ?_
    rintro e w1 ⟨v1, rfl, ho1, hb1, hn1⟩
    obtain ⟨A1, k1, hv1, hr1, hk1, hk2, hk3, _⟩ := ho1.form
    subst hv1
    have HO1 := Shut.mk ho1
    have HB1 := Shut.mk hb1
    have HN1 := Shut.mk hn1
    have hT1 := HPR.out.two.fresh hb1 (Z' := (Value.slice A1 m k1).ownBlock.toList) (fun z hz => by
      have hz' : (Value.slice A1 m k1).ownBlock = some z := by simpa using hz
      exact ⟨HN1.out z hz', HO1.out.block_lt hz'⟩)
    have HP1 := Shut.mk (HPR.out.of_two (d' := d) hT1)
    have HBG := Shut.mk (HB.out.below hb1 HB.out.lt)
    obtain ⟨n1, E, d1, T1, hA1, hX1⟩ := both_append HP1.out hN nm A1 B m k1 c b hnm (rdB_at ho1) HM.out hk1 hml hmc
    have HA1 := Shut.mk hA1
    have HX1 := Shut.mk hX1
    have e2 : w1.cell? ⟨g, 2, none⟩ = some (.string nm) := HBG.out.cell 2
    have e4 : w1.cell? ⟨g, 4, none⟩ = some (.slice B m c) := HBG.out.cell 4
    have hgz : ∀ (w9 : World) (d9 : Ds) (T9 : List Fl) (r9 s9 f9 : Int), Two w0 w9 gd gx d9 T9 r9 s9 f9 ((Value.slice A1 m k1).ownBlock.toList ++ g :: Z) (fun z => w1.heap[z]?) → Blk w9 g 49 #[.int .i64 op, .int .i64 n, .string nm, .string to, .slice B m c, .slice At tl.length ct] ∧ Own w9 5 1 (.slice A1 m k1) m (bys b) := fun w9 d9 T9 r9 s9 f9 h9 => by
      refine ⟨((h9.zs g (by simp)).2).trans HBG.out, HO1.out.keep fun z hz => (h9.zs z (by simp [hz])).2⟩
    have HGZ := Shut.mk hgz
    clear ho1 hn1 hT1 hA1 hX1 hr1 hgz hb1
    go_wp2_with fail
    refine HA1.out.mono ?_
    rintro e w2 ⟨rfl, hT2⟩
    have f2 : w2.cell? ⟨g, 2, none⟩ = some (.string nm) := (HGZ.out _ _ _ _ _ _ hT2).1.cell 2
    have f4 : w2.cell? ⟨g, 4, none⟩ = some (.slice B m c) := (HGZ.out _ _ _ _ _ _ hT2).1.cell 4
    have HX2 := Shut.mk (HX1.out w2 hT2 (HBR.out.keep hT2.below))
    clear hT2
    go_wp2_with fail
    refine HX2.out.mono ?_
    rintro e w3 ⟨rfl, hP3⟩
    have HP3 := Shut.mk hP3
    have HO3 := Shut.mk (HGZ.out _ _ _ _ _ _ hP3.two).2
    have HSP := Shut.mk (spoil_calls w3.heap.size A1 m k1 b (w3.alloc (.cells #[.slice A1 m k1] 28)) ((Blk.new w3 28 #[.slice A1 m k1]).cell 0) (HO3.out.alloc _) hml)
    clear hP3
    go_wp2_with fail
    refine HSP.out.mono ?_
    rintro e w4 ⟨rfl, hk4⟩
    have hq := HP3.out.quiet (w' := w3.alloc (.cells #[.slice A1 m k1] 28)) ((Below.refl _ w3).alloc (Nat.le_refl _) _)
    have hown : ∀ z, z ∈ (A1.map (·.block)).toList → (Value.slice A1 m k1).ownBlock = some z := fun z hz => by rw [hk3]; simpa using hz
    have hgA : ∀ z ∈ g :: Z, z ∉ (A1.map (·.block)).toList := fun z hz hc => by
      have h1 := HN1.out z (hown z hc)
      rcases List.mem_cons.1 hz with rfl | hz
      · have := HB.out.lt
        omega
      · have := (HPR.out.two.zs z (by simp [hz])).1
        omega
    have h4 := hq.two.kb hk4 (fun x hx => ⟨by simp [hown x hx], by
      have h1 := HN1.out x (hown x hx)
      have h2 := HPR.out.two.below.size
      omega⟩) (Z' := g :: Z) (fun z hz => ⟨by simp at hz; simp [hz], hgA z hz⟩)
    have h5 : Pr w0 w4 gd gx d1 T1 (N + 1) (g :: Z) Hg := hq.of_two (d' := d1) ⟨h4.go, h4.below, fun z hz => ⟨(h4.zs z hz).1, (h4.zs z hz).2.trans (by
      have h8 := (HPR.out.two.zs z hz).2
      have h9 := (HP1.out.two.zs z (by simp at hz; simp [hz])).2
      rw [← h8]
      exact (HB1.out.block z (HPR.out.two.zs z hz).1))⟩⟩
    have HF := Shut.mk (HLESS.out _ _ _ h5)
    have hnn : ((n1 : Int) == (n1 : Int)) = true := by simp
    have hee : (E == E) = true := by simp
    clear hq h4 h5 hgA hown hk4
    go_wp2_with fail
    go_ret
    exact ⟨rfl, _, _, HF.out⟩
  · skip
    have HCN := Shut.mk (clone_at B c m b W (HBR.out.keep HPR.out.two.below) HM.out hml)
    go_wp2_with fail
    refine HCN.out.mono ?_
    rintro e w1 ⟨v1, rfl, ho1, hb1, hn1⟩
    obtain ⟨A1, k1, hv1, hr1, hk1, hk2, hk3, _⟩ := ho1.form
    subst hv1
    have HO1 := Shut.mk ho1
    have HB1 := Shut.mk hb1
    have HN1 := Shut.mk hn1
    have hT1 := HPR.out.two.fresh hb1 (Z' := (Value.slice A1 m k1).ownBlock.toList) (fun z hz => by
      have hz' : (Value.slice A1 m k1).ownBlock = some z := by simpa using hz
      exact ⟨HN1.out z hz', HO1.out.block_lt hz'⟩)
    have HP1 := Shut.mk (HPR.out.of_two (d' := d) hT1)
    have HBG := Shut.mk (HB.out.below hb1 HB.out.lt)
    obtain ⟨n1, E, d1, T1, hA1, hX1⟩ := both_append HP1.out hN nm A1 B m k1 c b hnm (rdB_at ho1) HM.out hk1 hml hmc
    have HA1 := Shut.mk hA1
    have HX1 := Shut.mk hX1
    have e2 : w1.cell? ⟨g, 2, none⟩ = some (.string nm) := HBG.out.cell 2
    have e4 : w1.cell? ⟨g, 4, none⟩ = some (.slice B m c) := HBG.out.cell 4
    have hgz : ∀ (w9 : World) (d9 : Ds) (T9 : List Fl) (r9 s9 f9 : Int), Two w0 w9 gd gx d9 T9 r9 s9 f9 ((Value.slice A1 m k1).ownBlock.toList ++ g :: Z) (fun z => w1.heap[z]?) → Blk w9 g 49 #[.int .i64 op, .int .i64 n, .string nm, .string to, .slice B m c, .slice At tl.length ct] ∧ Own w9 5 1 (.slice A1 m k1) m (bys b) := fun w9 d9 T9 r9 s9 f9 h9 => by
      refine ⟨((h9.zs g (by simp)).2).trans HBG.out, HO1.out.keep fun z hz => (h9.zs z (by simp [hz])).2⟩
    have HGZ := Shut.mk hgz
    clear ho1 hn1 hT1 hA1 hX1 hr1 hgz hb1
    go_wp2_with fail
    refine HA1.out.mono ?_
    rintro e w2 ⟨rfl, hT2⟩
    have f2 : w2.cell? ⟨g, 2, none⟩ = some (.string nm) := (HGZ.out _ _ _ _ _ _ hT2).1.cell 2
    have f4 : w2.cell? ⟨g, 4, none⟩ = some (.slice B m c) := (HGZ.out _ _ _ _ _ _ hT2).1.cell 4
    have HX2 := Shut.mk (HX1.out w2 hT2 (HBR.out.keep hT2.below))
    clear hT2
    go_wp2_with fail
    refine HX2.out.mono ?_
    rintro e w3 ⟨rfl, hP3⟩
    have HP3 := Shut.mk hP3
    have HO3 := Shut.mk (HGZ.out _ _ _ _ _ _ hP3.two).2
    have HSP := Shut.mk (spoil_calls w3.heap.size A1 m k1 b (w3.alloc (.cells #[.slice A1 m k1] 28)) ((Blk.new w3 28 #[.slice A1 m k1]).cell 0) (HO3.out.alloc _) hml)
    clear hP3
    go_wp2_with fail
    refine HSP.out.mono ?_
    rintro e w4 ⟨rfl, hk4⟩
    have hq := HP3.out.quiet (w' := w3.alloc (.cells #[.slice A1 m k1] 28)) ((Below.refl _ w3).alloc (Nat.le_refl _) _)
    have hown : ∀ z, z ∈ (A1.map (·.block)).toList → (Value.slice A1 m k1).ownBlock = some z := fun z hz => by rw [hk3]; simpa using hz
    have hgA : ∀ z ∈ g :: Z, z ∉ (A1.map (·.block)).toList := fun z hz hc => by
      have h1 := HN1.out z (hown z hc)
      rcases List.mem_cons.1 hz with rfl | hz
      · have := HB.out.lt
        omega
      · have := (HPR.out.two.zs z (by simp [hz])).1
        omega
    have h4 := hq.two.kb hk4 (fun x hx => ⟨by simp [hown x hx], by
      have h1 := HN1.out x (hown x hx)
      have h2 := HPR.out.two.below.size
      omega⟩) (Z' := g :: Z) (fun z hz => ⟨by simp at hz; simp [hz], hgA z hz⟩)
    have h5 : Pr w0 w4 gd gx d1 T1 (N + 1) (g :: Z) Hg := hq.of_two (d' := d1) ⟨h4.go, h4.below, fun z hz => ⟨(h4.zs z hz).1, (h4.zs z hz).2.trans (by
      have h8 := (HPR.out.two.zs z hz).2
      have h9 := (HP1.out.two.zs z (by simp at hz; simp [hz])).2
      rw [← h8]
      exact (HB1.out.block z (HPR.out.two.zs z hz).1))⟩⟩
    have HF := Shut.mk (HLESS.out _ _ _ h5)
    have hnn : ((n1 : Int) == (n1 : Int)) = true := by simp
    have hee : (E == E) = true := by simp
    clear hq h4 h5 hgA hown hk4
    go_wp2_with fail
    go_ret
    exact ⟨rfl, _, _, HF.out⟩
  · have hPD := HPR.out.quiet (w' := W.drew) ⟨rfl, rfl, rfl, Nat.le_refl _, fun _ _ => rfl⟩
    obtain ⟨E, d1, T1, hB1, hB2⟩ := both_sync hPD hN nm hnm
    have HP1 := Shut.mk hB1
    have HX1 := Shut.mk hB2
    clear hPD hB1 hB2
    go_wp2_with fail
    go_region_held3 (fun w' => w'.cell? ⟨g, 2, none⟩ = some (.string nm))
      (first | exact c2 | exact e2 | exact f2 | go_keep)
      (first
        | (go_at_call 18
           refine HP1.out.mono ?_
           rintro e w2 ⟨rfl, hT2⟩
           have hblk := HCL.out _ _ _ _ _ _ hT2
           have e2 : w2.cell? ⟨g, 2, none⟩ = some (.string nm) := hblk.cell 2
           have HT2 := Shut.mk hT2
           have HX2 := Shut.mk (HX1.out w2 hT2)
           clear hT2 hblk)
        | (go_at_call 41
           refine HX2.out.mono ?_
           rintro e w3 ⟨rfl, hT3⟩
           have hblk := HCL.out _ _ _ _ _ _ hT3.two
           have f2 : w3.cell? ⟨g, 2, none⟩ = some (.string nm) := hblk.cell 2
           have HT3 := Shut.mk (HLESS.out _ _ _ hT3)
           clear hT3 hblk))
    go_wp2_with fail
    go_ret
    exact ⟨rfl, _, _, HT3.out⟩
  · have hPD := HPR.out.quiet (w' := W.drew) ⟨rfl, rfl, rfl, Nat.le_refl _, fun _ _ => rfl⟩
    obtain ⟨E, d1, T1, hB1, hB2⟩ := both_cut hPD hN nm n hnm
    have HP1 := Shut.mk hB1
    have HX1 := Shut.mk hB2
    clear hPD hB1 hB2
    go_wp2_with fail
    go_region_held3 (fun w' => w'.cell? ⟨g, 1, none⟩ = some (.int .i64 n) ∧ w'.cell? ⟨g, 2, none⟩ = some (.string nm))
      (first | exact ⟨c1, c2⟩ | exact ⟨e1, e2⟩ | exact ⟨f1, f2⟩ | go_keep)
      (first
        | (go_at_call 24
           refine HP1.out.mono ?_
           rintro e w2 ⟨rfl, hT2⟩
           have hblk := HCL.out _ _ _ _ _ _ hT2
           have e1 : w2.cell? ⟨g, 1, none⟩ = some (.int .i64 n) := hblk.cell 1
           have e2 : w2.cell? ⟨g, 2, none⟩ = some (.string nm) := hblk.cell 2
           have HT2 := Shut.mk hT2
           have HX2 := Shut.mk (HX1.out w2 hT2)
           clear hT2 hblk)
        | (go_at_call 42
           refine HX2.out.mono ?_
           rintro e w3 ⟨rfl, hT3⟩
           have hblk := HCL.out _ _ _ _ _ _ hT3.two
           have f1 : w3.cell? ⟨g, 1, none⟩ = some (.int .i64 n) := hblk.cell 1
           have f2 : w3.cell? ⟨g, 2, none⟩ = some (.string nm) := hblk.cell 2
           have HT3 := Shut.mk (HLESS.out _ _ _ hT3)
           clear hT3 hblk))
    go_wp2_with fail
    go_ret
    exact ⟨rfl, _, _, HT3.out⟩
  · have hPD := HPR.out.quiet (w' := W.drew) ⟨rfl, rfl, rfl, Nat.le_refl _, fun _ _ => rfl⟩
    obtain ⟨E, d1, T1, hB1, hB2⟩ := both_rename hPD hN nm to hnm hto
    have HP1 := Shut.mk hB1
    have HX1 := Shut.mk hB2
    clear hPD hB1 hB2
    go_wp2_with fail
    go_region_held3 (fun w' => w'.cell? ⟨g, 2, none⟩ = some (.string nm) ∧ w'.cell? ⟨g, 3, none⟩ = some (.string to))
      (first | exact ⟨c2, c3⟩ | exact ⟨e2, e3⟩ | exact ⟨f2, f3⟩ | go_keep)
      (first
        | (go_at_call 23
           refine HP1.out.mono ?_
           rintro e w2 ⟨rfl, hT2⟩
           have hblk := HCL.out _ _ _ _ _ _ hT2
           have e2 : w2.cell? ⟨g, 2, none⟩ = some (.string nm) := hblk.cell 2
           have e3 : w2.cell? ⟨g, 3, none⟩ = some (.string to) := hblk.cell 3
           have HT2 := Shut.mk hT2
           have HX2 := Shut.mk (HX1.out w2 hT2)
           clear hT2 hblk)
        | (go_at_call 43
           refine HX2.out.mono ?_
           rintro e w3 ⟨rfl, hT3⟩
           have hblk := HCL.out _ _ _ _ _ _ hT3.two
           have f2 : w3.cell? ⟨g, 2, none⟩ = some (.string nm) := hblk.cell 2
           have f3 : w3.cell? ⟨g, 3, none⟩ = some (.string to) := hblk.cell 3
           have HT3 := Shut.mk (HLESS.out _ _ _ hT3)
           clear hT3 hblk))
    go_wp2_with fail
    go_ret
    exact ⟨rfl, _, _, HT3.out⟩
  · have hPD := HPR.out.quiet (w' := W.drew) ⟨rfl, rfl, rfl, Nat.le_refl _, fun _ _ => rfl⟩
    obtain ⟨E, d1, T1, hB1, hB2⟩ := both_remove hPD hN nm hnm
    have HP1 := Shut.mk hB1
    have HX1 := Shut.mk hB2
    clear hPD hB1 hB2
    go_wp2_with fail
    go_region_held3 (fun w' => w'.cell? ⟨g, 2, none⟩ = some (.string nm))
      (first | exact c2 | exact e2 | exact f2 | go_keep)
      (first
        | (go_at_call 22
           refine HP1.out.mono ?_
           rintro e w2 ⟨rfl, hT2⟩
           have hblk := HCL.out _ _ _ _ _ _ hT2
           have e2 : w2.cell? ⟨g, 2, none⟩ = some (.string nm) := hblk.cell 2
           have HT2 := Shut.mk hT2
           have HX2 := Shut.mk (HX1.out w2 hT2)
           clear hT2 hblk)
        | (go_at_call 44
           refine HX2.out.mono ?_
           rintro e w3 ⟨rfl, hT3⟩
           have hblk := HCL.out _ _ _ _ _ _ hT3.two
           have f2 : w3.cell? ⟨g, 2, none⟩ = some (.string nm) := hblk.cell 2
           have HT3 := Shut.mk (HLESS.out _ _ _ hT3)
           clear hT3 hblk))
    go_wp2_with fail
    go_ret
    exact ⟨rfl, _, _, HT3.out⟩
  · have hPD := HPR.out.quiet (w' := W.drew) ⟨rfl, rfl, rfl, Nat.le_refl _, fun _ _ => rfl⟩
    obtain ⟨E, d1, T1, hB1, hB2⟩ := both_short hPD n hn2
    have HP1 := Shut.mk hB1
    have HX1 := Shut.mk hB2
    clear hPD hB1 hB2
    go_wp2_with fail
    go_region_held3 (fun w' => w'.cell? ⟨g, 1, none⟩ = some (.int .i64 n))
      (first | exact c1 | exact e1 | exact f1 | go_keep)
      (first
        | (go_at_call 14
           refine HP1.out.mono ?_
           rintro e w2 ⟨rfl, hT2⟩
           have hblk := HCL.out _ _ _ _ _ _ hT2
           have e1 : w2.cell? ⟨g, 1, none⟩ = some (.int .i64 n) := hblk.cell 1
           have HT2 := Shut.mk hT2
           have HX2 := Shut.mk (HX1.out w2 hT2)
           clear hT2 hblk)
        | (go_at_call 45
           refine HX2.out.mono ?_
           rintro e w3 ⟨rfl, hT3⟩
           have hblk := HCL.out _ _ _ _ _ _ hT3.two
           have f1 : w3.cell? ⟨g, 1, none⟩ = some (.int .i64 n) := hblk.cell 1
           have HT3 := Shut.mk (HLESS.out _ _ _ hT3)
           clear hT3 hblk))
    go_wp2_with fail
    go_ret
    exact ⟨rfl, _, _, HT3.out⟩
  · have hPD := HPR.out.quiet (w' := W.drew) ⟨rfl, rfl, rfl, Nat.le_refl _, fun _ _ => rfl⟩
    obtain ⟨E, d1, T1, hB1, hB2⟩ := both_room hPD n
    have HP1 := Shut.mk hB1
    have HX1 := Shut.mk hB2
    clear hPD hB1 hB2
    go_wp2_with fail
    go_region_held3 (fun w' => w'.cell? ⟨g, 1, none⟩ = some (.int .i64 n))
      (first | exact c1 | exact e1 | exact f1 | go_keep)
      (first
        | (go_at_call 13
           refine HP1.out.mono ?_
           rintro e w2 ⟨rfl, hT2⟩
           have hblk := HCL.out _ _ _ _ _ _ hT2
           have e1 : w2.cell? ⟨g, 1, none⟩ = some (.int .i64 n) := hblk.cell 1
           have HT2 := Shut.mk hT2
           have HX2 := Shut.mk (HX1.out w2 hT2)
           clear hT2 hblk)
        | (go_at_call 46
           refine HX2.out.mono ?_
           rintro e w3 ⟨rfl, hT3⟩
           have hblk := HCL.out _ _ _ _ _ _ hT3.two
           have f1 : w3.cell? ⟨g, 1, none⟩ = some (.int .i64 n) := hblk.cell 1
           have HT3 := Shut.mk (HLESS.out _ _ _ hT3)
           clear hT3 hblk))
    go_wp2_with fail
    go_ret
    exact ⟨rfl, _, _, HT3.out⟩
  · have hPD := HPR.out.quiet (w' := W.drew) ⟨rfl, rfl, rfl, Nat.le_refl _, fun _ _ => rfl⟩
    obtain ⟨E, d1, T1, hB1, hB2⟩ := both_fuse hPD n hn2
    have HP1 := Shut.mk hB1
    have HX1 := Shut.mk hB2
    clear hPD hB1 hB2
    go_wp2_with fail
    go_region_held3 (fun w' => w'.cell? ⟨g, 1, none⟩ = some (.int .i64 n))
      (first | exact c1 | exact e1 | exact f1 | go_keep)
      (first
        | (go_at_call 21
           refine HP1.out.mono ?_
           rintro e w2 ⟨rfl, hT2⟩
           have hblk := HCL.out _ _ _ _ _ _ hT2
           have e1 : w2.cell? ⟨g, 1, none⟩ = some (.int .i64 n) := hblk.cell 1
           have HT2 := Shut.mk hT2
           have HX2 := Shut.mk (HX1.out w2 hT2)
           clear hT2 hblk)
        | (go_at_call 47
           refine HX2.out.mono ?_
           rintro e w3 ⟨rfl, hT3⟩
           have hblk := HCL.out _ _ _ _ _ _ hT3.two
           have f1 : w3.cell? ⟨g, 1, none⟩ = some (.int .i64 n) := hblk.cell 1
           have HT3 := Shut.mk (HLESS.out _ _ _ hT3)
           clear hT3 hblk))
    go_wp2_with fail
    go_ret
    exact ⟨rfl, _, _, HT3.out⟩
  · obtain ⟨d1, T1, hX1, hP1⟩ := both_crash HPR.out hN At ct tl hlen HTR.out hA
    have HX1 := Shut.mk hX1
    have HP1 := Shut.mk hP1
    clear hX1 hP1
    go_wp2_with fail
    refine HX1.out.mono ?_
    rintro e w2 ⟨rfl, hT2⟩
    have f5 : w2.cell? ⟨g, 5, none⟩ = some (.slice At tl.length ct) := (HCL.out _ _ _ _ _ _ hT2).cell 5
    have HP2 := Shut.mk (HP1.out w2 hT2)
    clear hT2
    go_wp2_with fail
    refine HP2.out.mono ?_
    rintro e w3 ⟨rfl, hP3⟩
    have HF := Shut.mk (HLESS.out _ _ _ hP3)
    clear hP3
    go_wp2_with fail
    go_ret
    exact ⟨rfl, _, _, HF.out⟩
end
end Go.Proofs.Ytjmaimpfplojpaa
