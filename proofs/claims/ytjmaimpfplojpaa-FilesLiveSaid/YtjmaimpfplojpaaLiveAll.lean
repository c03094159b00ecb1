/- Copies of both disks, that stand beside. Walk: the law FilesLive answers true. Opening a law's argument that is a list of steps, with all that they hold; the law FilesLive over it. -/
import Derived.Test.YtjmaimpfplojpaaSteps
import Derived.Test.YtjmaimpfplojpaaCopy
import Derived.Test.YtjmaimpfplojpaaRdP
import Derived.Test.YtjmaimpfplojpaaStepArg
namespace Go.Proofs.Ytjmaimpfplojpaa
open Go.RowKit Go.Maps
set_option linter.unusedSimpArgs false
set_option linter.unusedVariables false
set_option maxRecDepth 100000

theorem dd_copy {w : World} {gd : Nat} {F : List Nat} {d : Ds} (h : DD w gd F d) (hl : d.S.length < 900000) :
    Calls Try.prog 27 #[gp gd] w fun e w' => ∃ gc F' d', e = .returned (gp gc) ∧ DD w' gc F' d' ∧ d'.S.Perm d.S ∧ d'.n < 900000 ∧ Below w.heap.size w w' ∧ ∀ x ∈ F', w.heap.size ≤ x ∧ x < w'.heap.size := by
  obtain ⟨gm, es, hD, hS, hF⟩ := h
  have hel : es.length < 900000 := by
    have := congrArg List.length hS
    unfold fls at this
    rw [List.length_map] at this
    omega
  refine (copy_calls hD hel).mono ?_
  rintro e w' ⟨gc, gcm, m, cs, rfl, hC, hp, hb, hf, hm⟩
  refine ⟨gc, foot gc gcm cs, ⟨fls cs, m, d.room, d.short, d.fuse⟩, rfl, ⟨gcm, cs, hC, rfl, fun x hx => hx⟩, by rw [← hS]; exact hp, (show m < 900000 by omega), hb, fun x hx => ⟨hf x hx, hC.lt hx⟩⟩
theorem rd_copy {w : World} {gx : Nat} {G : List Nat} {T : List Fl} {room short fuse : Int} (h : NRd w gx G T room short fuse) (ht : TOk T) :
    Calls Try.prog 29 #[gq gx] w fun e w' => ∃ gy G', e = .returned (gq gy) ∧ NRd w' gy G' T room short fuse ∧ Below w.heap.size w w' ∧ ∀ x ∈ G', w.heap.size ≤ x ∧ x < w'.heap.size := by
  obtain ⟨v, R, hR, rfl, hG⟩ := h
  have hlen : R.length < 900000 := by have := ht.len; rwa [List.length_map] at this
  refine (rcopy_calls hR hlen (fun c hc => (ht.lens c.fl (List.mem_map.2 ⟨c, hc, rfl⟩)).2)).mono ?_
  rintro e w' ⟨gc, v', R', rfl, hC, hf, hb, hx⟩
  exact ⟨gc, footD gc v' R', rfl, ⟨v', R', hC, hf, fun x hx => hx⟩, hb, fun x hx' => ⟨hx x hx', hC.lt hx'⟩⟩
/-- both copies, in blocks of Z -/
def Cp (w : World) (gc gy : Nat) (Z : List Nat) : Prop :=
  ∃ Fc Gc dc Tc r s f, DD w gc Fc dc ∧ NRd w gy Gc Tc r s f ∧ Same dc Tc ∧ dc.n < 900000 ∧ (∀ x ∈ Tc, x.1.length ≤ 32) ∧ (∀ x ∈ Fc, x ∈ Z) ∧ ∀ x ∈ Gc, x ∈ Z
theorem Cp.below {w w' : World} {gc gy : Nat} {Z : List Nat} (h : Cp w gc gy Z) (hb : Below w.heap.size w w') : Cp w' gc gy Z := by
  obtain ⟨Fc, Gc, dc, Tc, r, s, f, h1, h2, h3⟩ := h
  exact ⟨Fc, Gc, dc, Tc, r, s, f, Dsk.below h1 hb, h2.below hb, h3⟩
open Classical in
theorem kb_of_same {w0 w w' : World} (hb : Below w0.heap.size w0 w) (hb' : Below w0.heap.size w0 w') (hs : w.heap.size ≤ w'.heap.size) : Kb w w' ((List.range w.heap.size).filter fun b => !decide (w'.heap[b]? = w.heap[b]?)) := by
  refine ⟨hb'.os.trans hb.os.symm, hb'.tape.trans hb.tape.symm, hb'.output.trans hb.output.symm, hs, fun b hlt hn => ?_⟩
  by_cases h : w'.heap[b]? = w.heap[b]?
  · exact h
  · exact absurd (List.mem_filter.2 ⟨List.mem_range.2 hlt, by simp [h]⟩) hn
theorem Cp.move {w0 w w' : World} {gc gy : Nat} {Z : List Nat} (h : Cp w gc gy Z) (hb : Below w0.heap.size w0 w) (hb' : Below w0.heap.size w0 w') (hs : w.heap.size ≤ w'.heap.size) (hz : ∀ z ∈ Z, w'.heap[z]? = w.heap[z]?) : Cp w' gc gy Z := by
  obtain ⟨Fc, Gc, dc, Tc, r, s, f, h1, h2, h3, h4, h5, h6, h7⟩ := h
  have hk := kb_of_same hb hb' hs
  refine ⟨Fc, Gc, dc, Tc, r, s, f, Dsk.kept h1 hk fun x hx e => ?_, h2.kept hk fun x hx e => ?_, h3, h4, h5, h6, h7⟩
  · have := (List.mem_filter.1 e).2
    rw [hz x (h6 x hx)] at this
    simp at this
  · have := (List.mem_filter.1 e).2
    rw [hz x (h7 x hx)] at this
    simp at this
section
variable {w0 w w' : World} {gd gx : Nat} {d : Ds} {T : List Fl} {N : Nat} {Z : List Nat} {H : Nat → Option Obj}
theorem pr_same (h : Pr w0 w gd gx d T N Z H) (hN : N < 700000) : Calls Try.prog 31 #[gp gd, gq gx] w fun e w' => e = .returned (.bool true) ∧ Below w.heap.size w w' := by
  obtain ⟨F, hD, _⟩ := h.two.prog
  obtain ⟨G, hX, _⟩ := h.two.doc
  exact same_calls hD hX (h.same (by omega)) (by have := h.n; omega) h.names
theorem cp_same {gc gy : Nat} (h : Cp w gc gy Z) : Calls Try.prog 31 #[gp gc, gq gy] w fun e w' => e = .returned (.bool true) ∧ Below w.heap.size w w' := by
  obtain ⟨Fc, Gc, dc, Tc, r, s, f, h1, h2, h3, h4, h5, h6, h7⟩ := h
  exact same_calls h1 h2 h3 h4 h5
/-- all new blocks of a call -/
def news (w w' : World) : List Nat := (List.range w'.heap.size).filter fun b => decide (w.heap.size ≤ b)
theorem news_mem {w w' : World} {x : Nat} : x ∈ news w w' ↔ w.heap.size ≤ x ∧ x < w'.heap.size := by
  unfold news
  rw [List.mem_filter, List.mem_range, decide_eq_true_eq]
  exact ⟨fun h => ⟨h.2, h.1⟩, fun h => ⟨h.2, h.1⟩⟩
theorem pr_copy (h : Pr w0 w gd gx d T N Z H) (hN : N < 700000) : Calls Try.prog 27 #[gp gd] w fun e w1 => ∃ gc F' d', e = .returned (gp gc) ∧ DD w1 gc F' d' ∧ Same d' T ∧ d'.n < 900000 ∧ (∀ x ∈ F', x ∈ news w w1) ∧ Below w.heap.size w w1 ∧ Pr w0 w1 gd gx d T N (news w w1 ++ Z) (fun z => w1.heap[z]?) := by
  obtain ⟨F, hD, _⟩ := h.two.prog
  have hS := h.same (by omega)
  refine (dd_copy hD (by rw [h.perm.length_eq]; exact hS.ok.len)).mono ?_
  rintro e w1 ⟨gc, F', d', rfl, h1, h2, h3, h4, h5⟩
  exact ⟨gc, F', d', rfl, h1, ⟨h2.trans hS.perm, hS.ok⟩, h3, fun x hx => news_mem.2 (h5 x hx), h4, h.of_two (d' := d) (h.two.fresh h4 (fun z hz => news_mem.1 hz))⟩
theorem pr_rcopy (h : Pr w0 w gd gx d T N Z H) (hN : N < 700000) : Calls Try.prog 29 #[gq gx] w fun e w1 => ∃ gy G', e = .returned (gq gy) ∧ NRd w1 gy G' T d.room d.short d.fuse ∧ (∀ x ∈ G', x ∈ news w w1) ∧ Below w.heap.size w w1 ∧ Pr w0 w1 gd gx d T N (news w w1 ++ Z) (fun z => w1.heap[z]?) := by
  obtain ⟨G, hX, _⟩ := h.two.doc
  have hS := h.same (by omega)
  refine (rd_copy hX hS.ok).mono ?_
  rintro e w1 ⟨gy, G', rfl, h1, h4, h5⟩
  exact ⟨gy, G', rfl, h1, fun x hx => news_mem.2 (h5 x hx), h4, h.of_two (d' := d) (h.two.fresh h4 (fun z hz => news_mem.1 hz))⟩
end
theorem pr_new (room : Int) (w : World) (h0 : 0 ≤ room) (h1 : room ≤ 1099511627776) :
    Calls Try.prog 10 #[.int .i64 room] w fun e w1 => ∃ gd, e = .returned (.tuple #[gp gd, .int .i64 0]) ∧ Below w.heap.size w w1 ∧
      Calls Try.prog 28 #[.int .i64 room] w1 fun e w2 => ∃ gx, e = .returned (.tuple #[gq gx, .int .i64 0]) ∧ Pr w w2 gd gx ⟨[], 0, room, -1, -1⟩ [] 0 [] (fun _ => none) := by
  refine (dnew_calls room w h0 h1).mono ?_
  rintro e w1 ⟨gd, gm, rfl, hD, hb, hF⟩
  refine ⟨gd, rfl, hb, (rnew_calls room w1 h0 h1).mono ?_⟩
  rintro e w2 ⟨gx, rfl, hX, hb2, hgx⟩
  have hD1 : DD w1 gd (foot gd gm []) ⟨[], 0, room, -1, -1⟩ := ⟨gm, [], hD, rfl, fun x hx => hx⟩
  refine ⟨gx, rfl, ⟨⟨⟨foot gd gm [], [gx], Dsk.below hD1 hb2, ⟨_, [], hX, rfl, fun x hx => by simpa [footD, Value.ownBlock] using hx⟩, fun x hx => ⟨fun e => ?_, hF x hx, by simp⟩, fun x hx => ⟨?_, by simp⟩⟩, hb.trans (hb2.mono hb.size), by simp⟩, List.Perm.refl _, .nil, Nat.le_refl _, Nat.le_refl _, h0, h1, (show (-1 : Int) ≤ -1 by decide), (show (-1 : Int) ≤ 9223372036854775807 by decide), (show (-1 : Int) ≤ -1 by decide), (show (-1 : Int) ≤ 9223372036854775807 by decide), by simp⟩⟩
  · have := hD.lt hx
    rw [List.mem_singleton.1 e] at this
    omega
  · rw [List.mem_singleton.1 hx]
    have := hb.size
    omega
end Go.Proofs.Ytjmaimpfplojpaa

namespace Go.Proofs.Ytjmaimpfplojpaa
open Go.RowKit Go.Maps
set_option linter.unusedSimpArgs false
set_option linter.unusedVariables false
set_option maxRecDepth 100000

theorem dnew_bad (room : Int) (w : World) (h : room < 0 ∨ 1099511627776 < room) :
    Calls Try.prog 10 #[.int .i64 room] w fun e w' => e = .returned (.tuple #[.pointer none, .int .i64 1]) ∧ w = w' := by
  by_cases h0 : room < 0
  · clear h
    go_enter Try.func10, Try.ntmps10
    go_wp2_with fail
    go_ret2
    exact ⟨rfl, rfl⟩
  · have h2 : room > 1099511627776 := by omega
    clear h
    go_enter Try.func10, Try.ntmps10
    go_wp2_with fail
    go_ret2
    exact ⟨rfl, rfl⟩
structure Sx where
  op : Int
  n : Int
  nm : ByteArray
  to : ByteArray
  b : List UInt8
  tl : List Tl
/-- the address holds the steps -/
def RdSx (w : World) (A : Option Addr) (ds : List Sx) : Prop :=
  ∀ k d, ds[k]? = some d → ∃ (ad : Addr) (B At : Option Addr) (c ct : Nat), A = some ad ∧ w.cell? (ad.add (k * 6)) = some (.int .i64 d.op) ∧ w.cell? ⟨(ad.add (k * 6)).block, (ad.add (k * 6)).off + 1, none⟩ = some (.int .i64 d.n) ∧
    w.cell? ⟨(ad.add (k * 6)).block, (ad.add (k * 6)).off + 2, none⟩ = some (.string d.nm) ∧ w.cell? ⟨(ad.add (k * 6)).block, (ad.add (k * 6)).off + 3, none⟩ = some (.string d.to) ∧
    w.cell? ⟨(ad.add (k * 6)).block, (ad.add (k * 6)).off + 4, none⟩ = some (.slice B d.b.length c) ∧ w.cell? ⟨(ad.add (k * 6)).block, (ad.add (k * 6)).off + 5, none⟩ = some (.slice At d.tl.length ct) ∧
    RdB w B d.b ∧ RdT w At d.tl ∧ (∀ a, At = some a → d.tl ≠ [] → a.block < w.heap.size) ∧ -9223372036854775808 ≤ d.n ∧ d.n ≤ 9223372036854775807 ∧ d.nm.size ≤ reach ∧ d.to.size ≤ reach ∧ d.b.length ≤ c ∧ d.b.length ≤ reach ∧ d.tl.length < 9000000000000
theorem cp_more {w : World} {gc gy z : Nat} {Z : List Nat} (h : Cp w gc gy Z) : Cp w gc gy (z :: Z) := by
  obtain ⟨Fc, Gc, dc, Tc, r, s, f, h1, h2, h3, h4, h5, h6, h7⟩ := h
  exact ⟨Fc, Gc, dc, Tc, r, s, f, h1, h2, h3, h4, h5, fun x hx => List.mem_cons_of_mem _ (h6 x hx), fun x hx => List.mem_cons_of_mem _ (h7 x hx)⟩
theorem filesLive_bad (room at_ : Int) (A : Option Addr) (nl cl : Nat) (w : World) (h : room < 0 ∨ 1099511627776 < room) :
    Calls Try.prog 9 #[.int .i64 room, .slice A nl cl, .int .i64 at_] w fun e w' => e = .returned (.bool true) ∧ Below w.heap.size w w' := by
  have H1 := Shut.mk (dnew_bad room w h)
  have H2 := Shut.mk (rnew_bad room w h)
  clear h
  go_enter Try.func9, Try.ntmps9
  go_wp2_with fail
  refine H1.out.mono ?_
  rintro e w' ⟨rfl, rfl⟩
  go_wp2_with fail
  refine H2.out.mono ?_
  rintro e w' ⟨rfl, rfl⟩
  go_wp2_with fail
  go_ret
  exact ⟨rfl, Below.refl _ _⟩
set_option maxHeartbeats 8000000 in
theorem filesLive_run (room at_ : Int) (A : Option Addr) (ds : List Sx) (cl : Nat) (w : World) (hl : RdSx w A ds) (hcl : ds.length ≤ cl) (hcm : cl ≤ maxLen) :
    Calls Try.prog 9 #[.int .i64 room, .slice A ds.length cl, .int .i64 at_] w fun e w' => e = .returned (.bool true) ∧ Below w.heap.size w w' := by
  by_cases hroom : room < 0 ∨ 1099511627776 < room
  · exact filesLive_bad room at_ A _ cl w hroom
  have HL := Shut.mk hl
  unfold maxLen at hcm
  obtain ⟨NL, hNL⟩ : ∃ NL, NL = ds.length := ⟨_, rfl⟩
  rw [← hNL] at hcl ⊢
  have HNL := Shut.mk hNL
  have HNEW := Shut.mk (pr_new room w (by omega) (by omega))
  clear hNL hl hroom
  go_enter Try.func9, Try.ntmps9
  go_wp2_with fail
  refine HNEW.out.mono ?_
  rintro e w1 ⟨gd, rfl, hb1, hX⟩
  have HX := Shut.mk hX
  clear hX hb1 HNEW
  go_wp2_with fail
  refine HX.out.mono ?_
  rintro e w2 ⟨gx, rfl, hP⟩
  have HP := Shut.mk hP
  clear hP HX
  go_wp2_with fail
  go_loopw [11, 12, 52] (fun c y i wr => ∃ (k : Nat) (d : Ds) (T : List Fl) (Z : List Nat) (H : Nat → Option Obj), k ≤ NL ∧ k ≤ 41 ∧ i = .int .i64 k ∧ Pr w wr gd gx d T k Z H ∧
      ((c = .pointer none ∧ y = .pointer none) ∨ ∃ gc gy, c = gp gc ∧ y = gq gy ∧ Cp wr gc gy Z)) (fun _ _ i _ => NL - (intOf i).toNat)
  case atStart => exact ⟨0, _, _, _, _, Nat.zero_le _, by omega, rfl, HP.out, .inl ⟨rfl, rfl⟩⟩
  case round =>
    obtain ⟨k, d, T, Z, H, hk, hk41, rfl, hP, hcp⟩ := hrel
    have HP := Shut.mk hP
    clear hP
    by_cases hlt : k < NL
    · obtain ⟨s, hs⟩ : ∃ s, ds[k]? = some s := ⟨ds[k]'(by rw [← HNL.out]; exact hlt), List.getElem?_eq_getElem _⟩
      obtain ⟨ad, B, At, c1, ct, rfl, a0, a1, a2, a3, a4, a5, hrb, hrt, hta, hn1, hn2, hnm, hto, hbc, hbl, htl⟩ := HL.out k s hs
      have hkI : (k : Int) < (NL : Int) := by omega
      have hbw := HP.out.two.below
      have r0 := (hbw.cell (World.block_lt_of_cell? w _ a0)).trans a0
      have r1 := (hbw.cell (World.block_lt_of_cell? w _ a1)).trans a1
      have r2 := (hbw.cell (World.block_lt_of_cell? w _ a2)).trans a2
      have r3 := (hbw.cell (World.block_lt_of_cell? w _ a3)).trans a3
      have r4 := (hbw.cell (World.block_lt_of_cell? w _ a4)).trans a4
      have r5 := (hbw.cell (World.block_lt_of_cell? w _ a5)).trans a5
      obtain ⟨g, hg⟩ : ∃ g, g = wr.heap.size := ⟨_, rfl⟩
      have HB := Shut.mk (Blk.new wr 49 #[.int .i64 s.op, .int .i64 s.n, .string s.nm, .string s.to, .slice B s.b.length c1, .slice At s.tl.length ct])
      have HPB := Shut.mk (HP.out.of_two (d' := d) (HP.out.two.box (.cells #[.int .i64 s.op, .int .i64 s.n, .string s.nm, .string s.to, .slice B s.b.length c1, .slice At s.tl.length ct] 49)))
      have HBE := Shut.mk (show Below wr.heap.size wr (wr.alloc (.cells #[.int .i64 s.op, .int .i64 s.n, .string s.nm, .string s.to, .slice B s.b.length c1, .slice At s.tl.length ct] 49)) from (Below.refl _ wr).alloc (Nat.le_refl _) _)
      have HSZ := Shut.mk (show (wr.alloc (.cells #[.int .i64 s.op, .int .i64 s.n, .string s.nm, .string s.to, .slice B s.b.length c1, .slice At s.tl.length ct] 49)).heap.size = g + 1 from by rw [hg]; simp)
      have HST := Shut.mk (fun (wx : World) (d : Ds) (T : List Fl) (Z : List Nat) (H : Nat → Option Obj) (h : Pr w wx gd gx d T k Z H) (hN : k < 700000) => steps_calls h hN s.op s.n s.nm s.to B At s.b.length c1 ct s.b s.tl hn1 hn2 hnm hto hrb rfl hbc hbl htl hrt hta)
      clear a0 a1 a2 a3 a4 a5 hrb hrt hta hnm hto hbc hbl htl hbw hs hn1 hn2
      rcases hcp with ⟨rfl, rfl⟩ | ⟨gc, gy, rfl, rfl, hcp⟩
      · by_cases h40 : k ≤ 40
        · have h40I : ¬ (k : Int) > 40 := by omega
          by_cases hat : (k : Int) = at_
          · subst hat
            have HK1 := Shut.mk (pr_copy HPB.out (by omega))
            go_wp2_with fail
            refine HK1.out.mono ?_
            rintro e w3 ⟨gc, Fc, dc, rfl, hDc, hSc, hnc, hFc, hbc, hP3⟩
            have HP3 := Shut.mk hP3
            have HDC := Shut.mk hDc
            have HSCC := Shut.mk hSc
            have HFC := Shut.mk hFc
            have HBC := Shut.mk hbc
            have HK2 := Shut.mk (pr_rcopy hP3 (by omega))
            have HBX3 := Shut.mk ((HB.out.below hbc HB.out.lt))
            clear hDc hSc hFc hbc hP3 HK1
            go_wp2_with fail
            refine HK2.out.mono ?_
            rintro e w4 ⟨gy, Gc, rfl, hXc, hGc, hbd, hP4⟩
            have HP4 := Shut.mk hP4
            have hs3 : w3.heap.size ≤ w4.heap.size := hbd.size
            have HNE := Shut.mk (show w3.heap.size < w4.heap.size from by
              obtain ⟨v9, R9, h9, _, h8⟩ := hXc
              have := news_mem.1 (hGc gy (h8 gy (by simp [footD])))
              omega)
            have HCP := Shut.mk (show Cp w4 gc gy (news w3 w4 ++ (news (wr.alloc (.cells #[.int .i64 s.op, .int .i64 s.n, .string s.nm, .string s.to, .slice B s.b.length c1, .slice At s.tl.length ct] 49)) w3 ++ (wr.heap.size :: Z))) from
              ⟨Fc, Gc, dc, T, _, _, _, Dsk.below HDC.out hbd, hXc, HSCC.out, hnc, HP.out.names, fun x hx => List.mem_append_right _ (List.mem_append_left _ (HFC.out x hx)), fun x hx => List.mem_append_left _ (hGc x hx)⟩)
            have HLAST := Shut.mk (show ∃ z ∈ news w3 w4 ++ (news (wr.alloc (.cells #[.int .i64 s.op, .int .i64 s.n, .string s.nm, .string s.to, .slice B s.b.length c1, .slice At s.tl.length ct] 49)) w3 ++ (wr.heap.size :: Z)), w4.heap.size = z + 1 from
              ⟨w4.heap.size - 1, List.mem_append_left _ (news_mem.2 (by have := HNE.out; omega)), by have := HNE.out; omega⟩)
            have HBX4 := Shut.mk (HBX3.out.below hbd HBX3.out.lt)
            have x0 : w4.cell? ⟨wr.heap.size, 0, none⟩ = some (.int .i64 s.op) := HBX4.out.cell 0
            have x1 : w4.cell? ⟨wr.heap.size, 1, none⟩ = some (.int .i64 s.n) := HBX4.out.cell 1
            have x2 : w4.cell? ⟨wr.heap.size, 2, none⟩ = some (.string s.nm) := HBX4.out.cell 2
            have x3 : w4.cell? ⟨wr.heap.size, 3, none⟩ = some (.string s.to) := HBX4.out.cell 3
            have x4 : w4.cell? ⟨wr.heap.size, 4, none⟩ = some (.slice B s.b.length c1) := HBX4.out.cell 4
            have x5 : w4.cell? ⟨wr.heap.size, 5, none⟩ = some (.slice At s.tl.length ct) := HBX4.out.cell 5
            clear hXc hGc hbd hP4 HK2 hnc
            have HSC := Shut.mk (HST.out _ _ _ _ _ HP4.out (by omega))
            go_wp2_with fail
            refine HSC.out.mono ?_
            rintro e w5 ⟨rfl, d5, T5, hP5⟩
            have HP5 := Shut.mk hP5
            have HSM := Shut.mk (pr_same hP5 (by omega))
            have HCM := Shut.mk (show Cp w5 _ _ _ from HCP.out.move HP4.out.two.below hP5.two.below (by
              obtain ⟨z, hz, hs⟩ := HLAST.out
              have := (hP5.two.zs z hz).1
              omega) (fun z hz => ((hP5.two.zs z hz).2).trans (HP4.out.two.zs z hz).2.symm))
            clear hP5 HSC
            go_wp2_with fail
            refine HSM.out.mono ?_
            rintro e w6 ⟨rfl, hb6⟩
            have HP6 := Shut.mk (HP5.out.quiet hb6)
            have HC6 := Shut.mk (HCM.out.below hb6)
            clear hb6 HSM
            go_wp2_with fail
            go_roundw
            case rel => exact ⟨k + 1, d5, T5, _, _, by omega, by omega, by go_num, HP6.out, .inr ⟨_, _, rfl, rfl, HC6.out⟩⟩
            case measure => simp [intOf]; omega
          · have HSC := Shut.mk (HST.out _ _ _ _ _ HPB.out (by omega))
            go_wp2_with fail
            refine HSC.out.mono ?_
            rintro e w5 ⟨rfl, d5, T5, hP5⟩
            have HP5 := Shut.mk hP5
            have HSM := Shut.mk (pr_same hP5 (by omega))
            clear hP5 HSC
            go_wp2_with fail
            refine HSM.out.mono ?_
            rintro e w6 ⟨rfl, hb6⟩
            have HP6 := Shut.mk (HP5.out.quiet hb6)
            clear hb6 HSM
            go_wp2_with fail
            go_roundw
            case rel => exact ⟨k + 1, d5, T5, _, _, by omega, by omega, by go_num, HP6.out, .inl ⟨rfl, rfl⟩⟩
            case measure => simp [intOf]; omega
        · have h40I : (k : Int) > 40 := by omega
          have HPB2 := Shut.mk (HP.out.quiet HBE.out)
          have HSM := Shut.mk (pr_same HPB2.out (by omega))
          go_wp2_with fail
          refine HSM.out.mono ?_
          rintro e w6 ⟨rfl, hb6⟩
          have HB6 := Shut.mk (HPB2.out.two.below.trans (hb6.mono HPB2.out.two.below.size))
          clear hb6 HSM
          go_wp2_with fail
          go_ret
          exact ⟨rfl, HB6.out⟩
      · by_cases h40 : k ≤ 40
        · have h40I : ¬ (k : Int) > 40 := by omega
          by_cases hat : (k : Int) = at_
          · subst hat
            have HK1 := Shut.mk (pr_copy HPB.out (by omega))
            go_wp2_with fail
            refine HK1.out.mono ?_
            rintro e w3 ⟨gc, Fc, dc, rfl, hDc, hSc, hnc, hFc, hbc, hP3⟩
            have HP3 := Shut.mk hP3
            have HDC := Shut.mk hDc
            have HSCC := Shut.mk hSc
            have HFC := Shut.mk hFc
            have HBC := Shut.mk hbc
            have HK2 := Shut.mk (pr_rcopy hP3 (by omega))
            have HBX3 := Shut.mk ((HB.out.below hbc HB.out.lt))
            clear hDc hSc hFc hbc hP3 HK1
            go_wp2_with fail
            refine HK2.out.mono ?_
            rintro e w4 ⟨gy, Gc, rfl, hXc, hGc, hbd, hP4⟩
            have HP4 := Shut.mk hP4
            have hs3 : w3.heap.size ≤ w4.heap.size := hbd.size
            have HNE := Shut.mk (show w3.heap.size < w4.heap.size from by
              obtain ⟨v9, R9, h9, _, h8⟩ := hXc
              have := news_mem.1 (hGc gy (h8 gy (by simp [footD])))
              omega)
            have HCP := Shut.mk (show Cp w4 gc gy (news w3 w4 ++ (news (wr.alloc (.cells #[.int .i64 s.op, .int .i64 s.n, .string s.nm, .string s.to, .slice B s.b.length c1, .slice At s.tl.length ct] 49)) w3 ++ (wr.heap.size :: Z))) from
              ⟨Fc, Gc, dc, T, _, _, _, Dsk.below HDC.out hbd, hXc, HSCC.out, hnc, HP.out.names, fun x hx => List.mem_append_right _ (List.mem_append_left _ (HFC.out x hx)), fun x hx => List.mem_append_left _ (hGc x hx)⟩)
            have HLAST := Shut.mk (show ∃ z ∈ news w3 w4 ++ (news (wr.alloc (.cells #[.int .i64 s.op, .int .i64 s.n, .string s.nm, .string s.to, .slice B s.b.length c1, .slice At s.tl.length ct] 49)) w3 ++ (wr.heap.size :: Z)), w4.heap.size = z + 1 from
              ⟨w4.heap.size - 1, List.mem_append_left _ (news_mem.2 (by have := HNE.out; omega)), by have := HNE.out; omega⟩)
            have HBX4 := Shut.mk (HBX3.out.below hbd HBX3.out.lt)
            have x0 : w4.cell? ⟨wr.heap.size, 0, none⟩ = some (.int .i64 s.op) := HBX4.out.cell 0
            have x1 : w4.cell? ⟨wr.heap.size, 1, none⟩ = some (.int .i64 s.n) := HBX4.out.cell 1
            have x2 : w4.cell? ⟨wr.heap.size, 2, none⟩ = some (.string s.nm) := HBX4.out.cell 2
            have x3 : w4.cell? ⟨wr.heap.size, 3, none⟩ = some (.string s.to) := HBX4.out.cell 3
            have x4 : w4.cell? ⟨wr.heap.size, 4, none⟩ = some (.slice B s.b.length c1) := HBX4.out.cell 4
            have x5 : w4.cell? ⟨wr.heap.size, 5, none⟩ = some (.slice At s.tl.length ct) := HBX4.out.cell 5
            clear hXc hGc hbd hP4 HK2 hnc
            have HSC := Shut.mk (HST.out _ _ _ _ _ HP4.out (by omega))
            go_wp2_with fail
            refine HSC.out.mono ?_
            rintro e w5 ⟨rfl, d5, T5, hP5⟩
            have HP5 := Shut.mk hP5
            have HSM := Shut.mk (pr_same hP5 (by omega))
            have HCM := Shut.mk (show Cp w5 _ _ _ from HCP.out.move HP4.out.two.below hP5.two.below (by
              obtain ⟨z, hz, hs⟩ := HLAST.out
              have := (hP5.two.zs z hz).1
              omega) (fun z hz => ((hP5.two.zs z hz).2).trans (HP4.out.two.zs z hz).2.symm))
            clear hP5 HSC
            go_wp2_with fail
            refine HSM.out.mono ?_
            rintro e w6 ⟨rfl, hb6⟩
            have HP6 := Shut.mk (HP5.out.quiet hb6)
            have HC6 := Shut.mk (HCM.out.below hb6)
            clear hb6 HSM
            go_wp2_with fail
            go_roundw
            case rel => exact ⟨k + 1, d5, T5, _, _, by omega, by omega, by go_num, HP6.out, .inr ⟨_, _, rfl, rfl, HC6.out⟩⟩
            case measure => simp [intOf]; omega
          · have HLAST := Shut.mk (show ∃ z ∈ wr.heap.size :: Z, (wr.alloc (.cells #[.int .i64 s.op, .int .i64 s.n, .string s.nm, .string s.to, .slice B s.b.length c1, .slice At s.tl.length ct] 49)).heap.size = z + 1 from ⟨wr.heap.size, by simp, by rw [HSZ.out, hg]⟩)
            have HCP := Shut.mk (show Cp (wr.alloc (.cells #[.int .i64 s.op, .int .i64 s.n, .string s.nm, .string s.to, .slice B s.b.length c1, .slice At s.tl.length ct] 49)) gc gy (wr.heap.size :: Z) from cp_more (hcp.below HBE.out))
            clear hcp
            have HSC := Shut.mk (HST.out _ _ _ _ _ HPB.out (by omega))
            go_wp2_with fail
            refine HSC.out.mono ?_
            rintro e w5 ⟨rfl, d5, T5, hP5⟩
            have HP5 := Shut.mk hP5
            have HSM := Shut.mk (pr_same hP5 (by omega))
            have HCM := Shut.mk (show Cp w5 _ _ _ from HCP.out.move HPB.out.two.below hP5.two.below (by
              obtain ⟨z, hz, hs⟩ := HLAST.out
              have := (hP5.two.zs z hz).1
              omega) (fun z hz => ((hP5.two.zs z hz).2).trans (HPB.out.two.zs z hz).2.symm))
            clear hP5 HSC
            go_wp2_with fail
            refine HSM.out.mono ?_
            rintro e w6 ⟨rfl, hb6⟩
            have HP6 := Shut.mk (HP5.out.quiet hb6)
            have HC6 := Shut.mk (HCM.out.below hb6)
            clear hb6 HSM
            go_wp2_with fail
            go_roundw
            case rel => exact ⟨k + 1, d5, T5, _, _, by omega, by omega, by go_num, HP6.out, .inr ⟨_, _, rfl, rfl, HC6.out⟩⟩
            case measure => simp [intOf]; omega
        · have h40I : (k : Int) > 40 := by omega
          have HPB2 := Shut.mk (HP.out.quiet HBE.out)
          have HCP2 := Shut.mk (hcp.below HBE.out)
          clear hcp
          have HSM := Shut.mk (pr_same HPB2.out (by omega))
          go_wp2_with fail
          refine HSM.out.mono ?_
          rintro e w6 ⟨rfl, hb6⟩
          have HB6 := Shut.mk (HPB2.out.two.below.trans (hb6.mono HPB2.out.two.below.size))
          have HCC := Shut.mk (cp_same (HCP2.out.below hb6))
          clear hb6 HSM
          go_wp2_with fail
          refine HCC.out.mono ?_
          rintro e w7 ⟨rfl, hb7⟩
          have HB7 := Shut.mk (HB6.out.trans (hb7.mono HB6.out.size))
          clear hb7
          go_wp2_with fail
          go_ret
          exact ⟨rfl, HB7.out⟩
    · have hkI : ¬ (k : Int) < (NL : Int) := by omega
      rcases hcp with ⟨rfl, rfl⟩ | ⟨gc, gy, rfl, rfl, hcp⟩
      · have HSM := Shut.mk (pr_same HP.out (by omega))
        go_wp2_with fail
        refine HSM.out.mono ?_
        rintro e w6 ⟨rfl, hb6⟩
        have HB6 := Shut.mk (HP.out.two.below.trans (hb6.mono HP.out.two.below.size))
        clear hb6 HSM
        go_wp2_with fail
        go_ret
        exact ⟨rfl, HB6.out⟩
      · have HCP2 := Shut.mk hcp
        clear hcp
        have HSM := Shut.mk (pr_same HP.out (by omega))
        go_wp2_with fail
        refine HSM.out.mono ?_
        rintro e w6 ⟨rfl, hb6⟩
        have HB6 := Shut.mk (HP.out.two.below.trans (hb6.mono HP.out.two.below.size))
        have HCC := Shut.mk (cp_same (HCP2.out.below hb6))
        clear hb6 HSM
        go_wp2_with fail
        refine HCC.out.mono ?_
        rintro e w7 ⟨rfl, hb7⟩
        have HB7 := Shut.mk (HB6.out.trans (hb7.mono HB6.out.size))
        clear hb7
        go_wp2_with fail
        go_ret
        exact ⟨rfl, HB7.out⟩
end Go.Proofs.Ytjmaimpfplojpaa

namespace Go.Proofs.Ytjmaimpfplojpaa
open Go.ChangeShapes Go.WideShapes Go.ChangeAt Go.RowKit Go.Joins Go.Deep
set_option linter.unusedVariables false
set_option maxRecDepth 100000

section
variable {H : Type} {enc : TypeId × Value → H} {P : Program} {w : World} {base : Nat} {spare : Nat → Bool} {held : Bool}
theorem list3 {α : Type} {cs : List α} (h : cs.length = 3) : ∃ c0 c1 c2, cs = [c0, c1, c2] := by
  match cs, h with
  | [c0, c1, c2], _ => exact ⟨c0, c1, c2, rfl⟩
theorem trod3 {t : TypeId} {f0 f1 f2 : Field} {fuel : Nat} {c0 c1 c2 : Value} {x : DataW H × List MemPlace} (ht : P.underlying t = some (.struct #[f0, f1, f2])) (hone : oneCellFields P #[f0, f1, f2] = true)
    (h : DataW.trod enc P w base spare held fuel t [c0, c1, c2] = some x) :
    ∃ y0 y1 y2 n, DataW.trod enc P w base spare held n f0.type [c0] = some y0 ∧ DataW.trod enc P w base spare held n f1.type [c1] = some y1 ∧ DataW.trod enc P w base spare held n f2.type [c2] = some y2 ∧ x.1 = .agg [y0.1, y1.1, y2.1] := by
  obtain ⟨xs, n, _, rfl, hl, hlen, hf⟩ := DataW.trod_struct ht h
  obtain ⟨o0, k0⟩ := hone_of hone 0 f0 rfl
  obtain ⟨o1, k1⟩ := hone_of hone 1 f1 rfl
  obtain ⟨o2, k2⟩ := hone_of hone 2 f2 rfl
  obtain ⟨y0, y1, y2, rfl⟩ := list3 hlen
  exact ⟨y0, y1, y2, n, by simpa [o0, k0] using hf 0 f0 rfl, by simpa [o1, k1] using hf 1 f1 rfl, by simpa [o2, k2] using hf 2 f2 rfl, rfl⟩
theorem each_part : ∀ {ts : List TypeId} {ds : List (DataW H)} {j : Nat} {t : TypeId} {d : DataW H}, ts[j]? = some t → ds[j]? = some d → ∀ x ∈ d.weights P t, x ∈ DataW.weightsEach P ts ds
  | [], _, j, _, _, ht, _ => by simp at ht
  | _ :: _, [], j, _, _, _, hd => by simp at hd
  | t0 :: ts, d0 :: ds, 0, t, d, ht, hd => by
    simp at ht hd
    subst ht
    subst hd
    intro x hx
    unfold DataW.weightsEach
    exact List.mem_append_left _ hx
  | t0 :: ts, d0 :: ds, j + 1, t, d, ht, hd => by
    intro x hx
    unfold DataW.weightsEach
    exact List.mem_append_right _ (each_part (by simpa using ht) (by simpa using hd) x hx)
theorem all_part {e : TypeId} : ∀ {ds : List (DataW H)} {d : DataW H}, d ∈ ds → ∀ x ∈ d.weights P e, x ∈ DataW.weightsAll P e ds
  | [], _, h => by cases h
  | d0 :: ds, d, h => by
    intro x hx
    unfold DataW.weightsAll
    rcases List.mem_cons.1 h with rfl | h
    · exact List.mem_append_left _ hx
    · exact List.mem_append_right _ (all_part h x hx)
theorem slice_part {t e : TypeId} {elems spare : List (DataW H)} (ht : P.underlying t = some (.slice e)) : (elems.length + spare.length) * P.bytesOf e ∈ (DataW.slice elems spare).weights P t ∧ ∀ d ∈ elems, ∀ x ∈ d.weights P e, x ∈ (DataW.slice elems spare).weights P t := by
  have e1 : (DataW.slice elems spare).weights P t = (elems.length + spare.length) * P.bytesOf e :: (DataW.weightsAll P e elems ++ DataW.weightsAll P e spare) := by
    rw [DataW.weights, ht]
  rw [e1]
  exact ⟨List.mem_cons_self .., fun d hd x hx => List.mem_cons_of_mem _ (List.mem_append_left _ (all_part hd x hx))⟩
theorem agg_part {t : TypeId} {fs : Array Field} {parts : List (DataW H)} (ht : P.underlying t = some (.struct fs)) {j : Nat} {u : TypeId} {d : DataW H} (hu : (fs.toList.map (·.type))[j]? = some u) (hd : parts[j]? = some d) : ∀ x ∈ d.weights P u, x ∈ (DataW.agg parts).weights P t := by
  have e1 : (DataW.agg parts).weights P t = DataW.weightsEach P (fs.toList.map (·.type)) parts := by
    rw [DataW.weights, ht]
  rw [e1]
  exact each_part hu hd
end
instance : Inhabited Sx := ⟨⟨0, 0, ByteArray.empty, ByteArray.empty, [], []⟩⟩
theorem tails_cell {H : Type} {enc : TypeId × Value → H} {W : World} {base : Nat} {spare : Nat → Bool} {held : Bool} {n : Nat} {v : Value} {d : DataW H × List MemPlace}
    (h : DataW.trod enc Try.prog W base spare held n 44 [v] = some d) (hw : ∀ x ∈ d.1.weights Try.prog 44, x ≤ reachBytes) :
    ∃ (At : Option Addr) (tl : List Tl) (ct : Nat), v = .slice At tl.length ct ∧ RdT W At tl ∧ (∀ a, At = some a → tl ≠ [] → a.block < W.heap.size) ∧ tl.length < 9000000000000 := by
  rcases Go.Deep.open_slice Try.underlying44 h with ⟨hcs, _⟩ | ⟨x, l, c, m, q, D, Pl, hcs, _, hl, hm, hmm, hx, hV⟩
  · obtain rfl : v = .slice none 0 0 := by simpa using hcs
    exact ⟨none, [], 0, rfl, (fun k hk => absurd hk (by simp)), (fun a ha => by cases ha), (by simp)⟩
  · obtain rfl : v = .slice (some x) l c := by simpa using hcs
    have hle : l ≤ m := by rw [hmm]; split <;> omega
    have hC : (Try.prog).cellsOf 43 = 3 := by kernel_rfl
    have hB : (Try.prog).bytesOf 43 = 32 := by kernel_rfl
    obtain ⟨f, hfp⟩ := Go.Deep.choose_lt (α := Tl) (n := l) (p := fun i t => W.cell? (x.add (i * 3)) = some (.string t.name) ∧ W.cell? ⟨(x.add (i * 3)).block, (x.add (i * 3)).off + 1, none⟩ = some (.int .i64 t.keep) ∧ W.cell? ⟨(x.add (i * 3)).block, (x.add (i * 3)).off + 2, none⟩ = some (.bool t.turn)) (fun i hi => by
      obtain ⟨cs, h1, h2⟩ := hV i (by omega)
      rw [hC] at h1
      obtain ⟨_, hlen, hc⟩ := World.cells?_some h1
      obtain ⟨c0, c1, c2, rfl⟩ := list3 hlen
      obtain ⟨y0, y1, y2, n, g0, g1, g2, _⟩ := trod3 Try.underlying43 (by kernel_rfl) h2
      obtain ⟨s, e0, _, hs⟩ := DataW.trod_string Try.underlying9 g0
      obtain ⟨k, e1, _, _⟩ := DataW.trod_int Try.underlying3 g1
      obtain ⟨b, e2, _⟩ := DataW.trod_bool Try.underlying4 g2
      simp at e0 e1 e2
      subst e0
      subst e1
      subst e2
      refine ⟨⟨s, k, b, hs⟩, ?_, ?_, ?_⟩
      · simpa [Addr.add] using hc 0 (by omega)
      · simpa [Addr.add] using hc 1 (by omega)
      · simpa [Addr.add] using hc 2 (by omega))
    have hlen : ((List.range l).map f).length = l := by simp
    refine ⟨some x, (List.range l).map f, c, by rw [hlen], fun k hk => ?_, fun a ha hne => ?_, ?_⟩
    · rw [hlen] at hk
      have e : ((List.range l).map f).getD k default = f k := by simp [List.getD_eq_getElem?_getD, hk]
      rw [e]
      exact ⟨x, rfl, hfp k hk⟩
    · injection ha with ha
      subst ha
      have hl0 : 0 < l := by
        rcases Nat.eq_zero_or_pos l with h0 | h0
        · subst h0
          exact absurd rfl hne
        · exact h0
      have := World.block_lt_of_cell? W _ (hfp 0 hl0).1
      rwa [block_of_add] at this
    · rw [hlen]
      obtain ⟨hx1, _⟩ := Prod.mk.inj (show (d.1, d.2) = _ from hx)
      have h9 := (slice_part (H := H) (elems := (List.range l).map D) (spare := (List.range (m - l)).map fun j => D (l + j)) Try.underlying44).1
      rw [← hx1] at h9
      have := hw _ h9
      rw [hB] at this
      simp only [List.length_map, List.length_range] at this
      unfold reachBytes at this
      omega
theorem bytes_cellW {H : Type} {enc : TypeId × Value → H} {W : World} {base : Nat} {spare : Nat → Bool} {held : Bool} {n : Nat} {v : Value} {d : DataW H × List MemPlace}
    (h : DataW.trod enc Try.prog W base spare held n 28 [v] = some d) (hw : ∀ x ∈ d.1.weights Try.prog 28, x ≤ reachBytes) :
    ∃ (B : Option Addr) (b : List UInt8) (c : Nat), v = .slice B b.length c ∧ RdB W B b ∧ b.length ≤ c ∧ b.length ≤ reach := by
  rcases open_ints Try.underlying28 Try.underlying5 (by kernel_rfl) h with ⟨hcs, _⟩ | ⟨x, l, c, zs, hcs, _, hl, hm, hz, hx, hcell, hwz⟩
  · obtain rfl : v = .slice none 0 0 := by simpa using hcs
    exact ⟨none, [], 0, rfl, fun k hk => by simp at hk, Nat.le_refl _, Nat.zero_le _⟩
  · obtain rfl : v = .slice (some x) l c := by simpa using hcs
    have hB : (Try.prog).bytesOf 5 = 1 := by kernel_rfl
    have hl2 : l ≤ zs.length := by
      rw [hz]
      split
      · exact hl
      · exact Nat.le_refl _
    obtain ⟨hx1, _⟩ := Prod.mk.inj (show (d.1, d.2) = _ from hx)
    have h9 := (slice_part (H := H) (elems := lits .u8 (zs.take l)) (spare := lits .u8 (zs.drop l)) Try.underlying28).1
    rw [← hx1] at h9
    have h8 := hw _ h9
    rw [hB] at h8
    have h1 : (lits (H := H) .u8 (zs.take l)).length + (lits (H := H) .u8 (zs.drop l)).length = zs.length := by
      simp [lits]
      omega
    rw [h1] at h8
    obtain ⟨bs, hbl, hbr⟩ := rdB_ints hl2 hcell hwz
    subst hbl
    exact ⟨some x, bs, c, rfl, hbr, hl, Nat.le_trans hl2 (by simpa [reachBytes, reach] using h8)⟩
theorem stepD_cells {H : Type} {enc : TypeId × Value → H} {W : World} {base : Nat} {spare : Nat → Bool} {held : Bool} {fuel : Nat} {c0 c1 c2 c3 c4 c5 : Value} {x : DataW H × List MemPlace}
    (h : DataW.trod enc Try.prog W base spare held fuel 49 [c0, c1, c2, c3, c4, c5] = some x) (hw : ∀ y ∈ x.1.weights Try.prog 49, y ≤ reachBytes) :
    ∃ (s : Sx) (B At : Option Addr) (c ct : Nat), c0 = .int .i64 s.op ∧ c1 = .int .i64 s.n ∧ c2 = .string s.nm ∧ c3 = .string s.to ∧ c4 = .slice B s.b.length c ∧ c5 = .slice At s.tl.length ct ∧
      RdB W B s.b ∧ RdT W At s.tl ∧ (∀ a, At = some a → s.tl ≠ [] → a.block < W.heap.size) ∧ -9223372036854775808 ≤ s.n ∧ s.n ≤ 9223372036854775807 ∧ s.nm.size ≤ reach ∧ s.to.size ≤ reach ∧ s.b.length ≤ c ∧ s.b.length ≤ reach ∧ s.tl.length < 9000000000000 := by
  obtain ⟨y0, y1, y2, y3, y4, y5, n, h0, h1, h2, h3, h4, h5, hx⟩ := trod_struct6 Try.underlying49 (by kernel_rfl) h
  rw [hx] at hw
  have hp := fun (j : Nat) (u : TypeId) (d : DataW H) (hu : _) (hd : [y0.1, y1.1, y2.1, y3.1, y4.1, y5.1][j]? = some d) => agg_part (H := H) (P := Try.prog) (t := 49) (parts := [y0.1, y1.1, y2.1, y3.1, y4.1, y5.1]) Try.underlying49 (j := j) (u := u) (d := d) hu hd
  obtain ⟨a, e0, _, _⟩ := DataW.trod_int Try.underlying3 h0
  obtain ⟨b, e1, _, hbw⟩ := DataW.trod_int Try.underlying3 h1
  obtain ⟨s, e2, f2, _⟩ := DataW.trod_string Try.underlying9 h2
  obtain ⟨t, e3, f3, _⟩ := DataW.trod_string Try.underlying9 h3
  obtain ⟨B, bs, c, e4, hrb, hbc, hbl⟩ := bytes_cellW h4 (fun z hz => hw z (hp 4 _ _ rfl rfl z hz))
  obtain ⟨At, tl, ct, e5, hrt, hat, htl⟩ := tails_cell h5 (fun z hz => hw z (hp 5 _ _ rfl rfl z hz))
  have hs : s.data.toList.length ≤ reachBytes := by
    refine hw _ (hp 2 9 y2.1 rfl rfl _ ?_)
    rw [f2, DataW.weights]
    simp
  have ht : t.data.toList.length ≤ reachBytes := by
    refine hw _ (hp 3 9 y3.1 rfl rfl _ ?_)
    rw [f3, DataW.weights]
    simp
  simp at e0 e1 e2 e3
  have hb : -9223372036854775808 ≤ b ∧ b ≤ 9223372036854775807 := by
    simp [Lit.wf, IntKind.min, IntKind.max, IntKind.signed, IntKind.bits] at hbw
    omega
  exact ⟨⟨a, b, s, t, bs, tl⟩, B, At, c, ct, e0, e1, e2, e3, e4, e5, hrb, hrt, hat, hb.1, hb.2, by rw [Lib.size_eq]; exact hs, by rw [Lib.size_eq]; exact ht, hbc, hbl, htl⟩
def ArgSx (w : World) (v : Value) (ds : List Sx) : Prop := ∃ A cl, v = .slice A ds.length cl ∧ RdSx w A ds ∧ ds.length ≤ cl ∧ cl ≤ maxLen
theorem open_sx {H : Type} {enc : TypeId × Value → H} {W : World} {base base' : Nat} {spare : Nat → Bool} {held : Bool} {r : Reach} {v : Value} {d : DataW H} {ps : List MemPlace} {ts : List TypeId} {ds : List (DataW H)} {j : Nat}
    (hsz : (DataW.weightsEach Try.prog ts ds).all (· ≤ reachBytes) = true) (ht : ts[j]? = some 47) (hd : ds[j]? = some d)
    (hv : Value.okWide Try.prog W r base' 47 v) (h : DataW.Trod enc Try.prog W base spare held 47 v d ps) (lt : ∀ x ∈ ps, x.block < W.heap.size) : ∃ ss, ArgSx W v ss := by
  have hw : ∀ y ∈ d.weights Try.prog 47, y ≤ reachBytes := fun y hy => by
    have := List.all_eq_true.1 hsz y (each_part ht hd y hy)
    simpa using this
  obtain ⟨a, len, cap, rfl⟩ := okWide_slice Try.underlying47 hv
  obtain ⟨fuel, hf⟩ := h
  rcases Go.Deep.open_slice Try.underlying47 hf with ⟨hcs, _⟩ | ⟨x, l, c, m, n, D, Pl, hcs, _, hl, hm, hmm, hx, hV⟩
  · simp [Value.cells] at hcs
    obtain ⟨rfl, rfl, rfl⟩ := hcs
    exact ⟨[], none, 0, rfl, fun k d hk => by simp at hk, Nat.le_refl _, by simp [maxLen]⟩
  · simp [Value.cells] at hcs
    obtain ⟨rfl, rfl, rfl⟩ := hcs
    have hle : len ≤ m := by rw [hmm]; split <;> omega
    obtain ⟨hx1, _⟩ := Prod.mk.inj hx
    have hC : (Try.prog).cellsOf 49 = 6 := by kernel_rfl
    obtain ⟨f, hfp⟩ := Go.Deep.choose_lt (α := Sx) (n := len) (p := fun k s => ∃ (B At : Option Addr) (c ct : Nat), W.cell? (x.add (k * 6)) = some (.int .i64 s.op) ∧ W.cell? ⟨(x.add (k * 6)).block, (x.add (k * 6)).off + 1, none⟩ = some (.int .i64 s.n) ∧
      W.cell? ⟨(x.add (k * 6)).block, (x.add (k * 6)).off + 2, none⟩ = some (.string s.nm) ∧ W.cell? ⟨(x.add (k * 6)).block, (x.add (k * 6)).off + 3, none⟩ = some (.string s.to) ∧
      W.cell? ⟨(x.add (k * 6)).block, (x.add (k * 6)).off + 4, none⟩ = some (.slice B s.b.length c) ∧ W.cell? ⟨(x.add (k * 6)).block, (x.add (k * 6)).off + 5, none⟩ = some (.slice At s.tl.length ct) ∧
      RdB W B s.b ∧ RdT W At s.tl ∧ (∀ a, At = some a → s.tl ≠ [] → a.block < W.heap.size) ∧ -9223372036854775808 ≤ s.n ∧ s.n ≤ 9223372036854775807 ∧ s.nm.size ≤ reach ∧ s.to.size ≤ reach ∧ s.b.length ≤ c ∧ s.b.length ≤ reach ∧ s.tl.length < 9000000000000) (fun i hi => by
      obtain ⟨cs, h1, h2⟩ := hV i (by omega)
      rw [hC] at h1
      obtain ⟨_, hlen, hc⟩ := World.cells?_some h1
      obtain ⟨c0, c1, c2, c3, c4, c5, rfl⟩ := list6 hlen
      obtain ⟨s, B, At, c, ct, rfl, rfl, rfl, rfl, rfl, rfl, hrest⟩ := stepD_cells h2 (fun y hy => hw y (by
        rw [hx1]
        exact (slice_part (H := H) Try.underlying47).2 (D i) (List.mem_map.2 ⟨i, List.mem_range.2 hi, rfl⟩) y hy))
      refine ⟨s, B, At, c, ct, ?_, ?_, ?_, ?_, ?_, ?_, hrest⟩
      · simpa [Addr.add] using hc 0 (by omega)
      · simpa [Addr.add] using hc 1 (by omega)
      · simpa [Addr.add] using hc 2 (by omega)
      · simpa [Addr.add] using hc 3 (by omega)
      · simpa [Addr.add] using hc 4 (by omega)
      · simpa [Addr.add] using hc 5 (by omega))
    have hlen : ((List.range len).map f).length = len := by simp
    refine ⟨(List.range len).map f, some x, cap, by rw [hlen], fun k d hk => ?_, by rw [hlen]; exact hl, hm⟩
    have hkl : k < len := by have := (List.getElem?_eq_some_iff.1 hk).1; rwa [hlen] at this
    rw [List.getElem?_map, List.getElem?_range hkl] at hk
    have hk' : f k = d := Option.some.inj hk
    obtain ⟨B, At, c, ct, hrest⟩ := hfp k hkl
    rw [hk'] at hrest
    exact ⟨x, B, At, c, ct, rfl, hrest⟩
theorem filesLive_walk (a0 : Int) (v : Value) (ds : List Sx) (a1 : Int) (w : World) (h0 : -9223372036854775808 ≤ a0) (h0' : a0 ≤ 9223372036854775807) (hx : ArgSx w v ds) (h1 : -9223372036854775808 ≤ a1) (h1' : a1 ≤ 9223372036854775807) :
    Calls Try.prog 9 #[.int .i64 a0, v, .int .i64 a1] w fun e w' => e = .returned (.bool true) ∧ Below w.heap.size w w' := by
  obtain ⟨A, cl, rfl, h4, h2, h3⟩ := hx
  exact filesLive_run a0 a1 A ds cl w h4 h2 h3
end Go.Proofs.Ytjmaimpfplojpaa
