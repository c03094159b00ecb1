/- Walks: the net's Addr, Drop, Take; a Write to a connection that is not there. -/
import Derived.Test.YtdnbdmffaoimgaaNet2
import Derived.Laws.CopyOwn
import Derived.Laws.CopyRow
namespace Go.Proofs.Ytdnbdmffaoimgaa
open Go.RowKit Go.Maps
set_option linter.unusedSimpArgs false
set_option linter.unusedVariables false
set_option maxRecDepth 100000

theorem write_none (gn gm last n : Nat) (f : Lit → Option Nat) (a : Int) (A : Option Addr) (m c : Nat) (w : World) (hN : NetAt w gn gm last n f) (h1 : -9223372036854775808 ≤ a) (h2 : a ≤ 9223372036854775807) (hf : f (kint a) = none) :
    Calls Try.prog 9 #[.pointer (some ⟨gn, 0, none⟩), .int .i64 a, .slice A m c] w fun e w' => e = .returned (.int .i64 150) ∧ w = w' := by
  go_enter Try.func9, Try.ntmps9
  go_wp2_with fail
  refine (of_calls gn gm last n f a w hN h1 h2).mono ?_
  rintro e w' ⟨rfl, rfl⟩
  rw [hf]
  go_wp2_with fail
  go_ret
  exact ⟨rfl, rfl⟩
theorem addr_calls (gn gm last n gc : Nat) (f : Lit → Option Nat) (a ad : Int) (v : Value) (w : World) (hN : NetAt w gn gm last n f) (h1 : -9223372036854775808 ≤ a) (h2 : a ≤ 9223372036854775807)
    (hf : f (kint a) = some gc) (hc : Blk w gc 57 #[.int .i64 ad, v]) :
    Calls Try.prog 11 #[.pointer (some ⟨gn, 0, none⟩), .int .i64 a] w fun e w' => e = .returned (.tuple #[.int .i64 ad, .bool true]) ∧ w = w' := by
  have q0 : w.cell? ⟨gc, 0, none⟩ = some (.int .i64 ad) := hc.cell 0
  go_enter Try.func11, Try.ntmps11
  go_wp2_with fail
  refine (of_calls gn gm last n f a w hN h1 h2).mono ?_
  rintro e w' ⟨rfl, rfl⟩
  rw [hf]
  go_wp2_with fail
  go_ret2
  exact ⟨rfl, rfl⟩
theorem addr_none (gn gm last n : Nat) (f : Lit → Option Nat) (a : Int) (w : World) (hN : NetAt w gn gm last n f) (h1 : -9223372036854775808 ≤ a) (h2 : a ≤ 9223372036854775807) (hf : f (kint a) = none) :
    Calls Try.prog 11 #[.pointer (some ⟨gn, 0, none⟩), .int .i64 a] w fun e w' => e = .returned (.tuple #[.int .i64 0, .bool false]) ∧ w = w' := by
  go_enter Try.func11, Try.ntmps11
  go_wp2_with fail
  refine (of_calls gn gm last n f a w hN h1 h2).mono ?_
  rintro e w' ⟨rfl, rfl⟩
  rw [hf]
  go_wp2_with fail
  go_ret2
  exact ⟨rfl, rfl⟩
theorem drop_calls (gn gm last n gc : Nat) (f : Lit → Option Nat) (a : Int) (w : World) (hN : NetAt w gn gm last n f) (h1 : -9223372036854775808 ≤ a) (h2 : a ≤ 9223372036854775807) (hf : f (kint a) = some gc) :
    Calls Try.prog 13 #[.pointer (some ⟨gn, 0, none⟩), .int .i64 a] w fun e w' => e = .returned (.int .i64 0) ∧ NetAt w' gn gm last n (turned f (kint a) none) ∧ Kb w w' [gm] := by
  have q0 : w.cell? ⟨gn, 0, none⟩ = some (.map (some gm)) := hN.blk.cell 0
  go_enter Try.func13, Try.ntmps13
  go_wp2_with fail
  refine (of_calls gn gm last n f a w hN h1 h2).mono ?_
  rintro e w' ⟨rfl, rfl⟩
  rw [hf]
  go_wp2_with (at_delete; refine wpList_del_pm w rfl _ _ 44 3 rfl _ net_keyed Try.underlying44 gm n f rfl hN.map _ (kint a) rfl (key_int a h1 h2) ?_; intro w2 hp2 hg2)
  go_ret
  have hk : Kb w w2 [gm] := Kb.of_grown hg2 (fun r hr => by cases hr; simp)
  exact ⟨rfl, ⟨hk.blk hN.blk (by simp; exact fun e => hN.ne e.symm), hp2⟩, hk⟩
theorem wpList_copy_eq {P : Program} (w : World) {ops : Array Oper} {rest : List Oper} {o : Oper} {a : Act} {Q : Exit → Act → World → Prop} (hgd : o.guard = none) (d s : Operand) (t t' : TypeId)
    (ho : o.op = .call { callee := .builtin .copy, args := #[d, s], argTypes := #[t, t'] }) (v u : Value) (hd : a.eval d = v) (hs : a.eval s = u) {v' : Value} {w' : World}
    (hr : (Builtin.copy_ #[t, t'] o.type #[v, u]).run P w = .ok v' w') (h : wpList P ops Q rest (a.put o.dst v') w') : wpList P ops Q (o :: rest) a w := by
  refine wpList_plain hgd fun K hK => ?_
  unfold Oper.wp
  simp [execOp, ho, resolve, invoke, builtin, hd, hs, hr, Result.andThen]
  exact hK _ _ h
theorem own_far {w : World} {e size n g cap : Nat} {xs : List Value} (h : Own w e size (.slice (some ⟨g, 0, none⟩) n cap) n xs) {p : Addr} {u : Value} (hne : g ≠ p.block) : Own (w.setCell p u) e size (.slice (some ⟨g, 0, none⟩) n cap) n xs :=
  h.keep fun g' hg => by cases hg; exact Below.heap_setCell w p u g hne
theorem own_rdB {w : World} {e size : Nat} {A : Option Addr} {cap : Nat} (n : Nat) {l : List UInt8} (h : Own w e size (.slice A n cap) n (bys l)) : RdB w A l := by
  obtain ⟨A7, c7, e7, hr7, _⟩ := h.form
  injection e7 with e7
  subst e7
  exact rdB_of_rd hr7
theorem copy_run (g N c1 : Nat) (A1 : Option Addr) (l : List UInt8) (xs : List Value) (w : World) (hd : Own w 5 1 (.slice (some ⟨g, 0, none⟩) N N) N xs) (hs : Own w 5 1 (.slice A1 N c1) N (bys l)) :
    ∃ W2, (∀ ty, (Builtin.copy_ #[29, 29] ty #[.slice (some ⟨g, 0, none⟩) N N, .slice A1 N c1]).run Try.prog w = .ok (.int .i64 N) W2) ∧ Own W2 5 1 (.slice (some ⟨g, 0, none⟩) N N) N (bys l) ∧ w.grownBy W2 (some g) := by
  obtain ⟨i0, hi, hz0, hz1, hz2⟩ := info_parts info_u8
  have hsz : (Try.prog.info? 5).map (·.size) = some 1 := by rw [hi]; simp [hz1]
  have hlen := hs.len
  rw [Nat.mul_one] at hlen
  obtain ⟨A', c', hv, hr, _, _, _, hnone⟩ := hs.form
  injection hv with hA hn hc
  subst hA
  subst hc
  cases A1 with
  | none =>
    obtain ⟨rfl, rfl⟩ := hnone rfl
    refine ⟨w, fun ty => run_copy_none w _ _ ty 5 _ _ 0 0 0 0 Try.underlying29 hsz rfl, ?_, World.grownBy.refl w _⟩
    have h0 : bys l = [] := List.eq_nil_of_length_eq_zero hlen
    have h1 : xs = [] := List.eq_nil_of_length_eq_zero (by have := hd.len; simpa using this)
    rw [h0]
    rw [h1] at hd
    exact hd
  | some ad =>
    rcases hd.2 with ⟨h, _⟩ | ⟨g', cap, cur, hv, hb, hnc, hcm, hcs, ht⟩
    · cases h
    · injection hv with e1 e2 e3
      injection e1 with e1
      injection e1 with e1
      subst e1
      subst e3
      rw [Nat.mul_one] at hcs ht
      have hsrc : ∀ j u, (bys l)[j]? = some u → w.cell? (ad.add j) = some u := by
        intro j u hu
        obtain ⟨ad', e, hc⟩ := hr (fun e => by rw [e] at hu; simp at hu)
        injection e with e
        subst e
        exact hc j u hu
      have hrun := fun ty => run_copy_row (P := Try.prog) w 29 29 ty 5 g 0 N N ad N c1 cur 5 (bys l) Try.underlying29 hsz hb (by rw [hlen]; exact (Nat.min_self N).symm) hsrc (by omega) (bys_one l)
      obtain ⟨CC, hCC⟩ : ∃ CC, CC = (cur.toList.take 0 ++ bys l ++ cur.toList.drop (0 + (bys l).length)).toArray := ⟨_, rfl⟩
      rw [← hCC] at hrun
      refine ⟨w.setRow g CC, fun ty => ?_, ⟨by rw [hlen, Nat.mul_one], .inr ⟨g, N, CC, rfl, setRow_heap w g _ _ _ _ hb, Nat.le_refl _, hcm, ?_, ?_⟩⟩, ⟨rfl, rfl, rfl, by simp [World.setRow], fun k _ hk => setRow_other w g k _ (fun e => hk (by rw [e]))⟩⟩
      · rw [hrun ty, goInt, hlen]
      · rw [hCC]
        simp [hlen]
      · rw [hCC]
        simp [hlen]
set_option maxHeartbeats 1000000 in
theorem take_calls (gn gm last n gc : Nat) (f : Lit → Option Nat) (a ad : Int) (l : List UInt8) (v : Value) (w : World) (hN : NetAt w gn gm last n f) (h1 : -9223372036854775808 ≤ a) (h2 : a ≤ 9223372036854775807)
    (hf : f (kint a) = some gc) (hc : Blk w gc 57 #[.int .i64 ad, v]) (ho : Own w 5 1 v l.length (bys l)) (hl : l.length ≤ reach) :
    Calls Try.prog 10 #[.pointer (some ⟨gn, 0, none⟩), .int .i64 a] w fun e w' => ∃ v', e = .returned (.tuple #[v', .int .i64 0]) ∧ NetAt w' gn gm last n f ∧ Blk w' gc 57 #[.int .i64 ad, .slice none 0 0] ∧
      Own w' 5 1 v' l.length (bys l) ∧ Kb w w' [gc] ∧ (∀ g, v'.ownBlock = some g → w.heap.size ≤ g) := by
  obtain ⟨i0, hi, hz0, hz1, hz2⟩ := info_parts info_u8
  unfold reach at hl
  obtain ⟨N, hN'⟩ : ∃ N, N = l.length := ⟨_, rfl⟩
  rw [← hN'] at ho hl
  have HLN := Shut.mk hN'.symm
  rw [← hN']
  clear hN'
  obtain ⟨A1, c1, hv1, _⟩ := ho.form
  subst hv1
  have q0 : w.cell? ⟨gc, 0, none⟩ = some (.int .i64 ad) := hc.cell 0
  have q1 : w.cell? ⟨gc, 1, none⟩ = some (.slice A1 N c1) := hc.cell 1
  go_enter Try.func10, Try.ntmps10
  go_wp2_with fail
  refine (of_calls gn gm last n f a w hN h1 h2).mono ?_
  rintro e w' ⟨rfl, rfl⟩
  rw [hf]
  go_wp2_with (first
    | (
      refine wpList_make_cap w rfl (.tmp 22) (.tmp 22) _ rfl 5 i0 (.int .u8 0) Try.underlying29 hi hz0 hz1 rfl .i64 .i64 N N (by rfl) (by rfl) (by omega) (by rw [hz2]; omega) (by omega) ?_
      obtain ⟨W1, hW1⟩ : ∃ W, W = w.alloc (.cells (madeCells #[.int .u8 0] N) 5) := ⟨_, rfl⟩
      have ho1 : Own W1 5 1 (.slice (some ⟨w.heap.size, 0, none⟩) N N) N (bys (List.replicate N 0)) := by
        rw [hW1]
        exact own_made w _ _ _ (by omega) (by simp [maxLen]; omega)
      have hk1 : Kb w W1 [gc] := by
        rw [hW1]
        exact (Kb.refl w _).alloc _
      have hs1 : Own W1 5 1 (.slice A1 N c1) N (bys l) := by
        rw [hW1]
        exact ho.alloc _
      have hc1 : Blk W1 gc 57 #[.int .i64 ad, .slice A1 N c1] := by
        rw [hW1]
        exact hc.alloc _
      have hw1 : W1.heap.size = w.heap.size + 1 := by rw [hW1]; simp
      rw [← hW1]
      clear hW1
      have r1 : W1.cell? ⟨gc, 1, none⟩ = some (.slice A1 N c1) := hc1.cell 1)
    | (
      obtain ⟨W2, hcp, ho2, hg2⟩ := copy_run w.heap.size N c1 A1 l _ W1 ho1 hs1
      (refine wpList_copy_eq W1 rfl (.tmp 24) (.tmp 28) 29 29 rfl (.slice (some ⟨w.heap.size, 0, none⟩) N N) (.slice A1 N c1) rfl rfl (hcp _) ?_)
      have hc2 : Blk W2 gc 57 #[.int .i64 ad, .slice A1 N c1] := hc1.grown hg2 (Nat.ne_of_lt hc.lt)
      have s1 : W2.cell? ⟨gc, 1, none⟩ = some (.slice A1 N c1) := hc2.cell 1
      have sf := hc2.free 1))
  have hne : gc ≠ w.heap.size := Nat.ne_of_lt hc.lt
  have ho3 := own_far ho2 (p := ⟨gc, 1, none⟩) (u := .slice none 0 0) (fun e => hne e.symm)
  have hb3 := hc2.set_ 1 (.slice none 0 0)
  have hk3 : Kb w (W2.setCell ⟨gc, 1, none⟩ (.slice none 0 0)) [gc] := (hk1.grown_new hg2 (Nat.le_refl _)).setCell (p := ⟨gc, 1, none⟩) (by simp) _
  generalize W2.setCell ⟨gc, 1, none⟩ (.slice none 0 0) = W3 at ho3 hb3 hk3 ⊢
  have hcn := net_conn_ne hN hc
  clear hs1 ho1 ho2 hc2 hk1 s1 sf r1 hc1 hg2 hcp
  refine (clone_n _ N N l _ (own_rdB N ho3) (by rw [HLN.out]; unfold reach; omega) HLN.out).mono ?_
  rintro e w4 ⟨v4, rfl, ho4, hb4, hn4⟩
  have hk4 : Kb w w4 [gc] := hk3.below_ hb4
  go_wp2_with fail
  go_ret2
  refine ⟨v4, rfl, hN.kept hk4 (by simp; exact fun e => hcn.1 e.symm) (by simp; exact fun e => hcn.2 e.symm), hb3.below hb4 hb3.lt, ho4.cast HLN.out rfl, hk4, fun g hg => Nat.le_trans hk3.size (hn4 g hg)⟩
end Go.Proofs.Ytdnbdmffaoimgaa
