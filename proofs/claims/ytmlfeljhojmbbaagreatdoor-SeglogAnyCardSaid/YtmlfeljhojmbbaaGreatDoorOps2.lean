/- Walks: the disk's Rename, Cut. -/
import Derived.Test.YtmlfeljhojmbbaaGreatDoorOps
namespace Go.Proofs.YtmlfeljhojmbbaaGreatDoor
open Go.RowKit Go.Maps
set_option linter.unusedSimpArgs false
set_option linter.unusedVariables false
set_option maxRecDepth 100000

/-- a file has another name -/
def renF (S : List Fl) (a z b : List UInt8) (sy : Nat) : List Fl := delF (delF S a) z ++ [(z, b, sy)]
section
variable {w w' : World} {gd gm n : Nat} {es : List Ent} {room short fuse : Int}
theorem rename_stop (hD : DiskAt w gd gm n es room short fuse) (s t : ByteArray) (ht : t.size ≤ reach) (hf1 : -9223372036854775808 ≤ fuse) (hf2 : fuse ≤ 9223372036854775807) (hstop : chErr (nameOk t.data.toList) fuse ≠ 0) :
    Calls Tryz.prog 28 #[gp gd, .string s, .string t] w fun e w' => e = .returned (.int .i64 (chErr (nameOk t.data.toList) fuse)) ∧ After w w' gd gm es n (fls es) room short (chFuse (nameOk t.data.toList) fuse) := by
  have HN := Shut.mk (isName_calls t w ht)
  generalize nameOk t.data.toList = ok at HN hstop ⊢
  have hC := fun w1 (h : Below w.heap.size w w1) => change_calls ok (hD.below h) hf1 hf2
  generalize chErr ok fuse = ce at hstop hC ⊢
  generalize chFuse ok fuse = cf at hC ⊢
  have HC := Shut.mk hC
  clear hD ht hC
  go_enter Tryz.func28, Tryz.ntmps28
  go_wp2_with fail
  refine HN.out.mono ?_
  rintro e w1 ⟨rfl, hb1⟩
  have HB := Shut.mk hb1
  go_wp2_with fail
  refine (HC.out w1 hb1).mono ?_
  rintro e w2 ⟨rfl, hD2, hk2⟩
  have HA := Shut.mk (after_setd hD2 ((Kb.of_below HB.out [gd]).trans hk2 (fun x hx => .inl hx)) (by simp [foot]))
  clear hk2 hb1 hD2 HC HN
  go_wp2_with fail
  go_ret
  exact ⟨rfl, HA.out⟩
theorem rename_none (hD : DiskAt w gd gm n es room short fuse) (s t : ByteArray) (hs : s.size ≤ reach) (ht : t.size ≤ reach) (hf1 : -9223372036854775808 ≤ fuse) (hf2 : fuse ≤ 9223372036854775807) (hf : fuse ≠ 0) (hok : nameOk t.data.toList = true) (hx : lookE es s.data.toList = none) :
    Calls Tryz.prog 28 #[gp gd, .string s, .string t] w fun e w' => e = .returned (.int .i64 60) ∧ After w w' gd gm es n (fls es) room short (chFuse true fuse) := by
  have hN := isName_calls t w ht
  rw [hok] at hN
  have HN := Shut.mk hN
  have hch : chErr true fuse = 0 := by simp [chErr, hf]
  have hC := fun w1 (h : Below w.heap.size w w1) => change_calls true (hD.below h) hf1 hf2
  rw [hch] at hC
  generalize chFuse true fuse = fu at hC ⊢
  have HC := Shut.mk hC
  have HKEY := Shut.mk (name_key s hs)
  clear hD ht hs hC hf hf1 hf2 hch hok hN
  go_enter Tryz.func28, Tryz.ntmps28
  go_wp2_with fail
  refine HN.out.mono ?_
  rintro e w1 ⟨rfl, hb1⟩
  have HB := Shut.mk hb1
  go_wp2_with fail
  refine (HC.out w1 hb1).mono ?_
  rintro e w2 ⟨rfl, hD2, hk2⟩
  have HA := Shut.mk (after_setd hD2 ((Kb.of_below HB.out [gd]).trans hk2 (fun x hx => .inl hx)) (by simp [foot]))
  have q0 : w2.cell? ⟨gd, 0, none⟩ = some (.map (some gm)) := hD2.blk.cell 0
  have hlk := hD2.map.look name_keyed Tryz.underlying71 (zero_file w2) HKEY.out
  unfold ef at hlk
  rw [hx] at hlk
  have hlk' : (Instr.lookup 71 (.map (some gm)) (.string s) false).run Tryz.prog w2 = .ok (.pointer none) w2 := hlk
  clear hk2 hb1 hD2 HC HN hlk
  go_wp2_with fail
  go_ret
  exact ⟨rfl, HA.out⟩
/-- the file x stands under another name -/
theorem DiskAt.renamed (h : DiskAt w gd gm n es room short fuse) {x : Ent} (hm : x ∈ es) {z : List UInt8} {n' : Nat} (hk : Kb w w' [gm]) (hf : FM w' Tryz.prog 9 gm n' (at_ (at_ (ef es) x.key none) z (some x.g))) :
    DiskAt w' gd gm n' (delE (delE es x.key) z ++ [{ x with key := z }]) room short fuse := by
  have hL : ∀ y ∈ delE (delE es x.key) z, y ∈ es ∧ y.key ≠ x.key ∧ y.key ≠ z := fun y hy => ⟨(delE_mem (delE_mem hy).1).1, (delE_mem (delE_mem hy).1).2, (delE_mem hy).2⟩
  have hmem : ∀ y ∈ delE (delE es x.key) z ++ [{ x with key := z }], y ∈ delE (delE es x.key) z ∨ y = { x with key := z } := fun y hy => by simpa using hy
  have hpa : ∀ (R : Ent → Ent → Prop), es.Pairwise R → (∀ y ∈ delE (delE es x.key) z, R y { x with key := z }) → (delE (delE es x.key) z ++ [{ x with key := z }]).Pairwise R := by
    intro R hR hx
    rw [List.pairwise_append]
    exact ⟨(hR.filter _).filter _, List.pairwise_singleton _ _, fun a ha b hb => by rw [List.mem_singleton.1 hb]; exact hx a ha⟩
  have hne : ∀ y ∈ delE (delE es x.key) z, y ≠ x := fun y hy e => (hL y hy).2.1 (by rw [e])
  refine ⟨hk.blk h.blk (by simpa using h.map_ne), ?_, fun y hy => ?_, fun y hy => ?_, hpa _ h.keys fun y hy => (hL y hy).2.2, hpa _ h.gs fun y hy => ?_, hpa _ h.vs fun y hy => ?_, fun y hy => ?_, ?_⟩
  · have e : ef (delE (delE es x.key) z ++ [{ x with key := z }]) = at_ (at_ (ef es) x.key none) z (some x.g) := by
      funext t
      unfold ef at_
      rw [lookE_add (x := { x with key := z }) (lookE_none_of fun y hy => (hL y hy).2.2)]
      simp only
      split
      · rfl
      · rename_i htz
        rw [lookE_del, if_neg htz, lookE_del]
        split <;> rfl
    rw [e]
    exact hf
  · rcases hmem y hy with hy | rfl
    · exact hk.blk (h.file y (hL y hy).1) (by simpa using (h.file_ne (hL y hy).1).2)
    · exact hk.blk (h.file x hm) (by simpa using (h.file_ne hm).2)
  · rcases hmem y hy with hy | rfl
    · exact hk.own (h.own y (hL y hy).1) fun g hg => (by simpa using (h.own_ne (hL y hy).1 hg).2.1)
    · exact hk.own (h.own x hm) fun g hg => (by simpa using (h.own_ne hm hg).2.1)
  · exact pw_of (R := fun a b : Ent => a.g ≠ b.g) (b := x) (fun {a b} hab e => hab e.symm) h.gs (hL y hy).1 hm (hne y hy)
  · exact pw_of (R := fun a b : Ent => ∀ g, a.v.ownBlock = some g → b.v.ownBlock ≠ some g) (b := x) (fun {a b} hab g h1 h2 => hab g h2 h1) h.vs (hL y hy).1 hm (hne y hy)
  · rcases hmem y hy with hy | rfl
    · exact h.len y (hL y hy).1
    · exact h.len x hm
  · rw [used_append]
    have h1 := used_del h.keys (lookE_of_mem h.keys hm)
    have h2 := used_del_le (delE es x.key) z
    have h3 := h.sum
    simp only [usedE, List.map_cons, List.map_nil, List.sum_cons, List.sum_nil] at *
    omega
theorem rename_some (hD : DiskAt w gd gm n es room short fuse) (s t : ByteArray) (hs : s.size ≤ reach) (ht : t.size ≤ reach) (hf1 : -9223372036854775808 ≤ fuse) (hf2 : fuse ≤ 9223372036854775807) (hf : fuse ≠ 0) (hok : nameOk t.data.toList = true) (hn : n < 1000000000) {x : Ent} (hx : lookE es s.data.toList = some x) :
    Calls Tryz.prog 28 #[gp gd, .string s, .string t] w fun e w' => e = .returned (.int .i64 0) ∧ After w w' gd gm es (n + 1) (renF (fls es) s.data.toList t.data.toList x.b x.syn) room short (chFuse true fuse) := by
  have hN := isName_calls t w ht
  rw [hok] at hN
  have HN := Shut.mk hN
  have hch : chErr true fuse = 0 := by simp [chErr, hf]
  have hC := fun w1 (h : Below w.heap.size w w1) => change_calls true (hD.below h) hf1 hf2
  rw [hch] at hC
  generalize chFuse true fuse = fu at hC ⊢
  have HC := Shut.mk hC
  have HKEY := Shut.mk (name_key s hs)
  have HKEY2 := Shut.mk (name_key t ht)
  have HX := Shut.mk hx
  clear hD ht hs hC hf hf1 hf2 hch hok hN hx
  go_enter Tryz.func28, Tryz.ntmps28
  go_wp2_with fail
  refine HN.out.mono ?_
  rintro e w1 ⟨rfl, hb1⟩
  have HB := Shut.mk hb1
  go_wp2_with fail
  refine (HC.out w1 hb1).mono ?_
  rintro e w2 ⟨rfl, hD2, hk2⟩
  have HD2 := Shut.mk hD2
  have HK2 := Shut.mk ((Kb.of_below HB.out [gd]).trans hk2 (fun x hx => .inl hx))
  have q0 : w2.cell? ⟨gd, 0, none⟩ = some (.map (some gm)) := hD2.blk.cell 0
  have hlk := hD2.map.look name_keyed Tryz.underlying71 (zero_file w2) HKEY.out
  unfold ef at hlk
  rw [HX.out] at hlk
  have hlk' : (Instr.lookup 71 (.map (some gm)) (.string s) false).run Tryz.prog w2 = .ok (gp x.g) w2 := hlk
  clear hk2 hb1 hD2 HC HN hlk
  go_wp2_with (
    at_delete
    refine wpList_del_fm w2 rfl _ _ 71 9 rfl _ name_keyed Tryz.underlying71 gm n _ rfl HD2.out.map _ s.data.toList rfl HKEY.out ?_
    intro w3 hf3 hg3
    have hk3 : Kb w2 w3 [gm] := Kb.of_grown hg3 (fun r hr => by cases hr; simp)
    have r0 : w3.cell? ⟨gd, 0, none⟩ = some (.map (some gm)) := (hk3.blk HD2.out.blk (by simpa using HD2.out.map_ne)).cell 0
    obtain ⟨w4, hup, hfm, hg4⟩ := hf3.update _ name_keyed Tryz.underlying71 (by unfold maxLen; omega) x.g HKEY2.out
    have HFM := Shut.mk hfm
    have HG4 := Shut.mk hg4
    have HK3 := Shut.mk hk3
    clear hfm hg4 hk3 hf3 hg3)
  go_ret
  refine ⟨rfl, ?_⟩
  obtain ⟨hm, hke⟩ := lookE_mem HX.out
  have hk4 : Kb w2 w4 [gm] := HK3.out.grown HG4.out (by simp)
  have hk : Kb w w4 (foot gd gm es) := (HK2.out.mono (L' := foot gd gm es) (by simp [foot])).trans hk4 fun y hy => .inl (by simp at hy; subst hy; simp [foot])
  refine ⟨⟨_, HD2.out.renamed (x := x) (z := t.data.toList) hm hk4 (by rw [hke]; exact HFM.out), ?_, fun y hy => .inl ?_⟩, hk⟩
  · unfold renF
    rw [← hke, ← fls_del, ← fls_del]
    simp [fls, Ent.fl]
  · simp only [foot, List.mem_cons, List.mem_flatMap, List.mem_append] at hy
    rcases hy with rfl | rfl | ⟨y', hy' | hy', hy⟩
    · simp [foot]
    · simp [foot]
    · have := (delE_mem (delE_mem hy').1).1
      rcases hy with rfl | hy
      · exact foot_ent this
      · exact foot_own this (by simpa using hy)
    · simp at hy'
      subst hy'
      rcases hy with rfl | hy
      · exact foot_ent (e := x) hm
      · exact foot_own (e := x) hm (by simpa using hy)
theorem cut_stop_none (hD : DiskAt w gd gm n es room short fuse) (s : ByteArray) (k : Int) (hs : s.size ≤ reach) (hf1 : -9223372036854775808 ≤ fuse) (hf2 : fuse ≤ 9223372036854775807) (hx : lookE es s.data.toList = none) :
    Calls Tryz.prog 26 #[gp gd, .string s, .int .i64 k] w fun e w' => e = .returned (.int .i64 (if chErr (decide (0 ≤ k)) fuse = 0 then 60 else chErr (decide (0 ≤ k)) fuse)) ∧ After w w' gd gm es n (fls es) room short (chFuse (decide (0 ≤ k)) fuse) := by
  have q0 : w.cell? ⟨gd, 0, none⟩ = some (.map (some gm)) := hD.blk.cell 0
  have hM := Shut.mk (made_calls hD)
  have hlk := hD.map.look name_keyed Tryz.underlying71 (zero_file w) (name_key s hs)
  unfold ef at hlk
  rw [hx] at hlk
  have hlk' : (Instr.lookup 71 (.map (some gm)) (.string s) false).run Tryz.prog w = .ok (.pointer none) w := hlk
  by_cases h0 : 0 ≤ k
  · have hC := change_calls true hD hf1 hf2
    rw [decide_eq_true h0]
    by_cases hf : chErr true fuse = 0
    · rw [if_pos hf]
      rw [hf] at hC
      generalize chFuse true fuse = fu at hC ⊢
      have HC := Shut.mk hC
      clear hD hC hf hlk hs
      go_enter Tryz.func26, Tryz.ntmps26
      go_wp2_with fail
      refine hM.out.mono ?_
      rintro e w' ⟨rfl, rfl⟩
      go_wp2_with fail
      refine HC.out.mono ?_
      rintro e w2 ⟨rfl, hD2, hk2⟩
      have HA := Shut.mk (after_setd hD2 hk2 (by simp [foot]))
      clear hD2 hk2 hlk' q0
      go_wp2_with fail
      go_ret
      exact ⟨rfl, HA.out⟩
    · rw [if_neg hf]
      generalize chErr true fuse = ce at hf hC ⊢
      generalize chFuse true fuse = fu at hC ⊢
      have HC := Shut.mk hC
      clear hD hC hlk hs
      go_enter Tryz.func26, Tryz.ntmps26
      go_wp2_with fail
      refine hM.out.mono ?_
      rintro e w' ⟨rfl, rfl⟩
      go_wp2_with fail
      refine HC.out.mono ?_
      rintro e w2 ⟨rfl, hD2, hk2⟩
      have HA := Shut.mk (after_setd hD2 hk2 (by simp [foot]))
      clear hD2 hk2 hlk' q0
      go_wp2_with fail
      go_ret
      exact ⟨rfl, HA.out⟩
  · have hC := change_calls false hD hf1 hf2
    have hce : chErr false fuse = 1 := rfl
    rw [decide_eq_false h0, hce, if_neg (by decide)]
    rw [hce] at hC
    generalize chFuse false fuse = fu at hC ⊢
    have HC := Shut.mk hC
    have h0' : k < 0 := by omega
    clear hD hC hlk hs hce
    go_enter Tryz.func26, Tryz.ntmps26
    go_wp2_with fail
    refine hM.out.mono ?_
    rintro e w' ⟨rfl, rfl⟩
    go_wp2_with fail
    refine HC.out.mono ?_
    rintro e w2 ⟨rfl, hD2, hk2⟩
    have HA := Shut.mk (after_setd hD2 hk2 (by simp [foot]))
    clear hD2 hk2 hlk' q0
    go_wp2_with fail
    go_ret
    exact ⟨rfl, HA.out⟩
set_option maxHeartbeats 1000000 in
theorem cut_stop_some (hD : DiskAt w gd gm n es room short fuse) (s : ByteArray) (k : Int) (hs : s.size ≤ reach) (hf1 : -9223372036854775808 ≤ fuse) (hf2 : fuse ≤ 9223372036854775807) {x : Ent} (hx : lookE es s.data.toList = some x)
    (hstop : chErr (decide (0 ≤ k ∧ k ≤ x.b.length)) fuse ≠ 0) :
    Calls Tryz.prog 26 #[gp gd, .string s, .int .i64 k] w fun e w' => e = .returned (.int .i64 (chErr (decide (0 ≤ k ∧ k ≤ x.b.length)) fuse)) ∧ After w w' gd gm es n (fls es) room short (chFuse (decide (0 ≤ k ∧ k ≤ x.b.length)) fuse) := by
  have q0 : w.cell? ⟨gd, 0, none⟩ = some (.map (some gm)) := hD.blk.cell 0
  have hM := Shut.mk (made_calls hD)
  have hlk := hD.map.look name_keyed Tryz.underlying71 (zero_file w) (name_key s hs)
  unfold ef at hlk
  rw [hx] at hlk
  have hlk' : (Instr.lookup 71 (.map (some gm)) (.string s) false).run Tryz.prog w = .ok (gp x.g) w := hlk
  have hb := hD.file x (lookE_mem hx).1
  obtain ⟨Av, cv, hvv, _⟩ := (hD.own x (lookE_mem hx).1).form
  rw [hvv] at hb
  obtain ⟨NX, hNX⟩ : ∃ NX, NX = x.b.length := ⟨_, rfl⟩
  rw [← hNX] at hb hstop ⊢
  have s0 : w.cell? ⟨x.g, 0, none⟩ = some (.slice Av NX cv) := hb.cell 0
  have HC := Shut.mk (fun ok => change_calls ok hD hf1 hf2)
  clear hD hlk hs hvv hb hNX hx hf1 hf2
  by_cases h0 : 0 ≤ k
  · by_cases h1 : k ≤ NX
    · have hC := HC.out true
      rw [decide_eq_true (show 0 ≤ k ∧ k ≤ (NX : Int) from ⟨h0, h1⟩)] at hstop ⊢
      generalize chErr true fuse = ce at hstop hC ⊢
      generalize chFuse true fuse = fu at hC ⊢
      have HC2 := Shut.mk hC
      clear hC
      go_enter Tryz.func26, Tryz.ntmps26
      go_wp2_with fail
      refine hM.out.mono ?_
      rintro e w' ⟨rfl, rfl⟩
      go_wp2_with fail
      refine HC2.out.mono ?_
      rintro e w2 ⟨rfl, hD2, hk2⟩
      have HA := Shut.mk (after_setd hD2 hk2 (by simp [foot]))
      clear hD2 hk2 hlk' q0 s0
      go_wp2_with fail
      go_ret
      exact ⟨rfl, HA.out⟩
    · have hC := HC.out false
      rw [decide_eq_false (show ¬ (0 ≤ k ∧ k ≤ (NX : Int)) by omega)] at hstop ⊢
      have hce : chErr false fuse = 1 := rfl
      rw [hce] at hC ⊢
      generalize chFuse false fuse = fu at hC ⊢
      have HC2 := Shut.mk hC
      have h1' : ¬ k ≤ (NX : Int) := h1
      have hd1 : decide (k ≤ (NX : Int)) = false := decide_eq_false h1
      have hd0 : decide (0 ≤ k) = true := decide_eq_true h0
      clear hC hstop hce
      go_enter Tryz.func26, Tryz.ntmps26
      go_wp2_with fail
      refine hM.out.mono ?_
      rintro e w' ⟨rfl, rfl⟩
      go_wp2_with fail
      refine HC2.out.mono ?_
      rintro e w2 ⟨rfl, hD2, hk2⟩
      have HA := Shut.mk (after_setd hD2 hk2 (by simp [foot]))
      clear hD2 hk2 hlk' q0 s0
      go_wp2_with fail
      go_ret
      exact ⟨rfl, HA.out⟩
  · have hC := HC.out false
    rw [decide_eq_false (show ¬ (0 ≤ k ∧ k ≤ (NX : Int)) by omega)] at hstop ⊢
    have hce : chErr false fuse = 1 := rfl
    rw [hce] at hC ⊢
    generalize chFuse false fuse = fu at hC ⊢
    have HC2 := Shut.mk hC
    have h1' : k < 0 := by omega
    clear hC hstop hce
    go_enter Tryz.func26, Tryz.ntmps26
    go_wp2_with fail
    refine hM.out.mono ?_
    rintro e w' ⟨rfl, rfl⟩
    go_wp2_with fail
    refine HC2.out.mono ?_
    rintro e w2 ⟨rfl, hD2, hk2⟩
    have HA := Shut.mk (after_setd hD2 hk2 (by simp [foot]))
    clear hD2 hk2 hlk' q0 s0
    go_wp2_with fail
    go_ret
    exact ⟨rfl, HA.out⟩
theorem Own.cut {w : World} {e : TypeId} {A : Option Addr} {n c k : Nat} {xs : List Value} (h : Own w e 1 (.slice A n c) n xs) (hk : k ≤ n) : Own w e 1 (.slice A k k) k (xs.take k) := by
  obtain ⟨hl, h⟩ := h
  refine ⟨by rw [List.length_take]; omega, ?_⟩
  rcases h with ⟨hv, hn⟩ | ⟨g, cap, cur, hv, hb, hnc, hcm, hcs, ht⟩
  · injection hv with h1 h2 h3
    subst h1
    left
    have : k = 0 := by omega
    subst this
    exact ⟨rfl, rfl⟩
  · injection hv with h1 h2 h3
    subst h1
    right
    refine ⟨g, k, cur, rfl, hb, Nat.le_refl _, by omega, by omega, ?_⟩
    rw [← ht, List.take_take]
    congr 1
    omega
set_option maxHeartbeats 1000000 in
theorem cut_some (hD : DiskAt w gd gm n es room short fuse) (s : ByteArray) (k : Nat) (hs : s.size ≤ reach) (hf1 : -9223372036854775808 ≤ fuse) (hf2 : fuse ≤ 9223372036854775807) (hf : fuse ≠ 0) {x : Ent} (hx : lookE es s.data.toList = some x)
    (hk : k ≤ x.b.length) :
    Calls Tryz.prog 26 #[gp gd, .string s, .int .i64 (k : Int)] w fun e w' => e = .returned (.int .i64 0) ∧ After w w' gd gm es n (setF (fls es) s.data.toList (x.b.take k) (min x.syn k)) room short (chFuse true fuse) := by
  have q0 : w.cell? ⟨gd, 0, none⟩ = some (.map (some gm)) := hD.blk.cell 0
  have hM := Shut.mk (made_calls hD)
  have hlk := hD.map.look name_keyed Tryz.underlying71 (zero_file w) (name_key s hs)
  unfold ef at hlk
  rw [hx] at hlk
  have hlk' : (Instr.lookup 71 (.map (some gm)) (.string s) false).run Tryz.prog w = .ok (gp x.g) w := hlk
  have hb := hD.file x (lookE_mem hx).1
  obtain ⟨Av, cv, hvv, _, hcv, _⟩ := (hD.own x (lookE_mem hx).1).form
  have HVV := Shut.mk hvv
  rw [hvv] at hb
  obtain ⟨NX, hNX⟩ : ∃ NX, NX = x.b.length := ⟨_, rfl⟩
  rw [← hNX] at hb hk hcv
  have HNX := Shut.mk hNX
  have s0 : w.cell? ⟨x.g, 0, none⟩ = some (.slice Av NX cv) := hb.cell 0
  have hch : chErr true fuse = 0 := by simp [chErr, hf]
  have hC := change_calls true hD hf1 hf2
  rw [hch] at hC
  generalize chFuse true fuse = fu at hC ⊢
  have HC := Shut.mk hC
  have HX := Shut.mk hx
  have hkc : k ≤ cv := by omega
  have hk0 : (0 : Int) ≤ (k : Int) := by omega
  have hk1 : (k : Int) ≤ (NX : Int) := by omega
  have hmin : (if (k : Int) < (x.syn : Int) then (k : Int) else (x.syn : Int)) = ((min x.syn k : Nat) : Int) := by split <;> omega
  have hmin2 : (if k < x.syn then (k : Int) else (x.syn : Int)) = ((min x.syn k : Nat) : Int) := by split <;> omega
  have hsx := (hD.len x (lookE_mem hx).1).1
  clear hD hC hlk hs hf hf1 hf2 hch hvv hb hNX hx
  go_enter Tryz.func26, Tryz.ntmps26
  go_wp2_with fail
  refine hM.out.mono ?_
  rintro e w' ⟨rfl, rfl⟩
  go_wp2_with fail
  refine HC.out.mono ?_
  rintro e w2 ⟨rfl, hD2, hk2⟩
  obtain ⟨hm, hke⟩ := lookE_mem HX.out
  have hb2 := hD2.file x hm
  have HB2 := Shut.mk hb2
  rw [HVV.out, ← HNX.out] at hb2
  have r0 : w2.cell? ⟨x.g, 0, none⟩ = some (.slice Av NX cv) := hb2.cell 0
  have f0 := hb2.free 0
  have hb3 := hb2.set_ 0 (.slice Av k k)
  have r1 : (w2.setCell ⟨x.g, 0, none⟩ (.slice Av k k)).cell? ⟨x.g, 1, none⟩ = some (.int .i64 (x.syn : Int)) := hb3.cell 1
  have f1 := hb3.free 1
  have HB3 := Shut.mk hb3
  have HD2 := Shut.mk hD2
  have HK2 := Shut.mk hk2
  have HHK := Shut.mk hk
  have HHM := Shut.mk hm
  have HKE := Shut.mk hke
  clear hD2 hk2 hlk' q0 s0 hb2 hb3 hm hke hk
  go_wp2_with fail
  go_ret
  refine ⟨rfl, ?_⟩
  have hm := HHM.out
  have hke := HKE.out
  obtain ⟨M, hM'⟩ : ∃ M, M = min x.syn k := ⟨_, rfl⟩
  rw [← hM']
  have hkb : Kb w2 ((w2.setCell ⟨x.g, 0, none⟩ (.slice Av k k)).setCell ⟨x.g, 1, none⟩ (.int .i64 (M : Int))) (x.g :: x.v.ownBlock.toList) := ((Kb.refl w2 _).setCell (by simp) _).setCell (by simp) _
  have hx2 : lookE es { x with v := .slice Av k k, b := x.b.take k, syn := M }.key = some x := by simpa [hke] using HX.out
  have hob : ∀ g, (Value.slice Av k k).ownBlock = some g → x.v.ownBlock = some g := fun g hg => by
    rw [HVV.out]
    cases Av with
    | none => cases hg
    | some ad => exact hg
  have hne := fun g hg => blk_own_ne HB2.out (by decide) (HD2.out.own x hm) g (hob g hg)
  have ho0 : Own w2 5 1 (.slice Av k k) k ((bys x.b).take k) := by
    have h := HD2.out.own x hm
    rw [HVV.out, ← HNX.out] at h
    exact h.cut HHK.out
  have hlt : (x.b.take k).length = k := by rw [List.length_take]; have := HNX.out; have := HHK.out; omega
  have ho1 := ((ho0.keep (w' := w2.setCell ⟨x.g, 0, none⟩ (.slice Av k k)) fun g hg => Below.heap_setCell w2 _ _ g (hne g hg)).keep (w' := (w2.setCell ⟨x.g, 0, none⟩ (.slice Av k k)).setCell ⟨x.g, 1, none⟩ (.int .i64 (M : Int))) fun g hg => Below.heap_setCell _ _ _ g (hne g hg)).cast hlt.symm (bys_take x.b k).symm
  refine ⟨⟨setE es { x with v := .slice Av k k, b := x.b.take k, syn := M }, HD2.out.replace (x := { x with v := .slice Av k k, b := x.b.take k, syn := M }) hx2 rfl hkb (HB3.out.set_ 1 _) ho1 (fun g hg => .inl (hob g hg)) ⟨?_, ?_⟩ ?_, ?_, ?_⟩, ?_⟩
  · show M ≤ (x.b.take k).length
    rw [hlt]
    omega
  · show (x.b.take k).length ≤ _
    rw [hlt]
    have h1 := (HD2.out.len x hm).2
    have h2 := HHK.out
    have h3 := HNX.out
    omega
  · have := used_set HD2.out.keys (x := { x with v := .slice Av k k, b := x.b.take k, syn := M }) hx2
    have h2 := HD2.out.sum
    simp only [hlt] at this
    have h4 := HHK.out
    have h3 := HNX.out
    omega
  · rw [fls_setF]
    simp only [hke]
  · intro y hy
    exact (foot_set (B := w.heap.size) hx2 rfl (fun g hg => .inl (hob g hg)) y hy)
  · refine HK2.out.mono (L' := foot gd gm es) (by simp [foot]) |>.trans hkb fun y hy => .inl ?_
    rcases List.mem_cons.1 hy with rfl | hy
    · exact foot_ent hm
    · exact foot_own hm (by simpa using hy)
end
end Go.Proofs.YtmlfeljhojmbbaaGreatDoor
