/- The log's plain law: a disk that writes whole or stopped, call by call; a manifest's write. Walk: the segments of a manifest. Walk: the log's remove. The log's plain law: syncs in a row; rows of records; a file's reading by way of the log. -/
import Derived.Test.YtmlfeljhojmbbaaGreatDoorLgA
import Derived.Test.YtmlfeljhojmbbaaGreatDoorChunk
import Derived.BigQuiet
import Derived.Deep.RegionHeld3
namespace Go.Proofs.YtmlfeljhojmbbaaGreatDoor
open Go.RowKit Go.Maps Go.Sort
set_option linter.unusedSimpArgs false
set_option linter.unusedVariables false
set_option maxRecDepth 100000

/-- a disk that writes whole, or stopped -/
structure Liv (d : Ds) (N U : Nat) : Prop where
  n : d.n ≤ N
  u : used d.S ≤ U
  room : d.room = 1048576
  short : d.short = -1
  f0 : -1 ≤ d.fuse
  f1 : d.fuse ≤ 9223372036854775807
abbrev Key7 (d : Ds) : Prop := d.S.Pairwise fun a b => a.1 ≠ b.1
theorem Liv.okN {d : Ds} {N U : Nat} (h : Liv d N U) (k : Nat) (hN : N + k ≤ 800000000) : OkN d k :=
  ⟨by have := h.n; omega, by rw [h.room]; omega, by rw [h.room]; omega, by rw [h.short]; omega, by rw [h.short]; omega, h.f0, h.f1⟩
theorem Liv.mono {d : Ds} {N U N' U' : Nat} (h : Liv d N U) (h1 : N ≤ N') (h2 : U ≤ U') : Liv d N' U' := ⟨Nat.le_trans h.n h1, Nat.le_trans h.u h2, h.room, h.short, h.f0, h.f1⟩
theorem LD.keys {w : World} {gl gd Z : Nat} {H : List Nat} {d : Ds} {l : List Nat} {dead : Bool} (h : LD w gl gd Z H d l dead) : Key7 d := by
  obtain ⟨F, hD, _⟩ := h.disk
  exact dd_keys hD
theorem look_of_mem {S : List Fl} (hk : S.Pairwise fun a b => a.1 ≠ b.1) {x : Fl} (hx : x ∈ S) : look S x.1 = some x.2 := by
  induction S with
  | nil => cases hx
  | cons y r ih =>
    rw [List.pairwise_cons] at hk
    rw [look_cons]
    rcases List.mem_cons.1 hx with rfl | hx
    · rw [if_pos rfl]
    · rw [if_neg (hk.1 x hx)]
      exact ih hk.2 hx
theorem chF {f : Int} (h0 : -1 ≤ f) (h1 : f ≤ 9223372036854775807) (hf : f ≠ 0) : -1 ≤ chFuse true f ∧ chFuse true f ≤ 9223372036854775807 := chFuse_range h0 h1
theorem chFuse_calm : chFuse true (-1) = -1 := by decide
theorem chFuse_zero (ok : Bool) : chFuse ok 0 = 0 := by unfold chFuse; simp
theorem burn_zero {d : Ds} (h : d.fuse = 0) (ok : Bool) : d.burn ok = d := by
  unfold Ds.burn
  cases d
  simp only at h
  subst h
  simp [chFuse_zero]
theorem app_cases {d : Ds} {N U : Nat} (h : Liv d N U) (hk : Key7 d) (s b : List UInt8) (hs : nameOk s = true) (hU : U + b.length ≤ 1048576) :
    (dApp d s b = (62, 0, d) ∧ d.fuse = 0) ∨ ∃ d', dApp d s b = (0, b.length, d') ∧ Liv d' (N + 1) (U + b.length) ∧ d.fuse ≠ 0 ∧ (d.fuse = -1 → d'.fuse = -1) ∧ d'.S = addF d.S s b := by
  have hu := h.u
  have hal : appLen d.short b.length = b.length := by rw [h.short]; simp [appLen]
  by_cases hf : d.fuse = 0
  · left
    refine ⟨?_, hf⟩
    unfold dApp
    rw [hs, hf]
    rw [if_pos (by simp [chErr]), burn_zero hf]
    simp [chErr]
  · right
    refine ⟨{ d.burn true with n := d.n + 1, short := -1, S := addF d.S s b }, ?_, ?_, hf, ?_, rfl⟩
    · unfold dApp
      rw [hs, chErr_true hf, if_neg (by simp), hal, if_neg, if_neg (by omega), List.take_of_length_le (Nat.le_refl _)]
      have := lenF_le7 d.S s
      rw [h.room]
      omega
    · have hr := chF h.f0 h.f1 hf
      exact ⟨by show d.n + 1 ≤ _; have := h.n; omega, by show used (addF d.S s b) ≤ _; rw [used_addF7 hk]; omega, h.room, rfl, hr.1, hr.2⟩
    · intro e
      show chFuse true d.fuse = -1
      rw [e, chFuse_calm]
theorem sync_cases {d : Ds} {N U : Nat} (h : Liv d N U) (hk : Key7 d) {s b : List UInt8} {sy : Nat} (hl : look d.S s = some (b, sy)) :
    (dSync d s = (62, d) ∧ d.fuse = 0) ∨ ∃ d', dSync d s = (0, d') ∧ Liv d' N U ∧ d.fuse ≠ 0 ∧ (d.fuse = -1 → d'.fuse = -1) ∧ d'.S = setF d.S s b b.length ∧ d'.n = d.n := by
  by_cases hf : d.fuse = 0
  · left
    exact ⟨by unfold dSync; rw [if_pos hf], hf⟩
  · right
    refine ⟨{ d.burn true with S := setF d.S s b b.length }, ?_, ?_, hf, ?_, rfl, rfl⟩
    · unfold dSync
      rw [if_neg hf, hl]
    · have hr := chF h.f0 h.f1 hf
      refine ⟨h.n, Nat.le_trans (used_setF_le fun x hx e => ?_) h.u, h.room, h.short, hr.1, hr.2⟩
      have := look_of_mem hk hx
      rw [e, hl] at this
      injection this with this
      rw [← this]
      exact Nat.le_refl _
    · intro e
      show chFuse true d.fuse = -1
      rw [e, chFuse_calm]
theorem del_cases {d : Ds} {N U : Nat} (h : Liv d N U) {s : List UInt8} {p : List UInt8 × Nat} (hl : look d.S s = some p) :
    (dDel d s = (62, d) ∧ d.fuse = 0) ∨ ∃ d', dDel d s = (0, d') ∧ Liv d' N U ∧ d.fuse ≠ 0 ∧ (d.fuse = -1 → d'.fuse = -1) ∧ d'.S = delF d.S s ∧ d'.n = d.n := by
  by_cases hf : d.fuse = 0
  · left
    exact ⟨by unfold dDel; rw [if_pos hf], hf⟩
  · right
    refine ⟨{ d.burn true with S := delF d.S s }, ?_, ?_, hf, ?_, rfl, rfl⟩
    · unfold dDel
      rw [if_neg hf, hl]
    · have hr := chF h.f0 h.f1 hf
      exact ⟨h.n, Nat.le_trans (used_delF_le _ _) h.u, h.room, h.short, hr.1, hr.2⟩
    · intro e
      show chFuse true d.fuse = -1
      rw [e, chFuse_calm]
theorem dDel_stop {d : Ds} (h : d.fuse = 0) (s : List UInt8) : dDel d s = (62, d) := by unfold dDel; rw [if_pos h]
theorem ren_cases {d : Ds} {N U : Nat} (h : Liv d N U) {a z b : List UInt8} {sy : Nat} (hz : nameOk z = true) (hl : look d.S a = some (b, sy)) :
    (dRen d a z = (62, d) ∧ d.fuse = 0) ∨ ∃ d', dRen d a z = (0, d') ∧ Liv d' (N + 1) U ∧ d.fuse ≠ 0 ∧ (d.fuse = -1 → d'.fuse = -1) ∧ d'.S = renF d.S a z b sy := by
  by_cases hf : d.fuse = 0
  · left
    refine ⟨?_, hf⟩
    unfold dRen
    rw [hz, hf, if_pos (by simp [chErr]), burn_zero hf]
    simp [chErr]
  · right
    refine ⟨{ d.burn true with n := d.n + 1, S := renF d.S a z b sy }, ?_, ?_, hf, ?_, rfl⟩
    · unfold dRen
      rw [hz, chErr_true hf, if_neg (by simp), hl]
    · have hr := chF h.f0 h.f1 hf
      exact ⟨by show d.n + 1 ≤ _; have := h.n; omega, Nat.le_trans (used_renF_le hl) h.u, h.room, h.short, hr.1, hr.2⟩
    · intro e
      show chFuse true d.fuse = -1
      rw [e, chFuse_calm]
theorem cut_cases {d : Ds} {N U : Nat} (h : Liv d N U) (hk : Key7 d) {s b : List UInt8} {sy : Nat} (hl : look d.S s = some (b, sy)) {k : Nat} (hkb : k ≤ b.length) :
    (dCut d s k = (62, d) ∧ d.fuse = 0) ∨ ∃ d', dCut d s k = (0, d') ∧ Liv d' N U ∧ d.fuse ≠ 0 ∧ (d.fuse = -1 → d'.fuse = -1) ∧ d'.S = setF d.S s (b.take k) (min sy k) ∧ d'.n = d.n := by
  have hok : cutOk d s k = true := by
    unfold cutOk
    rw [hl]
    simp
    omega
  by_cases hf : d.fuse = 0
  · left
    refine ⟨?_, hf⟩
    unfold dCut
    rw [hok, hf, if_pos (by simp [chErr]), burn_zero hf]
    simp [chErr]
  · right
    refine ⟨{ d.burn true with S := setF d.S s (b.take k) (min sy k) }, ?_, ?_, hf, ?_, rfl, rfl⟩
    · unfold dCut
      rw [hok, chErr_true hf, if_neg (by simp), hl]
      rfl
    · have hr := chF h.f0 h.f1 hf
      refine ⟨h.n, Nat.le_trans (used_setF_le fun x hx e => ?_) h.u, h.room, h.short, hr.1, hr.2⟩
      have := look_of_mem hk hx
      rw [e, hl] at this
      injection this with this
      rw [← this]
      simp only [List.length_take]
      omega
    · intro e
      show chFuse true d.fuse = -1
      rw [e, chFuse_calm]
/-! keys stay -/
theorem keys_setF {S : List Fl} (h : S.Pairwise fun a b => a.1 ≠ b.1) (k b : List UInt8) (sy : Nat) : (setF S k b sy).Pairwise fun a b => a.1 ≠ b.1 := by
  have : ∀ x : Fl, (if x.1 == k then (k, b, sy) else x : Fl).1 = x.1 := fun x => by
    by_cases hx : x.1 = k <;> simp [hx]
  unfold setF
  rw [List.pairwise_map]
  exact h.imp fun h => by rw [this, this]; exact h
theorem keys_delF {S : List Fl} (h : S.Pairwise fun a b => a.1 ≠ b.1) (k : List UInt8) : (delF S k).Pairwise fun a b => a.1 ≠ b.1 := h.filter _
theorem keys_snoc {S : List Fl} (h : S.Pairwise fun a b => a.1 ≠ b.1) {x : Fl} (hx : look S x.1 = none) : (S ++ [x]).Pairwise fun a b => a.1 ≠ b.1 := by
  rw [List.pairwise_append]
  refine ⟨h, List.pairwise_singleton _ _, fun a ha b hb => ?_⟩
  obtain rfl : b = x := by simpa using hb
  intro e
  have := look_of_mem h ha
  rw [e, hx] at this
  cases this
theorem keys_addF {S : List Fl} (h : S.Pairwise fun a b => a.1 ≠ b.1) (k b : List UInt8) : (addF S k b).Pairwise fun a b => a.1 ≠ b.1 := by
  unfold addF
  cases hl : look S k with
  | none => exact keys_snoc h hl
  | some p =>
    obtain ⟨b0, sy⟩ := p
    exact keys_setF h k (b0 ++ b) sy
theorem keys_renF {S : List Fl} (h : S.Pairwise fun a b => a.1 ≠ b.1) (a z b : List UInt8) (sy : Nat) : (renF S a z b sy).Pairwise fun a b => a.1 ≠ b.1 := by
  unfold renF
  refine keys_snoc (keys_delF (keys_delF h a) z) ?_
  rw [look_delF, if_pos rfl]
theorem dDel_keys {d : Ds} (h : Key7 d) (s : List UInt8) : Key7 (dDel d s).2 := by
  unfold dDel
  split
  · exact h
  · split
    · exact h
    · exact keys_delF h _
theorem dApp_keys {d : Ds} (h : Key7 d) (s b : List UInt8) : Key7 (dApp d s b).2.2 := by
  unfold dApp
  split
  · exact h
  · split
    · exact h
    · exact keys_addF h _ _
theorem dSync_keys {d : Ds} (h : Key7 d) (s : List UInt8) : Key7 (dSync d s).2 := by
  unfold dSync
  split
  · exact h
  · split
    · exact h
    · exact keys_setF h _ _ _
theorem dRen_keys {d : Ds} (h : Key7 d) (a z : List UInt8) : Key7 (dRen d a z).2 := by
  unfold dRen
  split
  · exact h
  · split
    · exact h
    · exact keys_renF h _ _ _ _
theorem wrt3_keys {d : Ds} (h : Key7 d) (ss : List Nat) : Key7 (wrt3 d ss).2 := by
  unfold wrt3
  split
  · exact dApp_keys h _ _
  · split
    · exact dSync_keys (dApp_keys h _ _) _
    · exact dRen_keys (dSync_keys (dApp_keys h _ _) _) _ _
/-! ### a manifest's write -/
theorem man_ne : manN ≠ freshN := by decide
theorem write_cases {d : Ds} {N U : Nat} (h : Liv d N U) (hk : Key7 d) (l : List Nat) (dead : Bool) (ss : List Nat) (hfr : look d.S freshN = none) (hU : U + (40 + 8 * ss.length) ≤ 1048576) :
    (∃ d', lWrite d l dead ss = (0, d', ss, dead) ∧ Liv d' (N + 2) (U + (40 + 8 * ss.length)) ∧ d.fuse ≠ 0 ∧ (d.fuse = -1 → d'.fuse = -1) ∧ ∀ s, look d'.S s = if s = manN then some (frm (manB ss), 40 + 8 * ss.length) else look d.S s) ∨
    (∃ d', lWrite d l dead ss = (62, d', l, true) ∧ Liv d' (N + 2) (U + (40 + 8 * ss.length)) ∧ d.fuse ≠ -1 ∧ d'.fuse = 0 ∧ ∀ s, s ≠ freshN → look d'.S s = look d.S s) := by
  have hfl : (frm (manB ss)).length = 40 + 8 * ss.length := by rw [frm_length, manB_length]
  have bad : ∀ {d' : Ds}, wrt3 d ss = (62, d') → Liv d' (N + 2) (U + (40 + 8 * ss.length)) → d.fuse ≠ -1 → d'.fuse = 0 → (∀ s, s ≠ freshN → look d'.S s = look d.S s) → (∃ d', lWrite d l dead ss = (62, d', l, true) ∧ Liv d' (N + 2) (U + (40 + 8 * ss.length)) ∧ d.fuse ≠ -1 ∧ d'.fuse = 0 ∧ ∀ s, s ≠ freshN → look d'.S s = look d.S s) := by
    intro d' h1 h2 h3 h4 h5
    refine ⟨d', ?_, h2, h3, h4, h5⟩
    unfold lWrite
    rw [h1, if_neg (by simp), dDel_stop h4]
    simp
  rcases app_cases h hk freshN (frm (manB ss)) (by decide) (by rw [hfl]; exact hU) with ⟨e1, f1⟩ | ⟨d1, e1, v1, f1, c1, s1⟩
  · right
    refine bad (d' := d) ?_ (h.mono (by omega) (by omega)) (by omega) f1 (fun s _ => rfl)
    unfold wrt3
    rw [e1, if_pos (by simp)]
  · have k1 : Key7 d1 := by unfold Key7; rw [s1]; exact keys_addF hk _ _
    have l1 : look d1.S freshN = some (frm (manB ss), 0) := by rw [s1, look_addF, if_pos rfl, hfr]
    have o1 : ∀ s, s ≠ freshN → look d1.S s = look d.S s := fun s hs => by rw [s1, look_addF, if_neg hs]
    rw [hfl] at v1
    rcases sync_cases v1 k1 l1 with ⟨e2, f2⟩ | ⟨d2, e2, v2, f2, c2, s2, n2⟩
    · right
      refine bad (d' := d1) ?_ (v1.mono (by omega) (by omega)) (fun e => by have := c1 e; omega) f2 o1
      unfold wrt3
      rw [e1, if_neg (by simp), e2, if_pos (by simp)]
    · have l2 : look d2.S freshN = some (frm (manB ss), 40 + 8 * ss.length) := by rw [s2, look_setF, if_pos rfl, l1, hfl]; rfl
      have o2 : ∀ s, s ≠ freshN → look d2.S s = look d.S s := fun s hs => by rw [s2, look_setF, if_neg hs, o1 s hs]
      rcases ren_cases v2 (z := manN) (by decide) l2 with ⟨e3, f3⟩ | ⟨d3, e3, v3, f3, c3, s3⟩
      · right
        refine bad (d' := d2) ?_ (v2.mono (by omega) (by omega)) (fun e => by have := c2 (c1 e); omega) f3 o2
        unfold wrt3
        rw [e1, if_neg (by simp), e2, if_neg (by simp), e3]
      · left
        refine ⟨d3, ?_, v3, f1, fun e => c3 (c2 (c1 e)), fun s => ?_⟩
        · have hw : wrt3 d ss = (0, d3) := by
            unfold wrt3
            rw [e1, if_neg (by simp), e2, if_neg (by simp), e3]
          unfold lWrite
          rw [hw, if_pos rfl]
        · rw [s3, look_renF]
          by_cases hs : s = manN
          · rw [if_pos hs, if_pos hs]
          · rw [if_neg hs, if_neg hs]
            by_cases hs2 : s = freshN
            · rw [if_pos hs2, hs2, hfr]
            · rw [if_neg hs2, o2 s hs2]
end Go.Proofs.YtmlfeljhojmbbaaGreatDoor

namespace Go.Proofs.YtmlfeljhojmbbaaGreatDoor
open Go.RowKit Go.Maps Go.Shelf
set_option linter.unusedSimpArgs false
set_option linter.unusedVariables false
set_option maxRecDepth 100000
attribute [local go_sem] Oper.semAt_some

theorem info_i64b : (Tryz.prog.info? 3).map (fun i => (i.zero, i.size, i.bytes)) = some (some (.int .i64 0), 1, 8) := by kernel_rfl
theorem wpListIn_append7 {F : Fence} {f : Nat} {P : Program} (w : World) {ops : Array Oper} {rest : List Oper} {o : Oper} {a : Act} {Q : Exit → Act → World → Prop} (hgd : o.guard = none) (s x : Operand) (t : TypeId)
    (ho : o.op = .call { callee := .builtin .append, args := #[s, x], argTypes := #[t, t] })
    (e : TypeId) (i : TypeInfo) (z : Value) (size bytes : Nat) (ht : P.underlying t = some (.slice e)) (hi : P.info? e = some i) (hz : i.zero = some z)
    (hsize : i.size = size) (hby : i.bytes = bytes) (hzs : z.cells.size = size) (hsz : 0 < size)
    (v : Value) (n : Nat) (xs : List Value) (hs : a.eval s = v) (hown : Own w e size v n xs)
    (A : Option Addr) (m c : Nat) (news : List Value) (hx : a.eval x = .slice A m c) (hl : news.length = m * size) (hr : Rd w A news) (h1 : ∀ u ∈ news, u.oneCell' = true)
    (h63 : n + m ≤ maxLen) (hbytes : (n + m) * bytes ≤ 140737488355328)
    (h : ∀ v' w', Appended w w' e size v v' n m xs news → wpListIn F f P ops Q rest (a.put o.dst v') w') : wpListIn F f P ops Q (o :: rest) a w := by
  refine wpListIn_plain hgd fun K hK' => ?_
  obtain ⟨v', w', hrun, hp⟩ := run_append (P := P) w t o.type e i z size bytes ht hi hz hsize hby hzs hsz v n xs hown A m c news hl hr h1 h63 hbytes
  unfold Oper.wpIn
  refine ⟨?_, ?_⟩
  · simp [Oper.about, ho, resolve, Target.leads, Sem.run_pure]
  · rw [Oper.semAt_plain F _ _ (by rw [ho]; intro c hc'; cases hc')]
    simp [execOp, ho, resolve, invoke, builtin, hs, hx, hrun, Result.andThen]
    exact hK' _ _ (h v' w' hp)
/-- what a round of the manifest's chunks keeps -/
structure PI (w : World) (GR GL BS BN g c2 K : Nat) (ss : List Nat) (pre : List (Ix8 K)) (W : World) : Prop where
  st : ∃ A c', Boxed W GL 40 (.slice A pre.length c') ∧ Own W 3 1 (.slice A pre.length c') pre.length (its (pre.map fun x => ss.getD x.1 0)) ∧ ∀ q, (Value.slice A pre.length c').ownBlock = some q → BN < q
  gr : Boxed W GR 40 (.slice none 0 0)
  bs : Boxed W BS 27 (.slice (some ⟨g, 0, none⟩) (8 * K) c2)
  bn : Boxed W BN 3 (.int .i64 8)
  own : Own W 5 1 (.slice (some ⟨g, 0, none⟩) (8 * K) c2) (8 * K) (bys (manB ss))
  below : Below w.heap.size w W
theorem own_cells {w : World} {e size : Nat} {v : Value} {n : Nat} {xs : List Value} (h : Own w e size v n xs) {q : Nat} (hq : v.ownBlock = some q) : ∃ cs t p, w.heap[q]? = some (.cells cs t p) := by
  rcases h.2 with ⟨rfl, _⟩ | ⟨g, cap, cur, rfl, hb, _⟩
  · cases hq
  · cases hq
    exact ⟨_, _, _, hb⟩
theorem PI.grown {w : World} {GR GL BS BN g c2 K B : Nat} {ss : List Nat} {pre : List (Ix8 K)} {W W' : World} {row : Option Nat} (h : PI w GR GL BS BN g c2 K ss pre W) (hg : W.grownBy W' row) (hB : w.heap.size ≤ B)
    (hr : ∀ r, row = some r → B ≤ r ∧ ∃ o : Obj, W.heap[r]? = some o ∧ o.isCells = false) : PI w GR GL BS BN g c2 K ss pre W' := by
  have hx : ∀ {q : Nat} {cs t p}, W.heap[q]? = some (.cells cs t p) → some q ≠ row := by
    intro q cs t p hq e
    obtain ⟨_, o, ho, hc⟩ := hr q e.symm
    rw [hq] at ho
    cases ho
    cases hc
  obtain ⟨A, c', a1, a2, a3⟩ := h.st
  refine ⟨⟨A, c', a1.kept hg (hx a1), a2.keep fun q hq => ?_, a3⟩, h.gr.kept hg (hx h.gr), h.bs.kept hg (hx h.bs), h.bn.kept hg (hx h.bn), h.own.keep fun q hq => ?_, h.below.grown hg h.below.size fun r e => Nat.le_trans hB (hr r e).1⟩
  · obtain ⟨cs, t, p, hc⟩ := own_cells a2 hq
    exact hg.block q (a2.block_lt hq) (hx hc)
  · obtain ⟨cs, t, p, hc⟩ := own_cells h.own hq
    exact hg.block q (h.own.block_lt hq) (hx hc)
theorem manB_byte : ∀ (ss : List Nat) (X j : Nat), X < ss.length → j < 8 → (manB ss).getD (8 * X + j) 0 = (putl (ss.getD X 0) 8).getD j 0
  | [], X, j, h, _ => by simp at h
  | n :: r, 0, j, h, hj => by
    show (putl n 8 ++ manB r).getD _ 0 = _
    rw [List.getD_eq_getElem?_getD, List.getElem?_append_left (by rw [putl_length]; omega), ← List.getD_eq_getElem?_getD]
    simp
  | n :: r, X + 1, j, h, hj => by
    show (putl n 8 ++ manB r).getD _ 0 = _
    rw [List.getD_eq_getElem?_getD, List.getElem?_append_right (by rw [putl_length]; omega), putl_length, show 8 * (X + 1) + j - 8 = 8 * X + j by omega, ← List.getD_eq_getElem?_getD, manB_byte r X j (by simpa using h) hj]
    simp
theorem putl8_byte (n j : Nat) (hj : j < 8) : ((putl n 8).getD j 0).toNat = n / 256 ^ (7 - j) % 256 := by
  have : j = 0 ∨ j = 1 ∨ j = 2 ∨ j = 3 ∨ j = 4 ∨ j = 5 ∨ j = 6 ∨ j = 7 := by omega
  rcases this with rfl | rfl | rfl | rfl | rfl | rfl | rfl | rfl <;> simp [putl, List.range, List.range.loop, Psha.be]
theorem wraps_u64b (n : Int) (h0 : 0 ≤ n) (h1 : n < 2 ^ 64) : IntKind.u64.wrap n = n := by
  simp only [IntKind.wrap, IntKind.bits, IntKind.signed]
  simpa using Int.emod_eq_of_lt h0 h1
theorem or_u64b (x y : Nat) (hx : x % 256 = 0) (hx₁ : x < 18446744073709551616) (hy : y < 256) : bits .or .u64 (x : Int) (y : Int) = ((x + y : Nat) : Int) := by
  rw [bits_join .u64 64 (by decide) wraps_u64b 8 (x : Int) (y : Int) (by omega) (by omega) (by omega) (by omega) (by omega) (by omega)]
  omega
theorem shl_byte (N j : Nat) (hN : N ≤ 99999999) (hj : j < 8) : bits .or .u64 (IntKind.u64.wrap ((N : Int) / 256 ^ (8 - j) * 256)) ((N : Int) / 256 ^ (7 - j) % 256) = ((N / 256 ^ (8 - (j + 1)) : Nat) : Int) := by
  have e1 : ((N : Int) / 256 ^ (8 - j) * 256) = ((N / 256 ^ (8 - j) * 256 : Nat) : Int) := by push_cast; rfl
  have e2 : ((N : Int) / 256 ^ (7 - j) % 256) = ((N / 256 ^ (7 - j) % 256 : Nat) : Int) := by push_cast; rfl
  have e3 : N / 256 ^ (8 - j) = N / 256 ^ (7 - j) / 256 := by
    rw [Nat.div_div_eq_div_mul, ← Nat.pow_succ]
    congr 2
    omega
  have e4 : N / 256 ^ (7 - j) ≤ N := Nat.div_le_self _ _
  have e5 : 8 - (j + 1) = 7 - j := by omega
  rw [e1, e2, e3, e5]
  generalize N / 256 ^ (7 - j) = M at *
  rw [wraps_u64b _ (by omega) (by omega), or_u64b _ _ (by omega) (by omega) (by omega)]
  congr 1
  omega
theorem results_cell {P : Program} {fn : Func} {t : Tmp} {ty : TypeId} (h : fn.results = #[.cell t ty]) (tmps : Array Value) (w : World) (a : Addr) (v : Value) (ht : tmps.getD t undef = .pointer (some a)) (hl : (loadVar ty a).run P w = .ok v w) :
    (results fn tmps).run P w = .ok v w := by
  have ht' : tmps[t]?.getD undef = .pointer (some a) := by simpa using ht
  simp [results, h, asAddr, ht', hl]
theorem keepsFrom_kb {W W' : World} {L : List Nat} (B : Nat) (hk : Kb W W' L) (hL : ∀ x ∈ L, ∃ cs t p, W.heap[x]? = some (.cells cs t p)) : KeepsFrom B W W' :=
  ⟨hk.size, fun k o hB hk' hc => by
    by_cases h : k ∈ L
    · obtain ⟨cs, t, p, h2⟩ := hL k h
      rw [h2] at hk'
      cases hk'
      cases hc
    · exact (hk.block k (Array.getElem?_eq_some_iff.1 hk').1 h).trans hk'⟩
set_option maxHeartbeats 4000000 in
theorem parse_calls (A : Option Addr) (c K : Nat) (ss : List Nat) (w : World) (hr : RdB w A (frm (manB ss))) (hK : ss.length = K) (h1 : 1 ≤ K) (h2 : K ≤ 500) (hc : 40 + 8 * K ≤ c) (hp : ss.Pairwise (· < ·)) (h9 : ∀ n ∈ ss, 1 ≤ n ∧ n ≤ 99999999)
    (hk : Rd w (some ⟨1, 0, none⟩) (wds Psha.ks)) (hbg : Rd w (some ⟨0, 0, none⟩) (wds Psha.iv.list)) :
    Calls Tryz.prog 43 #[.slice A (40 + 8 * K) c] w fun e w' => ∃ g c', e = .returned (.slice (some ⟨g, 0, none⟩) K c') ∧ Own w' 3 1 (.slice (some ⟨g, 0, none⟩) K c') K (its ss) ∧ Below w.heap.size w w' ∧ w.heap.size ≤ g := by
  have hL : (frm (manB ss)).length = 40 + 8 * K := by rw [frm_length, manB_length, hK]
  have hb1 : Below w.heap.size w (w.alloc (.cells #[.slice none 0 0] 40)) := (Below.refl _ w).alloc (Nat.le_refl _) _
  have HFI : Shut (Calls Tryz.prog 83 #[.slice A (40 + 8 * K) c] (w.alloc (.cells #[.slice none 0 0] 40)) fun e w2 => ∃ g c2, e = .returned (.slice (some ⟨g, 0, none⟩) (8 * K) c2) ∧ Own w2 5 1 (.slice (some ⟨g, 0, none⟩) (8 * K) c2) (8 * K) (bys (manB ss)) ∧ Below (w.heap.size + 1) (w.alloc (.cells #[.slice none 0 0] 40)) w2 ∧ w.heap.size + 1 ≤ g) := ⟨by
    refine (first_calls A c (40 + 8 * K) (frm (manB ss)) _ (hr.keep hb1) hL hc (by omega) (hk.keep hb1) (hbg.keep hb1)).mono ?_
    have hfs : fstL (frm (manB ss)) = some (manB ss) := by
      have := fstL_frm (r := manB ss) ⟨by rw [manB_length]; omega, by rw [manB_length]; omega⟩ []
      rwa [List.append_nil] at this
    rintro e w2 ⟨hb2, ⟨hF, _⟩ | ⟨r, g, c2, hF, rfl, ho2, hg2⟩⟩
    · rw [hfs] at hF
      cases hF
    · rw [hfs] at hF
      injection hF with hF
      subst hF
      rw [manB_length, hK] at ho2 ⊢
      rw [World.size_alloc] at hb2 hg2
      exact ⟨g, c2, rfl, ho2, hb2, hg2⟩⟩
  have HKK := Shut.mk hK
  have HPP := Shut.mk hp
  have HNN := Shut.mk h9
  clear hr hk hbg hL hK hp h9
  refine (callsIn_wide (n := 6)).1 ?_
  have hff : Fence.wide.fn 83 := trivial
  have hfb : Fence.wide.fn 84 := trivial
  refine callsIn_of_wp_marks Tryz.func43 rfl trivial ?_ rfl
  simp only [Tryz.ntmps43, List.size_toArray, List.length_cons, List.length_nil, Nat.reduceAdd, Nat.reduceSub, Array.replicate_succ, Array.replicate_zero, List.push_toArray, List.append_toArray, List.nil_append, List.cons_append]
  have hnil := fun (W : World) (g n c : Nat) => Lib.run_eql_slice_nil (P := Tryz.prog) W 27 5 (some ⟨g, 0, none⟩) n c 0 0 Tryz.underlying27
  gi_wp2_with (first
    | (gi_at_call 83; refine (callsIn_wide.2 HFI.out).mono ?_; rintro e w2 ⟨g, c2, rfl, ho2, hb2, hg2⟩)
    | (gi_at_call 84; refine (chunk_in _ _ _ _ _).mono ?_; rintro e w' ⟨rfl, rfl⟩))
  have hL0 : Below w.heap.size w w2 := (Below.trans hb1 (hb2.mono (by omega)))
  have hsz2 := hb2.size
  rw [World.size_alloc] at hsz2
  have hglt := ho2.block_lt (g := g) rfl
  obtain ⟨GR, hGR⟩ : ∃ GR, GR = w.heap.size := ⟨_, rfl⟩
  obtain ⟨GL, hGL⟩ : ∃ GL, GL = w2.heap.size := ⟨_, rfl⟩
  obtain ⟨BS, hBS⟩ : ∃ BS, BS = GL + 1 := ⟨_, rfl⟩
  obtain ⟨BN, hBN⟩ : ∃ BN, BN = GL + 1 + 1 := ⟨_, rfl⟩
  have r0 : Boxed w2 GR 40 (.slice none 0 0) := by
    rw [hGR]
    exact (hb2.block _ (by omega)).trans (Boxed.new w 40 (.slice none 0 0))
  have hPI : PI w GR GL BS BN g c2 K ss [] (((w2.alloc (.cells #[.slice none 0 0] 40)).alloc (.cells #[.slice (some ⟨g, 0, none⟩) (8 * K) c2] 27)).alloc (.cells #[.int .i64 8] 3)) := by
    refine ⟨⟨none, 0, ?_, Own.nil _ _ _, fun q hq => by cases hq⟩, ((r0.alloc _).alloc _).alloc _, ?_, ?_, ((ho2.alloc _).alloc _).alloc _, ((hL0.alloc (by omega) _).alloc (by simp; omega) _).alloc (by simp; omega) _⟩
    · rw [hGL]
      exact ((Boxed.new w2 _ _).alloc _).alloc _
    · have := (Boxed.new (w2.alloc (.cells #[.slice none 0 0] 40)) 27 (.slice (some ⟨g, 0, none⟩) (8 * K) c2)).alloc (.cells #[.int .i64 8] 3)
      rw [World.size_alloc] at this
      rw [hBS, hGL]
      exact this
    · have := Boxed.new ((w2.alloc (.cells #[.slice none 0 0] 40)).alloc (.cells #[.slice (some ⟨g, 0, none⟩) (8 * K) c2] 27)) 3 (.int .i64 8)
      rw [World.size_alloc, World.size_alloc] at this
      rw [hBN, hGL]
      exact this
  obtain ⟨W0, hW0⟩ : ∃ W0, ((w2.alloc (.cells #[.slice none 0 0] 40)).alloc (.cells #[.slice (some ⟨g, 0, none⟩) (8 * K) c2] 27)).alloc (.cells #[.int .i64 8] 3) = W0 := ⟨_, rfl⟩
  have hszW : W0.heap.size = GL + 3 := by rw [← hW0, hGL]; simp
  rw [hW0] at hPI ⊢
  rw [← hGL] at hsz2 hglt ⊢
  rw [← hBN, ← hBS, ← hGR]
  have hcap : 8 * K ≤ c2 := by
    obtain ⟨A9, c9, e9, _, hcap, _⟩ := hPI.own.form
    cases e9
    exact hcap
  have HSTOP := chunk_stops 5 (by omega) BS BN w.heap.size ⟨g, 0, none⟩ c2 K (by omega) hcap W0 (by omega) (by omega) hPI.bs.cell hPI.bn.cell
  have hn1 : w.heap.size ≤ GR := by omega
  have hn2 : GR < GL := by omega
  have hn3 : GL < BS := by omega
  have hn4 : BS < BN := by omega
  have hn5 : g < GL := hglt
  have hn6 : GR < g := by omega
  have hn7 : w.heap.size ≤ W0.heap.size := by omega
  have hn8 : BN < W0.heap.size := by omega
  clear hW0 hBS hBN hGL hcap hL0 hsz2 hglt r0 ho2 hb2 hg2 hb1 hGR hszW HFI
  refine wpIn_rangeFunc_ownH (n := 6) rfl (by omega) (gf := 103) (lb := #[.pointer (some ⟨BS, 0, none⟩), .pointer (some ⟨BN, 0, none⟩)]) rfl trivial (enters_of Tryz.func103 (by kernel_rfl) rfl)
    HSTOP (fun h k => Kc.trans h k) (fun W l o o' hl ho h1 h2 => ?kb) (Below.refl _ _) (fun _ => rfl)
    (PI w GR GL BS BN g c2 K ss)
    (fun c pre _ => c = .ret ∧ ¬ upTo pre)
    (fun pre A B row hs hg hr => hs.grown hg hn7 hr)
    (fun _ _ _ _ _ hs _ _ => hs)
    hPI
    (fun x a' W => a' = { tmps := #[.slice A (40 + 8 * K) c, undef, .pointer (some ⟨GR, 0, none⟩), .slice (some ⟨g, 0, none⟩) (8 * K) c2, .pointer (some ⟨GL, 0, none⟩), .slice (some ⟨g, 8 * x.1, none⟩) 8 8, undef, undef, undef,
      .slice A (40 + 8 * K) c, .slice (some ⟨g, 0, none⟩) (8 * K) c2, .slice (some ⟨g, 0, none⟩) (8 * K) c2, .bool false, .bool false, .slice A (40 + 8 * K) c, .int .i64 (40 + 8 * K), .slice (some ⟨g, 0, none⟩) (8 * K) c2, .int .i64 (8 * K), .int .i64 (40 + 8 * K), .bool false, .bool false, .bool false,
      .slice (some ⟨g, 0, none⟩) (8 * K) c2, .int .i64 (8 * K), .int .i64 0, .bool false, .bool false, .slice (some ⟨g, 0, none⟩) (8 * K) c2, .func (.func 103) #[] #[.pointer (some ⟨BS, 0, none⟩), .pointer (some ⟨BN, 0, none⟩)], .slice (some ⟨g, 8 * x.1, none⟩) 8 8,
      undef, undef, undef, undef, undef, undef, undef, undef, undef, undef, undef, undef, undef, undef, undef, undef, undef, undef, undef, undef, undef, undef, undef, undef, undef, undef, undef, undef, undef, undef, undef, undef, undef, undef, undef, undef, undef, undef, undef, undef, undef], defers := [] })
    (fun x a' _ X Y row hs hg hr => hs)
    ?assign ?body ?done ?stop
  case kb =>
    have hg := grownBy_putObj' W l o'
    have hne : ∀ q, q < W0.heap.size → some q ≠ some l := fun q hq e => by cases e; omega
    have hlt := (Array.getElem?_eq_some_iff.1 ho).1
    exact ⟨(Below.refl _ W).grown hg (by omega) (fun k hk => by cases hk; omega), hg.block BS (by omega) (hne _ (by omega)), hg.block BN (by omega) (hne _ (by omega))⟩
  case assign =>
    rintro l pre x W Q hI hQ
    gi_wp2
    exact hQ _ _ ((KeepsOthers.refl W).from _) (Kc.refl _ _ _ _) hI rfl
  case body =>
    rintro l pre x a' W hl ⟨r, hr⟩ hI rfl hlt
    obtain ⟨i0, hi, hz0, hz1, hz2⟩ := info_parts info_i64b
    obtain ⟨X, hX⟩ := x
    dsimp only
    have hXs : X < ss.length := by rw [HKK.out]; exact hX
    obtain ⟨N, hN⟩ : ∃ N, N = ss.getD X 0 := ⟨_, rfl⟩
    have hN9 : 1 ≤ N ∧ N ≤ 99999999 := by
      rw [hN, List.getD_eq_getElem?_getD, List.getElem?_eq_getElem hXs]
      exact HNN.out _ (List.getElem_mem _)
    have HCB : Shut (∀ j, j < 8 → W.cell? ((⟨g, 8 * X, none⟩ : Addr).add j) = some (.int .u8 ((N / 256 ^ (7 - j) % 256 : Nat) : Int))) := ⟨fun j hj => by
      have h0 := hI.own.cell (8 * X + j) (u := .int .u8 (((manB ss).getD (8 * X + j) 0).toNat : Int)) (by
        rw [bys, List.getElem?_map, List.getD_eq_getElem?_getD, List.getElem?_eq_getElem (by rw [manB_length]; omega)]
        rfl)
      rw [manB_byte ss X j hXs hj, putl8_byte _ j hj, ← hN] at h0
      have e : (⟨g, 8 * X, none⟩ : Addr).add j = ⟨g, 8 * X + j, none⟩ := by
        unfold Addr.add
        split
        · simp [*]
        · rfl
      rw [e]
      exact h0⟩
    generalize (⟨g, 8 * X, none⟩ : Addr) = ad at HCB ⊢
    obtain ⟨A, c', b1, b2, b3⟩ := hI.st
    have HI := Shut.mk hI
    have HB2 := Shut.mk b2
    have HB3 := Shut.mk b3
    have HB1 := Shut.mk b1
    have HXN := Shut.mk hN
    have HHR := Shut.mk hr
    obtain ⟨hN1, hN2⟩ := hN9
    clear hI b1 b2 b3 hN hr hnil HSTOP hPI hff hfb
    gi_wp2
    gi_loopw [6, 32] (fun u i wr => ∃ j : Nat, j ≤ 8 ∧ u = .int .u64 ((N / 256 ^ (8 - j) : Nat) : Int) ∧ i = .int .i64 (j : Int) ∧ wr = W) (fun _ i _ => 8 - (intOf i).toNat)
    case atStart => exact ⟨0, by omega, by simp; omega, rfl, rfl⟩
    case round =>
      obtain ⟨j, hj, rfl, rfl, rfl⟩ := hrel
      by_cases hj8 : j < 8
      · have cj := HCB.out j hj8
        have hjI : (j : Int) < 8 := by omega
        gi_wp2
        go_roundw
        case rel =>
          exact ⟨j + 1, by omega, by rw [shl_byte N j hN2 hj8], by go_num, by trivial⟩
        case measure => first | (simp [intOf]; done) | (simp [intOf]; omega)
      · obtain rfl : j = 8 := by omega
        have e8 : N / 256 ^ (8 - 8) = N := by simp
        rw [e8]
        have hNI1 : (1 : Int) ≤ (N : Int) := by omega
        have hNI2 : (N : Int) ≤ 99999999 := by omega
        obtain ⟨PL, hPL⟩ : ∃ PL, PL = pre.length := ⟨_, rfl⟩
        rw [← hPL] at HB1 HB2 HB3 hlt
        have HPL := Shut.mk hPL
        have cL := HB1.out.cell
        have fL := HB1.out.frozen
        have HGR := Shut.mk HI.out.gr
        have hfin : Shut (∀ (v6 : Value) (w5 w6 : World) (o : Obj), w5 = wr.alloc o → Appended w5 w6 3 1 (.slice A PL c') v6 PL 1 (its (pre.map fun x => ss.getD x.1 0)) [.int .i64 (N : Int)] →
            KeepsFrom W0.heap.size wr (w6.setCell ⟨GL, 0, none⟩ v6) ∧ Kc w.heap.size BS BN wr (w6.setCell ⟨GL, 0, none⟩ v6) ∧ PI w GR GL BS BN g c2 K ss (pre ++ [⟨X, hX⟩]) (w6.setCell ⟨GL, 0, none⟩ v6)) := ⟨by
          intro v6 w5 w6 o ho5 hap
          subst ho5
          obtain ⟨g6, c6, rfl, _, _⟩ := hap.own.head (by omega)
          have hg1 := hap.grown
          have hk6 : Kb wr w6 (Value.slice A PL c').ownBlock.toList := ((Kb.refl wr _).alloc o).trans (Kb.of_grown hg1 (L := (Value.slice A PL c').ownBlock.toList) (fun r hr => by rw [hr]; simp)) (fun x hx => .inl hx)
          have hown : ∀ x ∈ (Value.slice A PL c').ownBlock.toList, (Value.slice A PL c').ownBlock = some x := fun x hx => by simpa using hx
          have hBx : ∀ x ∈ (Value.slice A PL c').ownBlock.toList, BN < x := fun x hx => HB3.out x (hown x hx)
          have hk7 : Kb wr (w6.setCell ⟨GL, 0, none⟩ (.slice (some ⟨g6, 0, none⟩) (PL + 1) c6)) (GL :: (Value.slice A PL c').ownBlock.toList) := (hk6.mono (fun x hx => List.mem_cons_of_mem _ hx)).setCell (by simp) _
          have hne : ∀ q, q < BS → q ≠ GL → q ∉ GL :: (Value.slice A PL c').ownBlock.toList := fun q h1 h2 hx => by
            rcases List.mem_cons.1 hx with h | h
            · exact h2 h
            · have := hBx q h
              omega
          have hne2 : ∀ q, q ≤ BN → q ≠ GL → q ∉ GL :: (Value.slice A PL c').ownBlock.toList := fun q h1 h2 hx => by
            rcases List.mem_cons.1 hx with h | h
            · exact h2 h
            · have := hBx q h
              omega
          have hPI' := HI.out
          have hGLlt := HB1.out.lt
          have hbelow := hk7.below hPI'.below (fun b hb => by
            rcases List.mem_cons.1 hb with h | h
            · omega
            · have := hBx b h
              omega) hPI'.below.size
          have hkeep : ∀ q, q ≤ BN → q ≠ GL → q < wr.heap.size → (w6.setCell ⟨GL, 0, none⟩ (.slice (some ⟨g6, 0, none⟩) (PL + 1) c6)).heap[q]? = wr.heap[q]? := fun q h1 h2 h3 => hk7.block q h3 (hne2 q h1 h2)
          refine ⟨keepsFrom_kb _ hk7 (fun x hx => ?_), ⟨hk7.below (Below.refl _ _) (fun b hb => ?_) hPI'.below.size, hkeep BS (by omega) (by omega) hPI'.bs.lt, hkeep BN (by omega) (by omega) hPI'.bn.lt⟩, ⟨⟨some ⟨g6, 0, none⟩, c6, ?_, ?_, ?_⟩, (hkeep GR (by omega) (by omega) hPI'.gr.lt).trans hPI'.gr, (hkeep BS (by omega) (by omega) hPI'.bs.lt).trans hPI'.bs, (hkeep BN (by omega) (by omega) hPI'.bn.lt).trans hPI'.bn, hPI'.own.keep (fun q hq => hkeep q (by cases hq; show g ≤ BN; omega) (by cases hq; show g ≠ GL; omega) (hPI'.own.block_lt hq)), hbelow⟩⟩
          · rcases List.mem_cons.1 hx with h | h
            · rw [h]
              exact ⟨_, _, _, HB1.out⟩
            · exact own_cells HB2.out (hown x h)
          · rcases List.mem_cons.1 hb with h | h
            · omega
            · have := hBx b h
              omega
          · rw [List.length_append, ← HPL.out]
            refine Boxed.set _ ((HB1.out.alloc o).kept hg1 (fun e => ?_))
            have := HB3.out GL e.symm
            omega
          · rw [List.length_append, ← HPL.out, List.map_append]
            have h6 := hap.own
            have h7 : Own (w6.setCell ⟨GL, 0, none⟩ (.slice (some ⟨g6, 0, none⟩) (PL + 1) c6)) 3 1 (.slice (some ⟨g6, 0, none⟩) (PL + 1) c6) (PL + 1) (its (pre.map fun x => ss.getD x.1 0) ++ [.int .i64 (N : Int)]) := h6.keep (fun q hq => Below.heap_setCell w6 ⟨GL, 0, none⟩ _ q (fun e => by
              rcases hap.lies with h | h
              · rw [hq] at h
                have := HB3.out q h.symm
                simp only at e
                omega
              · rw [hq] at h
                injection h with h
                rw [World.size_alloc] at h
                simp only at e
                omega))
            refine h7.cast rfl ?_
            rw [its, its, List.map_append, HXN.out]
            rfl
          · intro q hq
            rw [List.length_append, ← HPL.out] at hq
            rcases hap.lies with h | h
            · rw [show (Value.slice (some ⟨g6, 0, none⟩) (PL + 1) c6).ownBlock = some q from hq] at h
              exact HB3.out q h.symm
            · rw [show (Value.slice (some ⟨g6, 0, none⟩) (PL + 1) c6).ownBlock = some q from hq] at h
              injection h with h
              rw [World.size_alloc] at h
              have := hPI'.bn.lt
              omega⟩
        have HC6 : Shut (∀ (o : Obj) (w6 : World) (v6 : Value), Appended (wr.alloc o) w6 3 1 (.slice A PL c') v6 PL 1 (its (pre.map fun x => ss.getD x.1 0)) [.int .i64 (N : Int)] → w6.cell? ⟨GL, 0, none⟩ = some (.slice A PL c') ∧ w6.frozen? ⟨GL, 0, none⟩ = false) := ⟨by
          intro o w6 v6 hap
          have hB6 := (HB1.out.alloc o).kept hap.grown (fun e => by have := HB3.out GL e.symm; omega)
          exact ⟨hB6.cell, hB6.frozen⟩⟩
        have HLT := Shut.mk hlt
        clear hj hj8 e8 hlt hPL
        by_cases hP0 : PL = 0
        · subst hP0
          gi_wp2_with (gi_at_builtin; refine wpListIn_append7 _ rfl _ _ _ rfl 3 i0 _ 1 8 Tryz.underlying40 hi hz0 hz1 hz2 rfl (by decide) _ _ _ rfl (HB2.out.alloc _) _ 1 1 _ rfl (by rfl) (rd_new _ _ 3) (by simp [Value.oneCell']) (by simp only [maxLen]; omega) (by omega) ?_; intro v6 w6 hap6; obtain ⟨c6, f6⟩ := HC6.out _ _ _ hap6; obtain ⟨g6, k6, rfl, _, _⟩ := hap6.own.head (by omega))
          exact hfin.out _ _ _ _ rfl hap6
        · have hI0 := HI.out
          have hne : pre ≠ [] := fun e => hP0 (by rw [HPL.out, e]; rfl)
          have HLL : Shut ((its (pre.map fun x => ss.getD x.1 0))[PL - 1]? = some (.int .i64 ((ss.getD (pre.getLast hne).1 0 : Nat) : Int))) := ⟨by
            rw [its_get (by rw [List.length_map, ← HPL.out]; omega), List.getElem_map]
            congr 4
            rw [List.getLast_eq_getElem]
            congr 2
            rw [HPL.out]⟩
          obtain ⟨M, hM⟩ : ∃ M, M = ss.getD (pre.getLast hne).1 0 := ⟨_, rfl⟩
          rw [← hM] at HLL
          have HM := Shut.mk hM
          have hcell := HB2.out.form
          obtain ⟨A5, c5, e5, hr5, _⟩ := hcell
          cases e5
          obtain ⟨a5, rfl, hc5⟩ := hr5 (its_ne (fun e => hne (List.map_eq_nil_iff.1 e)))
          have cl := hc5 (PL - 1) _ HLL.out
          have hP1 : 1 ≤ PL := by omega
          have hPb : PL ≤ 500 := by have := HLT.out; omega
          have hP1I : (0 : Int) < (PL : Int) := by omega
          clear hr5 hc5 hI0 hM
          by_cases hNM : N ≤ M
          · have hNMI : (N : Int) ≤ (M : Int) := by omega
            have cR := HGR.out.cell
            have fR := HGR.out.frozen
            gi_wp2_with fail
            refine ⟨keepsFrom_kb _ ((Kb.refl wr _).setCell (p := ⟨GR, 0, none⟩) (L := [GR]) (by simp) _) (fun x hx => ?_), rfl, fun hup => ?_⟩
            · rw [show x = GR by simpa using hx]
              exact ⟨_, _, _, HGR.out⟩
            · unfold upTo at hup
              rw [List.map_append, List.length_append, List.length_singleton, List.range_succ] at hup
              obtain ⟨hu1, hu2⟩ := List.append_inj' hup rfl
              have hPL' := HPL.out
              have hX2 : X = PL := by rw [hPL']; simpa using hu2
              have hla : (pre.getLast hne).1 = PL - 1 := by
                have h7 : (pre.map (·.1))[PL - 1]? = some (PL - 1) := by
                  rw [hu1, ← hPL']
                  exact List.getElem?_range (by omega)
                rw [List.getElem?_map, List.getElem?_eq_getElem (by omega)] at h7
                rw [List.getLast_eq_getElem]
                simp only [Option.map_some, Option.some.injEq] at h7
                rw [← h7]
                congr 2
                omega
              have hKS := HKK.out
              have h8 := List.pairwise_iff_getElem.1 HPP.out (PL - 1) PL (by omega) (by omega) (by omega)
              have g0 : ∀ q, (hq : q < ss.length) → ss.getD q 0 = ss[q] := fun q hq => by
                rw [List.getD_eq_getElem?_getD, List.getElem?_eq_getElem hq]
                rfl
              have e1 := HM.out.trans ((congrArg (fun q => ss.getD q 0) hla).trans (g0 _ (by omega)))
              have e2 := HXN.out.trans ((congrArg (fun q => ss.getD q 0) hX2).trans (g0 _ (by omega)))
              omega
          · have hNMI : ¬ (N : Int) ≤ (M : Int) := by omega
            have hNMI2 : (M : Int) < (N : Int) := by omega
            gi_wp2_with (gi_at_builtin; refine wpListIn_append7 _ rfl _ _ _ rfl 3 i0 _ 1 8 Tryz.underlying40 hi hz0 hz1 hz2 rfl (by decide) _ _ _ rfl (HB2.out.alloc _) _ 1 1 _ rfl (by rfl) (rd_new _ _ 3) (by simp [Value.oneCell']) (by have := HPL.out; have := HLT.out; simp only [maxLen]; omega) (by have := HLT.out; omega) ?_; intro v6 w6 hap6; obtain ⟨c6, f6⟩ := HC6.out _ _ _ hap6; obtain ⟨g6, k6, rfl, _, _⟩ := hap6.own.head (by omega))
            exact hfin.out _ _ _ _ rfl hap6
  case done =>
    rintro D xs W hDD ⟨hup, hlen⟩ hI hK
    rename_i K0 hK0
    show K0 _ _
    refine hK0 _ _ ?_
    refine wpIn_wide.2 ?_
    obtain ⟨A7, c7, b1, b2, b3⟩ := hI.st
    rw [hlen] at b1 b2 b3
    have hvals : (xs.map fun x => ss.getD x.1 0) = ss := by
      have e : (xs.map fun x => ss.getD x.1 0) = (xs.map (·.1)).map (fun x => ss.getD x 0) := by rw [List.map_map]; rfl
      rw [e, (show xs.map (·.1) = List.range xs.length from hup).trans (congrArg List.range hlen)]
      apply List.ext_getElem
      · simp [HKK.out]
      · intro i h3 h4
        simp [List.getD_eq_getElem?_getD, List.getElem?_eq_getElem h4]
    rw [hvals] at b2
    obtain ⟨g7, k7, e7, _, _⟩ := b2.head (by omega)
    cases e7
    have cL := b1.cell
    have cR := hI.gr.cell
    have fR := hI.gr.frozen
    have hDlt := (Array.getElem?_eq_some_iff.1 hK).1
    have HK7 : Shut ((W.setCell ⟨GR, 0, none⟩ (.slice (some ⟨g7, 0, none⟩) K c7)).heap[D]? = some (.deferred (some []))) := ⟨(Below.heap_setCell W ⟨GR, 0, none⟩ _ D (by show D ≠ GR; omega)).trans hK⟩
    have HKB : Shut (Kb W (W.setCell ⟨GR, 0, none⟩ (.slice (some ⟨g7, 0, none⟩) K c7)) [GR]) := ⟨(Kb.refl W _).setCell (p := ⟨GR, 0, none⟩) (by simp) _⟩
    have HI := Shut.mk hI
    have HB2 := Shut.mk b2
    have HB3 := Shut.mk b3
    have HKD := Shut.mk hK
    clear hI b1 b2 b3 hK hvals hup hlen hK0
    go_wp2_with fail
    refine ⟨by simp, .inl ⟨_, _, rfl, run_takeDeferred HK7.out, ?_⟩⟩
    have hcr : ((W.setCell ⟨GR, 0, none⟩ (.slice (some ⟨g7, 0, none⟩) K c7)).putObj D (.deferred none)).cell? ⟨GR, 0, none⟩ = some (.slice (some ⟨g7, 0, none⟩) K c7) := by
      have h1 := (HI.out.gr.set (.slice (some ⟨g7, 0, none⟩) K c7)).kept (grownBy_putObj' _ D (.deferred none)) (fun e => by cases e; omega)
      exact h1.cell
    have hg9 := grownBy_putObj' (W.setCell ⟨GR, 0, none⟩ (.slice (some ⟨g7, 0, none⟩) K c7)) D (.deferred none)
    have hbel : Below w.heap.size w ((W.setCell ⟨GR, 0, none⟩ (.slice (some ⟨g7, 0, none⟩) K c7)).putObj D (.deferred none)) := (HKB.out.below HI.out.below (fun b hb => by
      rw [show b = GR by simpa using hb]
      exact hn1) HI.out.below.size).grown hg9 (Nat.le_trans HI.out.below.size HKB.out.size) (fun r hr => by cases hr; omega)
    have hgb := HB3.out g7 rfl
    have hgD : g7 ≠ D := fun e => by
      obtain ⟨cs, t, p, hc⟩ := own_cells HB2.out (q := g7) rfl
      have := HKD.out
      rw [← e, hc] at this
      cases this
    refine ⟨.slice (some ⟨g7, 0, none⟩) K c7, results_cell (t := 2) (ty := 40) rfl _ _ ⟨GR, 0, none⟩ _ rfl (by go_simp), ?_⟩
    refine ⟨g7, c7, rfl, HB2.out.keep (fun q hq => ?_), hbel, by omega⟩
    cases hq
    exact (hg9.block g7 (Nat.lt_of_lt_of_le (HB2.out.block_lt rfl) HKB.out.size) (fun e => hgD (by cases e; rfl))).trans (HKB.out.block g7 (HB2.out.block_lt rfl) (by simp; omega))
  case stop =>
    rintro D cd pre W hDD hup ⟨_, hn⟩
    exact absurd hup hn
end Go.Proofs.YtmlfeljhojmbbaaGreatDoor

namespace Go.Proofs.YtmlfeljhojmbbaaGreatDoor
open Go.RowKit Go.Maps Go.Sort
set_option linter.unusedSimpArgs false
set_option linter.unusedVariables false
set_option maxRecDepth 100000

section
variable {w w' : World} {gl gd Z : Nat} {H : List Nat} {d : Ds} {l : List Nat} {dead : Bool}
theorem LD.c0 (h : LD w gl gd Z H d l dead) : w.cell? ⟨gl, 0, none⟩ = some (gp gd) := by
  obtain ⟨A, c, g1, _⟩ := h.log
  exact g1.cell 0
theorem LD.c2 (h : LD w gl gd Z H d l dead) : w.cell? ⟨gl, 2, none⟩ = some (.bool dead) := by
  obtain ⟨A, c, g1, _⟩ := h.log
  exact g1.cell 2
/-- H may be taken to lie in the heap -/
theorem LD.trim (h : LD w gl gd Z H d l dead) : ∃ H', LD w gl gd Z H' d l dead ∧ (∀ x ∈ H', x ∈ H) ∧ ∀ x ∈ H', x < w.heap.size := by
  obtain ⟨⟨F, A, c, ⟨gm, es, hD, hS, hF⟩, h2, h3, h4⟩, h5, h6, h7, h8⟩ := h
  refine ⟨H.filter (fun x => decide (x < w.heap.size)), ⟨⟨foot gd gm es, A, c, ⟨gm, es, hD, hS, fun x hx => hx⟩, h2, fun x hx => ⟨?_, (h3 x (hF x hx)).2⟩, fun a ha hl => ⟨fun hx => (h4 a ha hl).1 (hF _ hx), (h4 a ha hl).2.1, ?_⟩⟩, ?_, fun x hx => h6 x (List.mem_filter.1 hx).1, h7, h8⟩, fun x hx => (List.mem_filter.1 hx).1, fun x hx => by simpa using (List.mem_filter.1 hx).2⟩
  · rw [List.mem_filter]
    exact ⟨(h3 x (hF x hx)).1, by simpa using hD.lt hx⟩
  · rw [List.mem_filter]
    refine ⟨(h4 a ha hl).2.2, ?_⟩
    obtain ⟨a', e', hc⟩ := h2.rd (its_ne hl)
    rw [ha] at e'
    injection e' with e'
    subst e'
    have hpos : 0 < l.length := List.length_pos_iff.2 hl
    have h9 := World.block_lt_of_cell? w _ (hc 0 _ (its_get hpos))
    rw [block_of_add] at h9
    simpa using h9
  · rw [List.mem_filter]
    exact ⟨h5, by simpa using h2.blk.lt⟩
/-- remove, as a function -/
def lRem (d : Ds) : List Nat → Int × Ds
  | [] => (0, d)
  | n :: r => if (look d.S (seg n)).isSome = true then (if (dDel d (seg n)).1 = 0 then lRem (dDel d (seg n)).2 r else dDel d (seg n)) else lRem d r
theorem segS_size {n : Nat} (h : n ≤ 99999999) : (segS n).size ≤ reach := by
  have := seg_length h
  rw [Lib.size_eq, segS_list, this]
  unfold reach
  decide
theorem seg_remove (h : LD w gl gd Z H d l dead) (ho : d.Ok) (n : Nat) (hn : n ≤ 99999999) :
    Calls Tryz.prog 30 #[gp gd, .string (segS n)] w fun e w' => e = .returned (.int .i64 (dDel d (seg n)).1) ∧ LStp w w' gl gd Z H (dDel d (seg n)).2 l dead := by
  have := ld_remove h ho (segS n) (segS_size hn)
  rw [segS_list] at this
  exact this
theorem seg_sync (h : LD w gl gd Z H d l dead) (ho : d.Ok) (n : Nat) (hn : n ≤ 99999999) :
    Calls Tryz.prog 24 #[gp gd, .string (segS n)] w fun e w' => e = .returned (.int .i64 (dSync d (seg n)).1) ∧ LStp w w' gl gd Z H (dSync d (seg n)).2 l dead := by
  have := ld_sync h ho (segS n) (segS_size hn)
  rw [segS_list] at this
  exact this
theorem seg_cut (h : LD w gl gd Z H d l dead) (ho : d.Ok) (n : Nat) (hn : n ≤ 99999999) (k : Int) :
    Calls Tryz.prog 26 #[gp gd, .string (segS n), .int .i64 k] w fun e w' => e = .returned (.int .i64 (dCut d (seg n) k).1) ∧ LStp w w' gl gd Z H (dCut d (seg n) k).2 l dead := by
  have := ld_cut h ho (segS n) k (segS_size hn)
  rw [segS_list] at this
  exact this
theorem seg_append (h : LD w gl gd Z H d l dead) (ho : d.Ok) (n : Nat) (hn : n ≤ 99999999) (A : Option Addr) (m c : Nat) (b : List UInt8) (hr : RdB w A b) (hm : b.length = m) (hmc : m ≤ c) (hml : m ≤ reach) :
    Calls Tryz.prog 21 #[gp gd, .string (segS n), .slice A m c] w fun e w' => e = .returned (.tuple #[.int .i64 ((dApp d (seg n) b).2.1 : Int), .int .i64 (dApp d (seg n) b).1]) ∧ LStp w w' gl gd Z H (dApp d (seg n) b).2.2 l dead := by
  have := ld_append h ho (segS n) A m c b (segS_size hn) hr hm hmc hml
  rw [segS_list] at this
  exact this
theorem seg_has (h : LD w gl gd Z H d l dead) (hn : d.n < 1000000000) (n : Nat) : Calls Tryz.prog 41 #[gp gl, .string (segS n)] w fun e w' => e = .returned (.bool (look d.S (seg n)).isSome) ∧ Below w.heap.size w w' := by
  have := has_calls h hn (segS n)
  rw [segS_list] at this
  exact this
theorem below_drewR {w w' : World} (h : Below w.heap.size w.drew w') : Below w.heap.size w w' := ⟨h.os, h.tape, h.output, h.size, h.block⟩
set_option maxHeartbeats 2000000 in
theorem remove_calls (h : LD w gl gd Z H d l dead) (ho : OkN d 0) (A : Option Addr) (c : Nat) (ss : List Nat) (hr : Rd w A (its ss)) (hA : ∀ a, A = some a → a.block ∉ H ∧ a.block < w.heap.size) (h9 : ∀ n ∈ ss, n ≤ 99999999) (hm : ss.length ≤ 1000) :
    Calls Tryz.prog 53 #[gp gl, .slice A ss.length c] w fun e w' => e = .returned (.int .i64 (lRem d ss).1) ∧ LStp w w' gl gd Z H (lRem d ss).2 l (dead || decide ((lRem d ss).1 = 62)) := by
  obtain ⟨N, hN⟩ : ∃ N, N = ss.length := ⟨_, rfl⟩
  rw [← hN] at hm ⊢
  have HR := Shut.mk hr
  have HA := Shut.mk hA
  have HLL := Shut.mk h9
  have HL := Shut.mk h
  have HO := Shut.mk ho
  have HN := Shut.mk hN
  clear hr hA h9 h ho hN
  go_enter Tryz.func53, Tryz.ntmps53
  go_wp2_with fail
  go_loopw [10] (fun i wr => ∃ k : Nat, k ≤ N ∧ i = .int .i64 k ∧ Shut (∃ d1, OkN d1 0 ∧ LStp w wr gl gd Z H d1 l dead ∧ lRem d ss = lRem d1 (ss.drop k))) (fun i _ => N - (intOf i).toNat)
  case atStart => exact ⟨0, Nat.zero_le _, rfl, ⟨d, HO.out, LStp.same HL.out, rfl⟩⟩
  case round =>
    obtain ⟨k, hk, rfl, ⟨d1, hO1, ⟨H1, hL1, hk1, hs1⟩, hrem⟩⟩ := hrel
    by_cases hlt : k < N
    · have hkl : k < ss.length := by rw [← HN.out]; exact hlt
      obtain ⟨a, hA, hc⟩ := HR.out (its_ne (fun e => by rw [e] at hkl; simp at hkl))
      subst hA
      have c0 := hc k _ (its_get hkl)
      have c2 : wr.cell? (a.add k) = some (.int .i64 (ss[k] : Int)) := (World.cell?_of_block (w := w) (hk1.block _ (World.block_lt_of_cell? w _ c0) (fun hx => (HA.out a rfl).1 (by rw [block_of_add] at hx; exact hx)))).trans c0
      obtain ⟨n, hn⟩ : ∃ n, n = ss[k] := ⟨_, rfl⟩
      have hn9 : n ≤ 99999999 := by rw [hn]; exact HLL.out _ (List.getElem_mem _)
      rw [← hn] at c2
      rw [List.drop_eq_getElem_cons hkl, ← hn] at hrem
      have HREM := Shut.mk hrem
      have HL1 := Shut.mk hL1
      have HO1 := Shut.mk hO1
      have HK1 := Shut.mk (And.intro hk1 hs1)
      have hkI : (k : Int) < (N : Int) := by omega
      clear hc c0 hn hL1 hO1 hk1 hs1 hrem
      go_wp2_with fail
      refine (file_calls n wr hn9 HL1.out.tb.p).mono ?_
      rintro e w2 ⟨rfl, hb2⟩
      have HB2 := Shut.mk hb2
      clear hb2
      go_wp2_with fail
      refine (seg_has (HL1.out.quiet HB2.out) (by have := HO1.out.n; omega) n).mono ?_
      rintro e w3 ⟨rfl, hb3⟩
      have HL3 := Shut.mk ((HL1.out.quiet HB2.out).quiet hb3)
      have HK3 := Shut.mk (show Kb w w3 H ∧ ∀ x ∈ H1, x ∈ H ∨ w.heap.size ≤ x from ⟨(HK1.out.1.below_ HB2.out).below_ hb3, HK1.out.2⟩)
      clear hb3
      by_cases hlk : (look d1.S (seg n)).isSome = true
      · rw [hlk]
        have s0 := HL3.out.c0
        have HF := Shut.mk (file_calls n w3.drew hn9 (HL3.out.quiet (w' := w3.drew) ((Below.refl _ w3).drew)).tb.p)
        go_wp2_with fail
        go_region_held3 (fun w' => w'.cell? ⟨gl, 0, none⟩ = some (gp gd)) (first | exact s0 | exact t0 | exact t1 | exact t2 | go_keep)
          (first
            | (go_at_call 49; refine HF.out.mono ?_; rintro e w4 ⟨rfl, hb4⟩; have HL4 := Shut.mk (HL3.out.quiet (below_drewR (w := w3) hb4)); have t0 := HL4.out.c0; have HB4 := Shut.mk (below_drewR (w := w3) hb4); clear hb4)
            | (go_at_call 30; refine (seg_remove HL4.out HO1.out.ok n hn9).mono ?_; rintro e w5 ⟨rfl, H5, hL5, hk5, hs5⟩; have HL5 := Shut.mk hL5; have t1 := HL5.out.c0; have HK5 := Shut.mk (And.intro hk5 hs5); clear hL5 hk5 hs5)
            | (go_at_call 51; refine (note_calls HL5.out _).mono ?_; rintro e w6 ⟨rfl, H6, hL6, hk6, hs6⟩; have HL6 := Shut.mk hL6; have t2 := HL6.out.c0; have HK6 := Shut.mk (And.intro hk6 hs6); clear hL6 hk6 hs6))
        have HST := Shut.mk (LStp.trans (HK3.out.1.below_ HB4.out) HK3.out.2 (LStp.trans HK5.out.1 HK5.out.2 (⟨H6, HL6.out, HK6.out.1, HK6.out.2⟩ : LStp w5 w6 gl gd Z H5 (dDel d1 (seg n)).2 l (dead || decide ((dDel d1 (seg n)).1 = 62)))))
        have HRR : Shut (lRem d ss = if (dDel d1 (seg n)).1 = 0 then lRem (dDel d1 (seg n)).2 (ss.drop (k + 1)) else dDel d1 (seg n)) := ⟨HREM.out.trans (by
          show (if (look d1.S (seg n)).isSome = true then _ else _) = _
          rw [if_pos hlk])⟩
        obtain ⟨E, hE⟩ : ∃ E, E = (dDel d1 (seg n)).1 := ⟨_, rfl⟩
        rw [← hE] at HST HRR ⊢
        have HE := Shut.mk hE
        clear hE s0 t0 t1 t2
        by_cases hE : E = 0
        · subst hE
          go_wp2_with fail
          go_roundw
          case rel =>
            refine ⟨k + 1, by omega, by go_num, ⟨_, HO1.out.del (seg n), ?_, HRR.out.trans (if_pos rfl)⟩⟩
            have := HST.out
            simpa using this
          case measure => first | (simp [intOf]; done) | (simp [intOf]; omega)
        · go_wp2_with fail
          go_ret
          have h1 := HRR.out.trans (if_neg hE)
          rw [h1, ← HE.out]
          exact ⟨rfl, HST.out⟩
      · rw [Bool.not_eq_true] at hlk
        rw [hlk]
        have HRR : Shut (lRem d ss = lRem d1 (ss.drop (k + 1))) := ⟨HREM.out.trans (by
          show (if (look d1.S (seg n)).isSome = true then _ else _) = _
          rw [if_neg (by rw [hlk]; simp)])⟩
        go_wp2_with fail
        go_roundw
        case rel => exact ⟨k + 1, by omega, by go_num, ⟨_, HO1.out, ⟨H1, HL3.out, HK3.out.1, HK3.out.2⟩, HRR.out⟩⟩
        case measure => first | (simp [intOf]; done) | (simp [intOf]; omega)
    · obtain rfl : k = N := by omega
      have h0 : lRem d ss = (0, d1) := by
        rw [hrem, List.drop_of_length_le (by rw [← HN.out]; exact Nat.le_refl _)]
        rfl
      have HST := Shut.mk (⟨H1, hL1, hk1, hs1⟩ : LStp w wr gl gd Z H d1 l dead)
      clear hrem hL1 hk1 hs1
      go_wp2_with fail
      go_ret
      rw [h0]
      refine ⟨rfl, ?_⟩
      show LStp w wr gl gd Z H d1 l (dead || decide ((0 : Int) = 62))
      rw [show (dead || decide ((0 : Int) = 62)) = dead by simp]
      exact HST.out
end
end Go.Proofs.YtmlfeljhojmbbaaGreatDoor

namespace Go.Proofs.YtmlfeljhojmbbaaGreatDoor
open Go.RowKit Go.Maps Go.Sort
set_option linter.unusedSimpArgs false
set_option linter.unusedVariables false
set_option maxRecDepth 100000

theorem info_rows : (Tryz.prog.info? 27).map (fun i => (i.zero, i.size, i.bytes)) = some (some (.slice none 0 0), 1, 24) := by kernel_rfl
theorem own_row {B : Nat} {w : World} {e : Nat} {v : Value} {n : Nat} {xs : List Value} (h : w.ownsRow B e 1 v n xs) : Own w e 1 v n xs ∧ ∀ g, v.ownBlock = some g → B ≤ g := by
  refine ⟨⟨h.1, ?_⟩, ?_⟩
  · rcases h.2 with h | ⟨g, cap, cur, h1, h2, h3, h4, h5, h6, h7⟩
    · exact .inl h
    · exact .inr ⟨g, cap, cur, h1, h3, h4, h5, by omega, h7⟩
  · intro g hg
    rcases h.2 with ⟨rfl, _⟩ | ⟨g', cap, cur, rfl, h2, _⟩
    · cases hg
    · have e9 : g' = g := by simpa [Value.ownBlock] using hg
      subst e9
      exact h2
/-! ### rows of records -/
/-- these values are slices of these bytes, in blocks of a kind -/
def RwV (w : World) (Q : Nat → Prop) (vs : List Value) (rs : List (List UInt8)) : Prop :=
  vs.length = rs.length ∧ ∀ i, (h : i < rs.length) → ∃ A c, vs[i]? = some (.slice A rs[i].length c) ∧ rs[i].length ≤ c ∧ RdB w A rs[i] ∧ ∀ a, A = some a → Q a.block
theorem RwV.nil (w : World) (Q : Nat → Prop) : RwV w Q [] [] := ⟨rfl, fun i h => by simp at h⟩
theorem RwV.imp {w : World} {Q Q' : Nat → Prop} {vs : List Value} {rs : List (List UInt8)} (h : RwV w Q vs rs) (hq : ∀ x, Q x → Q' x) : RwV w Q' vs rs :=
  ⟨h.1, fun i hi => by
    obtain ⟨A, c, h1, h2, h3, h4⟩ := h.2 i hi
    exact ⟨A, c, h1, h2, h3, fun a ha => hq _ (h4 a ha)⟩⟩
theorem rdB_kept {w w' : World} {A : Option Addr} {l : List UInt8} {L : List Nat} (h : RdB w A l) (hk : Kb w w' L) (hA : ∀ a, A = some a → a.block ∉ L) : RdB w' A l := by
  intro k hkl
  obtain ⟨ad, e, hc⟩ := h k hkl
  refine ⟨ad, e, ?_⟩
  have hlt := World.block_lt_of_cell? w _ hc
  rw [← hc]
  exact World.cell?_of_block (w := w) (hk.block _ hlt (by rw [block_of_add]; exact hA ad e))
theorem RwV.kept {w w' : World} {Q : Nat → Prop} {vs : List Value} {rs : List (List UInt8)} {L : List Nat} (h : RwV w Q vs rs) (hk : Kb w w' L) (hq : ∀ x, Q x → x ∉ L) : RwV w' Q vs rs :=
  ⟨h.1, fun i hi => by
    obtain ⟨A, c, h1, h2, h3, h4⟩ := h.2 i hi
    exact ⟨A, c, h1, h2, rdB_kept h3 hk (fun a ha => hq _ (h4 a ha)), h4⟩⟩
theorem RwV.keep {w w' : World} {Q : Nat → Prop} {vs : List Value} {rs : List (List UInt8)} (h : RwV w Q vs rs) (hb : Below w.heap.size w w') : RwV w' Q vs rs :=
  h.kept (Kb.of_below hb []) (fun x _ hx => by cases hx)
theorem RwV.snoc {w : World} {Q : Nat → Prop} {vs : List Value} {rs : List (List UInt8)} (h : RwV w Q vs rs) {A : Option Addr} {c : Nat} {r : List UInt8} (hc : r.length ≤ c) (hr : RdB w A r) (hq : ∀ a, A = some a → Q a.block) :
    RwV w Q (vs ++ [.slice A r.length c]) (rs ++ [r]) := by
  refine ⟨by simp [h.1], fun i hi => ?_⟩
  rw [List.length_append, List.length_singleton] at hi
  by_cases hlt : i < rs.length
  · obtain ⟨A', c', h1, h2, h3, h4⟩ := h.2 i hlt
    have e : (rs ++ [r])[i] = rs[i] := List.getElem_append_left hlt
    rw [e]
    exact ⟨A', c', by rw [List.getElem?_append_left (by rw [h.1]; exact hlt)]; exact h1, h2, h3, h4⟩
  · obtain rfl : i = rs.length := by omega
    have e : (rs ++ [r])[rs.length] = r := by simp
    rw [e]
    exact ⟨A, c, by rw [← h.1]; simp, hc, hr, hq⟩
/-- a slice of one's own that holds these records: its block lies from lo on, theirs are of a kind, and are not its own -/
def Recs (w : World) (lo : Nat) (P : Nat → Prop) (u : Value) (rs : List (List UInt8)) : Prop :=
  ∃ vs, Own w 27 1 u rs.length vs ∧ RwV w (fun x => P x ∧ x < w.heap.size ∧ u.ownBlock ≠ some x) vs rs ∧ ∀ g, u.ownBlock = some g → lo ≤ g
theorem Recs.nil (w : World) (lo : Nat) (P : Nat → Prop) : Recs w lo P (.slice none 0 0) [] := ⟨[], Own.nil _ _ _, RwV.nil _ _, fun g hg => by cases hg⟩
theorem Recs.kept {w w' : World} {lo : Nat} {P : Nat → Prop} {u : Value} {rs : List (List UInt8)} {L : List Nat} (h : Recs w lo P u rs) (hk : Kb w w' L) (hu : ∀ g, u.ownBlock = some g → g ∉ L) (hp : ∀ x, P x → x < w.heap.size → x ∉ L) : Recs w' lo P u rs := by
  obtain ⟨vs, h1, h2, h3⟩ := h
  exact ⟨vs, hk.own h1 hu, (h2.kept hk (fun x hx => hp x hx.1 hx.2.1)).imp fun x hx => ⟨hx.1, Nat.lt_of_lt_of_le hx.2.1 hk.size, hx.2.2⟩, h3⟩
theorem Recs.quiet {w w' : World} {lo : Nat} {P : Nat → Prop} {u : Value} {rs : List (List UInt8)} (h : Recs w lo P u rs) (hb : Below w.heap.size w w') : Recs w' lo P u rs :=
  h.kept (Kb.of_below hb []) (fun g _ hx => by cases hx) (fun x _ _ hx => by cases hx)
theorem Recs.imp {w : World} {lo lo' : Nat} {P P' : Nat → Prop} {u : Value} {rs : List (List UInt8)} (h : Recs w lo P u rs) (hl : lo' ≤ lo) (hp : ∀ x, P x → P' x) : Recs w lo' P' u rs := by
  obtain ⟨vs, h1, h2, h3⟩ := h
  exact ⟨vs, h1, h2.imp fun x hx => ⟨hp x hx.1, hx.2⟩, fun g hg => Nat.le_trans hl (h3 g hg)⟩
theorem Recs.bound {w : World} {lo : Nat} {P : Nat → Prop} {u : Value} {rs : List (List UInt8)} (h : Recs w lo P u rs) : Recs w lo (fun x => P x ∧ x < w.heap.size) u rs := by
  obtain ⟨vs, h1, h2, h3⟩ := h
  exact ⟨vs, h1, h2.imp fun x hx => ⟨⟨hx.1, hx.2.1⟩, hx.2⟩, h3⟩
theorem kb_appended {w w' : World} {o : Obj} {e size : Nat} {u u' : Value} {n m : Nat} {xs news : List Value} (hap : Appended (w.alloc o) w' e size u u' n m xs news) : Kb w w' u.ownBlock.toList :=
  ((Kb.refl w _).alloc o).trans (Kb.of_grown hap.grown (L := u.ownBlock.toList) (fun r hr => by rw [hr]; simp)) (fun x hx => .inl hx)
theorem Recs.append {w w' : World} {lo : Nat} {P : Nat → Prop} {u u' : Value} {rs : List (List UInt8)} {vs : List Value} {o : Obj} {A : Option Addr} {c : Nat} {r : List UInt8}
    (h1 : Own w 27 1 u rs.length vs) (h2 : RwV w (fun x => P x ∧ x < w.heap.size ∧ u.ownBlock ≠ some x) vs rs) (h3 : ∀ g, u.ownBlock = some g → lo ≤ g) (hlo : lo ≤ w.heap.size)
    (hap : Appended (w.alloc o) w' 27 1 u u' rs.length 1 vs [.slice A r.length c]) (hc : r.length ≤ c) (hr : RdB w A r) (hA : ∀ a, A = some a → P a.block ∧ a.block < w.heap.size ∧ u.ownBlock ≠ some a.block) : Recs w' lo P u' (rs ++ [r]) := by
  have hk := kb_appended hap
  have hL : ∀ x, x ∈ u.ownBlock.toList → u.ownBlock = some x := fun x hx => by simpa using hx
  have h5 := h2.snoc hc hr hA
  have h6 := h5.kept hk (fun x hx hL' => hx.2.2 (hL x hL'))
  refine ⟨_, hap.own.cast (by simp) rfl, h6.imp fun x hx => ⟨hx.1, Nat.lt_of_lt_of_le hx.2.1 hk.size, fun e => ?_⟩, fun g hg => ?_⟩
  · rcases hap.lies with h | h
    · exact hx.2.2 (h ▸ e)
    · rw [e] at h
      injection h with h
      rw [World.size_alloc] at h
      have := hx.2.1
      omega
  · rcases hap.lies with h | h
    · exact h3 g (h ▸ hg)
    · rw [hg] at h
      injection h with h
      rw [World.size_alloc] at h
      omega
/-! ### a file's bytes -/
def cont (d : Ds) (n : Nat) : List UInt8 := ((look d.S (seg n)).map (·.1)).getD []
section
variable {w w' : World} {gl gd Z : Nat} {H : List Nat} {d : Ds} {l : List Nat} {dead : Bool}
theorem LD.lens (h : LD w gl gd Z H d l dead) {s b : List UInt8} {sy : Nat} (hl : look d.S s = some (b, sy)) : sy ≤ b.length ∧ b.length ≤ 1048576 := by
  obtain ⟨F, ⟨gm, es, hD, hS, hF⟩, _⟩ := h.disk
  rw [← hS] at hl
  obtain ⟨x, h1, rfl, rfl⟩ := look_fls hl
  exact hD.len x (lookE_mem h1).1
theorem LD.cont_le (h : LD w gl gd Z H d l dead) (n : Nat) : (cont d n).length ≤ 1048576 := by
  unfold cont
  cases hl : look d.S (seg n) with
  | none => simp
  | some p =>
    obtain ⟨b, sy⟩ := p
    exact (h.lens hl).2
theorem seg_read (h : LD w gl gd Z H d l dead) (n : Nat) (hn : n ≤ 99999999) : Calls Tryz.prog 40 #[gp gd, .string (segS n)] w fun e w' =>
    ∃ A c, ∃ E : Int, e = .returned (.tuple #[.slice A (cont d n).length c, .int .i64 E]) ∧ Shut (E = if (look d.S (seg n)).isSome = true then 0 else 60) ∧ Own w' 5 1 (.slice A (cont d n).length c) (cont d n).length (bys (cont d n)) ∧ Below w.heap.size w w' ∧ ∀ g, (Value.slice A (cont d n).length c).ownBlock = some g → w.heap.size ≤ g := by
  obtain ⟨F, hD, _⟩ := h.disk
  have := dd_read hD (segS n) (segS_size hn)
  rw [segS_list] at this
  refine this.mono ?_
  rintro e w' ⟨A, c, he, ho, hb, hn⟩
  exact ⟨A, c, _, he, ⟨rfl⟩, ho, hb, hn⟩
end
/-! ### syncs in a row -/
def dSyn (d : Ds) (s : List UInt8) : Ds := if (look d.S s).isSome = true then (dSync d s).2 else d
def dSyncs (d : Ds) (ns : List (List UInt8)) : Ds := ns.foldl dSyn d
structure Calm (d : Ds) (N U : Nat) : Prop where
  liv : Liv d N U
  f : d.fuse = -1
  key : Key7 d
theorem syn_calm {d : Ds} {N U : Nat} (h : Calm d N U) (s : List UInt8) : Calm (dSyn d s) N U ∧ (∀ t, look (dSyn d s).S t = if t = s then (look d.S t).map (fun p => (p.1, p.1.length)) else look d.S t) ∧ ((look d.S s).isSome = true → (dSync d s).1 = 0) ∧ (dSyn d s).n = d.n := by
  unfold dSyn
  cases hl : look d.S s with
  | none =>
    refine ⟨by simpa using h, fun t => ?_, by simp, by simp⟩
    simp only [Option.isSome_none, Bool.false_eq_true, if_false]
    by_cases ht : t = s
    · rw [if_pos ht, ht, hl]
      rfl
    · rw [if_neg ht]
  | some p =>
    obtain ⟨b, sy⟩ := p
    simp only [Option.isSome_some, if_true]
    rcases sync_cases h.liv h.key hl with ⟨_, h0⟩ | ⟨d', e, v, _, f, S', n'⟩
    · have := h.f
      omega
    · rw [e]
      refine ⟨⟨v, f h.f, by unfold Key7; rw [S']; exact keys_setF h.key _ _ _⟩, fun t => ?_, fun _ => rfl, n'⟩
      rw [S', look_setF]
      by_cases ht : t = s
      · rw [if_pos ht, if_pos ht, ht, hl]
        rfl
      · rw [if_neg ht, if_neg ht]
theorem syncs_calm (ns : List (List UInt8)) : ∀ {d : Ds} {N U : Nat}, Calm d N U → Calm (dSyncs d ns) N U ∧ (∀ t, look (dSyncs d ns).S t = if t ∈ ns then (look d.S t).map (fun p => (p.1, p.1.length)) else look d.S t) ∧ (dSyncs d ns).n = d.n := by
  induction ns with
  | nil => exact fun h => ⟨h, fun t => by simp [dSyncs], rfl⟩
  | cons s r ih =>
    intro d N U h
    obtain ⟨h1, h2, _, h3⟩ := syn_calm h s
    obtain ⟨g1, g2, g3⟩ := ih h1
    refine ⟨g1, fun t => ?_, g3.trans h3⟩
    show look (dSyncs (dSyn d s) r).S t = _
    rw [g2, h2]
    by_cases ht : t = s
    · rw [if_pos ht, if_pos (show t ∈ s :: r by rw [ht]; exact List.mem_cons_self)]
      split
      · cases look d.S t <;> rfl
      · rfl
    · rw [if_neg ht]
      by_cases hr : t ∈ r
      · rw [if_pos hr, if_pos (List.mem_cons_of_mem _ hr)]
      · rw [if_neg hr, if_neg (by simp [ht, hr])]
/-! ### what scan finds -/
def recsL (d : Ds) (l : List Nat) : List (List UInt8) := l.flatMap fun n => rdL (cont d n)
def wl (d : Ds) (n : Nat) : Nat := (frs (rdL (cont d n))).length
def whole (d : Ds) (n : Nat) : Prop := wl d n = (cont d n).length
theorem rdL_many : ∀ (f : Nat) (b : List UInt8), b.length ≤ f → 41 * (rdL b).length ≤ (frs (rdL b)).length
  | f, b, _ => by
    have h := rdL_ok b
    generalize rdL b = rs at h
    induction rs with
    | nil => simp
    | cons r rs ih =>
      rw [frs_cons, List.length_append, frm_length, List.length_cons]
      have h1 := (h r List.mem_cons_self).1
      have h2 := ih fun y hy => h y (List.mem_cons_of_mem _ hy)
      omega
theorem frs_many {rs : List (List UInt8)} (h : ∀ r ∈ rs, Okr r) : 41 * rs.length ≤ (frs rs).length := by
  induction rs with
  | nil => simp
  | cons r rs ih =>
    rw [frs_cons, List.length_append, frm_length, List.length_cons]
    have h1 := (h r List.mem_cons_self).1
    have h2 := ih fun y hy => h y (List.mem_cons_of_mem _ hy)
    omega
end Go.Proofs.YtmlfeljhojmbbaaGreatDoor
