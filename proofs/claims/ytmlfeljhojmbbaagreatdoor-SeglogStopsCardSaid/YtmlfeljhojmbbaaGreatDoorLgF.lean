/- Walks: SameTexts of two rows of records. Walk: the laws' tails; the disk's Crash in words. The log's plain law: a crash, and Open of what it left. The log as the laws use it: tails, a crash, Open behind it. The log as the laws use it: a fuse; a crash seen by one that knows the log's blocks; a row of records beside a log. Walks: ContainsFunc of rows of records that may be. The log's memory once more: what turns (M) and the block of its numbers (R), which no call turns (printed by wip/genlm.py). Walk: the log's Replace; a crash of what it leaves. The log as the laws use it: a log with two rows of records beside it. The log as the laws use it: a dead log; a disk of which a crash leaves what is said; subrows. -/
import Derived.Test.YtmlfeljhojmbbaaGreatDoorLgE
namespace Go.Proofs.YtmlfeljhojmbbaaGreatDoor
open Go.RowKit Go.Maps Go.Sort
set_option linter.unusedSimpArgs false
set_option linter.unusedVariables false
set_option maxRecDepth 100000

theorem eqfunc_calls (A B : Option Addr) (n m c d : Nat) (vs us : List Value) (rs ss : List (List UInt8)) (P Q : Nat → Prop) (w : World) (h1 : Rd w A vs) (r1 : RwV w P vs rs) (h2 : Rd w B us) (r2 : RwV w Q us ss) (hn : rs.length = n) (hm : ss.length = m) (hn9 : n ≤ 1000000000) (hm9 : m ≤ 1000000000) :
    Calls Tryz.prog 62 #[.slice A n c, .slice B m d, .func (.func 63) #[] #[]] w fun e w' => e = .returned (.bool (decide (rs = ss))) ∧ w = w' := by
  have H1 := Shut.mk h1
  have H2 := Shut.mk h2
  have R1 := Shut.mk r1
  have R2 := Shut.mk r2
  have HN := Shut.mk hn
  have HM := Shut.mk hm
  clear h1 h2 r1 r2 hn hm
  by_cases hnm : n = m
  · subst hnm
    go_enter Tryz.func62, Tryz.ntmps62
    go_wp2_with fail
    go_loopw [17] (fun i wr => ∃ k : Nat, k ≤ n ∧ i = .int .i64 k ∧ wr = w ∧ Shut (rs.take k = ss.take k)) (fun i _ => n - (intOf i).toNat)
    case atStart => exact ⟨0, Nat.zero_le _, rfl, by trivial, ⟨rfl⟩⟩
    case round =>
      obtain ⟨k, hk, rfl, rfl, HTK⟩ := hrel
      by_cases hlt : k < n
      · obtain ⟨A1, c1, hv1, hc1, hr1, _⟩ := R1.out.2 k (by rw [HN.out]; exact hlt)
        obtain ⟨A2, c2, hv2, hc2, hr2, _⟩ := R2.out.2 k (by rw [HM.out]; exact hlt)
        obtain ⟨a1, hA1, hd1⟩ := H1.out (fun e => by rw [e] at hv1; simp at hv1)
        obtain ⟨a2, hA2, hd2⟩ := H2.out (fun e => by rw [e] at hv2; simp at hv2)
        subst hA1
        subst hA2
        have q1 := hd1 k _ hv1
        have q2 := hd2 k _ hv2
        have hk1 : k < rs.length := by rw [HN.out]; exact hlt
        have hk2 : k < ss.length := by rw [HM.out]; exact hlt
        obtain ⟨x, hx⟩ : ∃ x, x = rs[k] := ⟨_, rfl⟩
        obtain ⟨y, hy⟩ : ∃ y, y = ss[k] := ⟨_, rfl⟩
        rw [← hx] at q1 hr1
        rw [← hy] at q2 hr2
        have HX := Shut.mk hx
        have HY := Shut.mk hy
        obtain ⟨X, hX⟩ : ∃ X, X = x.length := ⟨_, rfl⟩
        obtain ⟨Y, hY⟩ : ∃ Y, Y = y.length := ⟨_, rfl⟩
        rw [← hX] at q1
        rw [← hY] at q2
        have HEQ := Shut.mk (equal_calls A1 A2 X c1 Y c2 x y wr hr1 hr2 hX.symm hY.symm)
        have hkI : (k : Int) < (n : Int) := by omega
        clear hv1 hv2 hc1 hc2 hr1 hr2 hd1 hd2 hx hy hX hY
        go_wp2_with fail
        refine HEQ.out.mono ?_
        rintro e w' ⟨rfl, rfl⟩
        by_cases hxy : x = y
        · rw [show (x == y) = true by rw [beq_iff_eq]; exact hxy]
          have HT2 : Shut (rs.take (k + 1) = ss.take (k + 1)) := ⟨by rw [List.take_succ_eq_append_getElem hk1, List.take_succ_eq_append_getElem hk2, HTK.out, ← HX.out, ← HY.out, hxy]⟩
          clear hxy
          go_wp2_with fail
          go_roundw
          case rel => exact ⟨k + 1, by omega, by go_num, by trivial, HT2⟩
          case measure => first | (simp [intOf]; done) | (simp [intOf]; omega)
        · rw [show (x == y) = false by rw [beq_eq_false_iff_ne]; exact hxy]
          have HF : Shut (decide (rs = ss) = false) := ⟨decide_eq_false fun e => hxy (by rw [HX.out, HY.out]; subst e; rfl)⟩
          clear hxy
          go_wp2_with fail
          go_ret
          exact ⟨by rw [HF.out]; rfl, rfl⟩
      · obtain rfl : k = n := by omega
        have HF : Shut (decide (rs = ss) = true) := ⟨decide_eq_true (by
          have := HTK.out
          rwa [List.take_of_length_le (by rw [HN.out]; exact Nat.le_refl _), List.take_of_length_le (by rw [HM.out]; exact Nat.le_refl _)] at this)⟩
        go_wp2_with fail
        go_ret
        exact ⟨by rw [HF.out]; rfl, rfl⟩
  · have HF : Shut (decide (rs = ss) = false) := ⟨decide_eq_false fun e => hnm (by rw [← HN.out, ← HM.out, e])⟩
    have hnmI : ¬ (n : Int) = (m : Int) := by omega
    go_enter Tryz.func62, Tryz.ntmps62
    go_wp2_with fail
    go_ret
    exact ⟨by rw [HF.out]; rfl, rfl⟩
theorem same_calls (A B : Option Addr) (n m c d : Nat) (vs us : List Value) (rs ss : List (List UInt8)) (P Q : Nat → Prop) (w : World) (h1 : Rd w A vs) (r1 : RwV w P vs rs) (h2 : Rd w B us) (r2 : RwV w Q us ss) (hn : rs.length = n) (hm : ss.length = m) (hn9 : n ≤ 1000000000) (hm9 : m ≤ 1000000000) :
    Calls Tryz.prog 18 #[.slice A n c, .slice B m d] w fun e w' => e = .returned (.bool (decide (rs = ss))) ∧ w = w' := by
  have HE := Shut.mk (eqfunc_calls A B n m c d vs us rs ss P Q w h1 r1 h2 r2 hn hm hn9 hm9)
  clear h1 r1 h2 r2 hn hm
  go_enter Tryz.func18, Tryz.ntmps18
  go_wp2_with fail
  refine HE.out.mono ?_
  rintro e w' ⟨rfl, rfl⟩
  go_wp2_with fail
  go_ret
  exact ⟨rfl, rfl⟩
end Go.Proofs.YtmlfeljhojmbbaaGreatDoor

namespace Go.Proofs.YtmlfeljhojmbbaaGreatDoor
open Go.RowKit Go.Maps Go.Sort
set_option linter.unusedSimpArgs false
set_option linter.unusedVariables false
set_option maxRecDepth 100000

theorem info_tail : (Tryz.prog.info? 104).map (fun i => (i.zero, i.size, i.bytes)) = some (some (.agg #[.string ByteArray.empty, .int .i64 0, .bool false]), 3, 32) := by kernel_rfl
def tcells (tl : List Tl) : List Value := tl.flatMap fun t => [.string t.name, .int .i64 t.keep, .bool t.turn]
theorem tcells_length (tl : List Tl) : (tcells tl).length = tl.length * 3 := by
  induction tl with
  | nil => rfl
  | cons t r ih =>
    show (_ ++ tcells r).length = _
    rw [List.length_append, ih, List.length_cons]
    simp
    omega
theorem tcells_at : ∀ (tl : List Tl) (k j : Nat), k < tl.length → j < 3 → (tcells tl)[k * 3 + j]? = [Value.string (tl.getD k default).name, .int .i64 (tl.getD k default).keep, .bool (tl.getD k default).turn][j]?
  | [], k, j, h, _ => by simp at h
  | t :: r, 0, j, h, hj => by
    show (([Value.string t.name, .int .i64 t.keep, .bool t.turn] : List Value) ++ tcells r)[0 * 3 + j]? = _
    rw [List.getElem?_append_left (by simp; omega)]
    simp
  | t :: r, k + 1, j, h, hj => by
    show (([Value.string t.name, .int .i64 t.keep, .bool t.turn] : List Value) ++ tcells r)[(k + 1) * 3 + j]? = _
    rw [List.getElem?_append_right (by simp; omega), show (k + 1) * 3 + j - ([Value.string t.name, .int .i64 t.keep, .bool t.turn] : List Value).length = k * 3 + j by simp; omega, tcells_at r k j (by simpa using h) hj]
    rfl
theorem rdT_own {w : World} {e : Nat} {A : Option Addr} {n c : Nat} {tl : List Tl} (h : Own w e 3 (.slice A n c) n (tcells tl)) (hn : tl.length = n) : RdT w A tl := by
  intro k hk
  obtain ⟨A1, c1, e1, hr, _⟩ := h.form
  cases e1
  have hl := tcells_length tl
  obtain ⟨a, rfl, hc⟩ := hr (fun e => by rw [e] at hl; simp at hl; omega)
  have h0 := hc (k * 3 + 0) _ (tcells_at tl k 0 hk (by omega))
  have h1 := hc (k * 3 + 1) _ (tcells_at tl k 1 hk (by omega))
  have h2 := hc (k * 3 + 2) _ (tcells_at tl k 2 hk (by omega))
  refine ⟨a, rfl, h0, ?_, ?_⟩
  · rw [← h1, ← add_of_add]
    rfl
  · rw [← h2, ← add_of_add]
    rfl
section
variable {w w' : World} {gd : Nat} {F : List Nat} {d : Ds}
theorem dd_crash (h : DD w gd F d) (A : Option Addr) (cap : Nat) (tl : List Tl) (hlen : tl.length < 9000000000000) (hR : RdT w A tl) (hRb : ∀ ad, A = some ad → tl ≠ [] → ad.block < w.heap.size) :
    Calls Tryz.prog 16 #[gp gd, .slice A tl.length cap] w fun e w' => e = .returned (.int .i64 0) ∧ DStp w w' gd F (dCrash d tl) := by
  obtain ⟨gm, es, hD, hS, hF⟩ := h
  refine (crash_calls hD A cap tl hlen hR hRb).mono ?_
  rintro e w' ⟨rfl, hA⟩
  refine ⟨rfl, ?_⟩
  have h1 : Stp w w' gd F d.n (crashF (fun s => (tailOf tl s).getD zeroT) (fls es)) d.room (-1) (-1) := Stp.of_after hA hF
  rw [hS] at h1
  exact h1
set_option maxHeartbeats 4000000 in
theorem tails_calls (h : DD w gd F d) (hn : d.n < 1000000000) (hsz : ∀ s, look d.S s ≠ none → s.length ≤ 100) (hfew : (lsD d).length ≤ 1000000) (A : Option Addr) (M c : Nat) (ks : List Int) (hk : Rd w A (ks.map (Value.int .i64))) (hM : ks.length = M) (hMb : M ≤ 9223372036854775807) (t : Nat) (ht : t < 18446744073709551616) :
    Calls Tryz.prog 17 #[gp gd, .slice A M c, .int .u64 (t : Int)] w fun e w' => ∃ B cb tl, e = .returned (.slice B tl.length cb) ∧ RdT w' B tl ∧ tl.length ≤ 1000000 ∧ (∀ ad, B = some ad → tl ≠ [] → ad.block < w'.heap.size) ∧ Below w.heap.size w w' := by
  obtain ⟨i0, hi, hz0, hz1, hz2⟩ := info_parts info_tail
  have HLS := Shut.mk (dd_ls h hn)
  obtain ⟨N, hN⟩ : ∃ N, N = (lsD d).length := ⟨_, rfl⟩
  have HNM : Shut (∀ s ∈ lsD d, s.length ≤ 100) := ⟨fun s hs => hsz s (lsD_mem.1 hs)⟩
  have HN := Shut.mk hN
  have HK := Shut.mk hk
  have HM := Shut.mk hM
  rw [← hN] at hfew
  clear h hn hsz hk hM hN
  go_enter Tryz.func17, Tryz.ntmps17
  go_wp2_with fail
  refine HLS.out.mono ?_
  rintro e w1 ⟨v1, rfl, ho1, hb1, hn1⟩
  obtain ⟨A1, c1, rfl, hr1, _⟩ := ho1.form
  have HR1 := Shut.mk hr1
  have HB1 := Shut.mk hb1
  clear ho1 hb1 hn1 hr1
  rw [← HN.out]
  go_wp2_with fail
  go_loopw [7, 14] (fun u i wr => ∃ k : Nat, k ≤ N ∧ i = .int .i64 k ∧ Below w1.heap.size w1 wr ∧ ∃ tl : List Tl, tl.length = k ∧ Own wr 104 3 u k (tcells tl) ∧ Shut (∀ g, u.ownBlock = some g → w1.heap.size ≤ g)) (fun _ i _ => N - (intOf i).toNat)
  case atStart => exact ⟨0, Nat.zero_le _, rfl, Below.refl _ _, [], rfl, Own.nil _ _ _, ⟨fun g hg => by cases hg⟩⟩
  case round =>
    obtain ⟨k, hk, rfl, hbr, tl, htl, ho, hnw⟩ := hrel
    obtain ⟨A2, c2, rfl, _⟩ := ho.form
    have hsz := hbr.size
    by_cases hlt : k < N
    · have hkl : k < (lsD d).length := by rw [← HN.out]; exact hlt
      obtain ⟨f, hf⟩ : ∃ f, f = (lsD d)[k] := ⟨_, rfl⟩
      have hfl : f.length ≤ 100 := by rw [hf]; exact HNM.out _ (List.getElem_mem _)
      have hv : ((lsD d).map Proofs.encStr)[k]? = some (.string ⟨f.toArray⟩) := by
        rw [List.getElem?_map, List.getElem?_eq_getElem hkl, hf]
        rfl
      obtain ⟨a1, hA1, hc1⟩ := HR1.out (fun e => by rw [e] at hv; cases hv)
      subst hA1
      have c0 := hc1 k _ hv
      have cn : wr.cell? (a1.add k) = some (.string ⟨f.toArray⟩) := (hbr.cell (World.block_lt_of_cell? w1 _ c0)).trans c0
      have hfs : (ByteArray.mk f.toArray).size ≤ maxLen := by
        rw [Lib.size_eq]
        simp [maxLen]
        omega
      obtain ⟨s, hs, hT⟩ := tmod_nat7 k 32 (by omega)
      have hT' : ((k : Int).tmod 32) = (s : Int) := hT
      have HTL := Shut.mk htl
      have HO := Shut.mk ho
      have HBR := Shut.mk hbr
      have hkI : (k : Int) < (N : Int) := by omega
      obtain ⟨nm, hnm⟩ : ∃ nm, nm = (⟨f.toArray⟩ : ByteArray) := ⟨_, rfl⟩
      rw [← hnm] at cn hfs
      have HFS := Shut.mk hfs
      clear hc1 c0 hv hf htl ho hbr hT hnm hfs hfl
      by_cases hM0 : M = 0
      · subst hM0
        go_wp2_with (at_builtin; refine wpList_append _ rfl _ _ _ rfl 104 i0 _ 3 32 Tryz.underlying28 hi hz0 hz1 hz2 rfl (by decide) _ _ _ rfl (HO.out.alloc _) _ 1 1 _ rfl (by rfl) (rd_new wr _ 104) (by simp [Value.oneCell']) (by simp only [maxLen]; omega) (by omega) ?_; intro v6 w6 hap6)
        go_roundw
        case rel =>
          have hb6 : Below w1.heap.size w1 w6 := (HBR.out.alloc hsz _).grown hap6.grown (by simp; omega) hnw.out
          exact ⟨k + 1, by omega, by go_num, hb6, tl ++ [⟨nm, _, _, HFS.out⟩], by rw [List.length_append, HTL.out]; rfl, hap6.own.cast rfl (by rw [tcells, tcells, List.flatMap_append]; rfl), ⟨new_append (by simp; omega) hnw.out hap6.lies⟩⟩
        case measure => first | (simp [intOf]; done) | (simp [intOf]; omega)
      · have hMp : 0 < M := by omega
        obtain ⟨q, hq, hQ⟩ := tmod_nat7 k M hMp
        obtain ⟨ak, hAk, hck⟩ := HK.out (fun e => by
          have := HM.out
          have h2 := congrArg List.length e
          simp at h2
          rw [h2] at this
          simp at this
          omega)
        subst hAk
        have ckq : w.cell? (ak.add q) = some (.int .i64 (ks.getD q 0)) := hck q _ (by rw [List.getElem?_map, List.getD_eq_getElem?_getD, List.getElem?_eq_getElem (by rw [HM.out]; exact hq)]; rfl)
        have ckr : wr.cell? (ak.add q) = some (.int .i64 (ks.getD q 0)) := (HBR.out.cell (Nat.lt_of_lt_of_le (World.block_lt_of_cell? w _ ckq) HB1.out.size)).trans ((HB1.out.cell (World.block_lt_of_cell? w _ ckq)).trans ckq)
        have hMpI : (0 : Int) < (M : Int) := by omega
        have hMne : ¬ (M : Int) = 0 := by omega
        clear hck ckq
        go_wp2_with (at_builtin; refine wpList_append _ rfl _ _ _ rfl 104 i0 _ 3 32 Tryz.underlying28 hi hz0 hz1 hz2 rfl (by decide) _ _ _ rfl (HO.out.alloc _) _ 1 1 _ rfl (by rfl) (rd_new wr _ 104) (by simp [Value.oneCell']) (by simp only [maxLen]; omega) (by omega) ?_; intro v6 w6 hap6)
        go_roundw
        case rel =>
          have hb6 : Below w1.heap.size w1 w6 := (HBR.out.alloc hsz _).grown hap6.grown (by simp; omega) hnw.out
          exact ⟨k + 1, by omega, by go_num, hb6, tl ++ [⟨nm, _, _, HFS.out⟩], by rw [List.length_append, HTL.out]; rfl, hap6.own.cast rfl (by rw [tcells, tcells, List.flatMap_append]; rfl), ⟨new_append (by simp; omega) hnw.out hap6.lies⟩⟩
        case measure => first | (simp [intOf]; done) | (simp [intOf]; omega)
    · obtain rfl : k = N := by omega
      go_wp2_with fail
      go_ret
      refine ⟨A2, c2, tl, by rw [htl]; rfl, rdT_own ho htl, by omega, fun ad ha hne => ?_, HB1.out.trans (hbr.mono HB1.out.size)⟩
      obtain ⟨A3, c3, e3, _, _, _, hob, _⟩ := ho.form
      cases e3
      exact ho.block_lt (hob.trans (by rw [ha]; rfl))
end
end Go.Proofs.YtmlfeljhojmbbaaGreatDoor

namespace Go.Proofs.YtmlfeljhojmbbaaGreatDoor
open Go.RowKit Go.Maps Go.Sort
set_option linter.unusedSimpArgs false
set_option linter.unusedVariables false
set_option maxRecDepth 100000

/-- a disk whose closed segments are whole, and whose last one has these bytes -/
structure Opb (d : Ds) (cs : List (Nat × List (List UInt8))) (m : Nat) (B : Option (List UInt8)) : Prop where
  man : (look d.S manN).map (·.1) = some (frm (manB (lsq cs m)))
  mans : ∀ b sy, look d.S manN = some (b, sy) → sy = b.length
  closed : ∀ x ∈ cs, look d.S (seg x.1) = some (frs x.2, (frs x.2).length)
  last : (look d.S (seg m)).map (·.1) = B
  files : ∀ s, look d.S s ≠ none → s.length ≤ 100
  okc : ∀ x ∈ cs, ∀ r ∈ x.2, Okr r
  up : (lsq cs m).Pairwise (· < ·)
  lo : ∀ n ∈ lsq cs m, 1 ≤ n
section
variable {d d' : Ds} {cs : List (Nat × List (List UInt8))} {m j : Nat} {rm : List (List UInt8)} {B : Option (List UInt8)}
theorem Opb.le (h : Opb d cs m B) : ∀ n ∈ lsq cs m, n ≤ m := fun n hn => by
  have := up_le h.up (lsq_ne cs m) n hn
  rwa [lsq_last] at this
theorem Opb.lt (h : Opb d cs m B) {x : Nat × List (List UInt8)} (hx : x ∈ cs) : x.1 < m :=
  (List.pairwise_append.1 h.up).2.2 x.1 (List.mem_map_of_mem hx) m (by simp)
theorem Opb.len (h : Opb d cs m B) : (lsq cs m).length ≤ m := up_length 0 h.up (fun n hn => h.lo n hn) m h.le
theorem Opb.cont_last (h : Opb d cs m B) : cont d m = B.getD [] := by rw [cont, h.last]
theorem Opb.cont_closed (h : Opb d cs m B) {x : Nat × List (List UInt8)} (hx : x ∈ cs) : cont d x.1 = frs x.2 := by
  rw [cont, h.closed x hx]
  rfl
theorem Opb.opens (h : Opb d cs m B) : (∀ k, (hk : k + 1 < (lsq cs m).length) → whole d (lsq cs m)[k]) ∧ recsL d (lsq cs m) = flat cs (rdL (B.getD [])) := by
  have hcc : ∀ x ∈ cs, rdL (cont d x.1) = x.2 := fun x hx => by rw [h.cont_closed hx, rdL_whole (h.okc x hx)]
  refine ⟨fun k hk => ?_, ?_⟩
  · have hkc : k < cs.length := by simp [lsq] at hk; exact hk
    have e : (lsq cs m)[k] = cs[k].1 := by
      simp only [lsq]
      rw [List.getElem_append_left (by simpa using hkc), List.getElem_map]
    rw [e]
    unfold whole wl
    rw [hcc _ (List.getElem_mem _), h.cont_closed (List.getElem_mem _)]
  · have hx : ∀ l : List (Nat × List (List UInt8)), (∀ x ∈ l, x ∈ cs) → (l.map (·.1)).flatMap (fun n => rdL (cont d n)) = l.flatMap (·.2) := by
      intro l hl
      induction l with
      | nil => rfl
      | cons x r ih =>
        rw [List.map_cons, List.flatMap_cons, List.flatMap_cons, ih (fun y hy => hl y (List.mem_cons_of_mem _ hy)), hcc x (hl x List.mem_cons_self)]
    unfold recsL flat
    rw [show lsq cs m = cs.map (·.1) ++ [m] from rfl, List.flatMap_append, hx cs (fun x hx => hx), List.flatMap_cons, List.flatMap_nil, List.append_nil, h.cont_last]
theorem Opb.opened (h : Opb d cs m B) (hl : lsq cs m ≠ []) (ho : OpnD d d' (lsq cs m) hl) : Lgd d' cs m (rdL (B.getD [])) (rdL (B.getD [])).length ∧ look d'.S freshN = none := by
  have hfr : look d'.S freshN = none := ho.none _ (fun hx => by
    rcases List.mem_append.1 hx with h1 | h1
    · obtain ⟨n, _, e⟩ := List.mem_map.1 h1
      exact seg_ne_fresh n e
    · rw [List.mem_singleton] at h1
      exact man_ne h1.symm)
  have hlast := ho.last
  rw [lsq_last] at hlast
  have hmn : look d.S manN = some (frm (manB (lsq cs m)), 40 + 8 * (lsq cs m).length) := by
    cases hlk : look d.S manN with
    | none =>
      have := h.man
      rw [hlk] at this
      cases this
    | some p =>
      obtain ⟨b, sy⟩ := p
      have h1 := h.man
      rw [hlk] at h1
      have h2 := h.mans b sy hlk
      injection h1 with h1
      simp only at h1
      subst h1
      rw [h2, frm_length, manB_length]
  refine ⟨⟨by rw [ho.man]; exact hmn, fun x hx => ?_, ?_, fun s hs => ?_, h.okc, rdL_ok _, h.up, h.lo, Nat.le_refl _⟩, hfr⟩
  · rw [ho.closed x.1 (mem_lsq.2 (.inl ⟨x, hx, rfl⟩)) (by rw [lsq_last]; have := h.lt hx; omega), h.closed x hx]
    rfl
  · have hB := h.last
    cases hlk : look d.S (seg m) with
    | none =>
      rw [hlk] at hB hlast
      left
      rw [← hB]
      exact ⟨rfl, hlast⟩
    | some p =>
      obtain ⟨b, sy⟩ := p
      rw [hlk] at hB hlast
      right
      rw [← hB]
      refine ⟨(frs (rdL b)).length, hlast, ?_⟩
      show (frs ((rdL b).take (rdL b).length)).length ≤ _
      rw [List.take_of_length_le (Nat.le_refl _)]
      exact Nat.le_refl _
  · by_cases hm : s ∈ mineL (lsq cs m)
    · rcases List.mem_append.1 hm with h1 | h1
      · obtain ⟨n, hn, e⟩ := List.mem_map.1 h1
        exact .inr (.inr ⟨n, hn, e.symm⟩)
      · rw [List.mem_singleton] at h1
        exact .inl h1
    · exact absurd (ho.none s hm) hs
theorem crashB_length (t : Tl) (b : List UInt8) (sy : Nat) (h : sy ≤ b.length) : (crashB t b sy).length = crashN t b.length sy := by
  unfold crashB crashN
  simp only
  split <;> simp <;> omega
theorem crashN_ge (t : Tl) (l sy : Nat) : sy ≤ crashN t l sy := by unfold crashN; omega
theorem crashN_le (t : Tl) {l sy : Nat} (h : sy ≤ l) : crashN t l sy ≤ l := by unfold crashN; omega
theorem crash_whole (t : Tl) (b : List UInt8) : crashB t b b.length = b ∧ crashN t b.length b.length = b.length := by
  have h : crashN t b.length b.length = b.length := by unfold crashN; omega
  unfold crashB
  simp only
  rw [h, if_neg (by omega), List.take_of_length_le (Nat.le_refl _)]
  exact ⟨rfl, rfl⟩
theorem crashB_torn (t : Tl) (b : List UInt8) (sy : Nat) : crashB t b sy = tornB b (crashN t b.length sy) (t.turn && decide (sy < crashN t b.length sy)) := by
  unfold crashB tornB
  simp only
  by_cases h : t.turn = true ∧ sy < crashN t b.length sy
  · rw [if_pos h, if_pos (by simp [h.1, h.2])]
  · rw [if_neg h, if_neg (by
      intro h2
      rw [Bool.and_eq_true, decide_eq_true_eq] at h2
      exact h h2)]
/-- behind a crash: closed segments stand; of the last one a beginning with all that was synced -/
theorem Lgd.crash (h : Lgd d cs m rm j) (hlen : ∀ s b sy, look d.S s = some (b, sy) → sy ≤ b.length) (hm : m ≤ 99999999) (tl : List Tl) : ∃ i, j ≤ i ∧ i ≤ rm.length ∧ ∃ B, Opb (dCrash d tl) cs m B ∧ rdL (B.getD []) = rm.take i := by
  have hl : ∀ s, look (dCrash d tl).S s = (look d.S s).map fun p => (crashB ((tailOf tl s).getD zeroT) p.1 p.2, crashN ((tailOf tl s).getD zeroT) p.1.length p.2) := fun s => look_crashF (fun s => (tailOf tl s).getD zeroT) d.S s
  have hman : look (dCrash d tl).S manN = look d.S manN := by
    rw [hl, h.man]
    simp only [Option.map_some]
    have e : 40 + 8 * (lsq cs m).length = (frm (manB (lsq cs m))).length := by rw [frm_length, manB_length]
    rw [e, (crash_whole _ _).1, (crash_whole _ _).2]
  have hbase : ∀ B, (look (dCrash d tl).S (seg m)).map (·.1) = B → Opb (dCrash d tl) cs m B := fun B hB => by
    refine ⟨by rw [hman, h.man]; rfl, fun b sy hs => ?_, fun x hx => ?_, hB, fun s hs => ?_, h.okc, h.up, h.lo⟩
    · rw [hman, h.man] at hs
      injection hs with hs
      injection hs with h1 h2
      rw [← h1, ← h2, frm_length, manB_length]
    · rw [hl, h.closed x hx]
      simp only [Option.map_some]
      rw [(crash_whole _ _).1, (crash_whole _ _).2]
    · have hs2 : look d.S s ≠ none := fun e => hs (by rw [hl, e]; rfl)
      rcases h.files s hs2 with rfl | rfl | ⟨n, hn, rfl⟩
      · decide
      · decide
      · rw [seg_length (Nat.le_trans (h.le n hn) hm)]
        omega
  rcases h.last with ⟨h1, h2⟩ | ⟨sy, h1, h2⟩
  · refine ⟨j, Nat.le_refl _, h.jm, none, hbase none (by rw [hl, h2]; rfl), ?_⟩
    rw [h1]
    simp [rdL_nil]
  · have hsy := hlen _ _ _ h1
    have hB : (look (dCrash d tl).S (seg m)).map (·.1) = some (crashB ((tailOf tl (seg m)).getD zeroT) (frs rm) sy) := by rw [hl, h1]; rfl
    generalize (tailOf tl (seg m)).getD zeroT = t at hB
    obtain ⟨i, hi, hrd, hgi⟩ := torn_read rm h.okm (crashN t (frs rm).length sy) (t.turn && decide (sy < crashN t (frs rm).length sy)) (crashN_le t hsy) (fun e => by
      rw [Bool.and_eq_true, decide_eq_true_eq] at e
      omega)
    refine ⟨i, hgi j h.jm ?_, hi, _, hbase _ hB, ?_⟩
    · have hge := crashN_ge t (frs rm).length sy
      split
      · rename_i e
        rw [Bool.and_eq_true, decide_eq_true_eq] at e
        omega
      · omega
    · show rdL (crashB t (frs rm) sy) = _
      rw [crashB_torn]
      exact hrd
end
theorem crash_calm {d : Ds} {N U : Nat} (h : Liv d N U) (hk : Key7 d) (tl : List Tl) : Calm (dCrash d tl) N U := by
  refine ⟨⟨h.n, Nat.le_trans (used_crashF_le (fun s => (tailOf tl s).getD zeroT) d.S) h.u, h.room, rfl, by show (-1 : Int) ≤ -1; omega, by show (-1 : Int) ≤ _; omega⟩, rfl, ?_⟩
  unfold Key7 dCrash crashF
  rw [List.pairwise_map]
  exact hk
/-- Open of a disk whose closed segments are whole -/
theorem opb_open {w0 w : World} {gd : Nat} {F : List Nat} {d : Ds} {cs : List (Nat × List (List UInt8))} {m : Nat} {B : Option (List UInt8)} {N U : Nat} (hD : DD w gd F d) (hF : ∀ x ∈ F, w0.heap.size ≤ x) (hb : Below w0.heap.size w0 w) (ht : Tb w0 w0.heap.size) (hc : Calm d N U) (hN : N ≤ 700000000) (h : Opb d cs m B) (hm : m ≤ 400) :
    Calls Tryz.prog 9 #[gp gd] w fun e w' => ∃ gl v d', e = .returned (.tuple #[gp gl, v, .int .i64 0]) ∧ Recs w' w.heap.size (fun x => w.heap.size ≤ x) v (flat cs (rdL (B.getD []))) ∧ (∃ H, LD w' gl gd w0.heap.size H d' (lsq cs m) false ∧ (∀ x ∈ H, x < w'.heap.size) ∧ (∀ g, v.ownBlock = some g → g ∉ H) ∧ Recs w' w.heap.size (fun x => w.heap.size ≤ x ∧ x ∉ H) v (flat cs (rdL (B.getD [])))) ∧
      Lw w0 w' gl gd d' cs m (rdL (B.getD [])) (rdL (B.getD [])).length false N U ∧ d'.fuse = -1 ∧ look d'.S freshN = none ∧ Kb w w' F := by
  obtain ⟨o2, o3⟩ := h.opens
  have hlen := h.len
  refine (open_old hD hF hb.size (ht.below hb) hN hc (lsq cs m) (lsq_ne cs m) h.man h.up (fun n hn => ⟨h.lo n hn, by have := h.le n hn; omega⟩) (by omega) o2 h.files).mono ?_
  rintro e w' ⟨gl, v, H', rfl, hrec, hvn, hL2, hk, hs, hg, hc2⟩
  obtain ⟨_, _, hopn⟩ := opn_looks hc (lsq cs m) (lsq_ne cs m)
  obtain ⟨g1, g2⟩ := h.opened (lsq_ne cs m) hopn
  obtain ⟨H2, h4, h5, h6⟩ := hL2.trim
  rw [o3] at hrec
  exact ⟨gl, v, _, rfl, hrec.imp (Nat.le_refl _) (fun x hx => hx.1), ⟨H2, h4, h6, fun g hg hx => hvn g hg (h5 g hx), hrec.imp (Nat.le_refl _) (fun x hx => ⟨hx.1, fun h => hx.2 (h5 x h)⟩)⟩, ⟨⟨H2, h4, h6⟩, g1, hc2.liv, below_kb hb hk hF⟩, hc2.f, g2, hk⟩
end Go.Proofs.YtmlfeljhojmbbaaGreatDoor

namespace Go.Proofs.YtmlfeljhojmbbaaGreatDoor
open Go.RowKit Go.Maps Go.Sort
set_option linter.unusedSimpArgs false
set_option linter.unusedVariables false
set_option maxRecDepth 100000

theorem nodup_len : ∀ (l s : List (List UInt8)), l.Pairwise (· ≠ ·) → (∀ x ∈ l, x ∈ s) → l.length ≤ s.length
  | [], s, _, _ => Nat.zero_le _
  | x :: r, s, h, hs => by
    rw [List.pairwise_cons] at h
    have hx := hs x List.mem_cons_self
    have := nodup_len r (s.erase x) h.2 (fun y hy => (List.mem_erase_of_ne (fun e => h.1 y hy e.symm)).2 (hs y (List.mem_cons_of_mem _ hy)))
    rw [List.length_erase_of_mem hx] at this
    have h2 : 0 < s.length := List.length_pos_of_mem hx
    rw [List.length_cons]
    omega
section
variable {w0 w w' : World} {gl gd : Nat} {d : Ds} {cs : List (Nat × List (List UInt8))} {m j : Nat} {rm : List (List UInt8)} {dead : Bool} {N U : Nat}
theorem Lgd.few (h : Lgd d cs m rm j) (hk : Key7 d) : (lsD d).length ≤ 2 + m := by
  have h1 := nodup_len (lsD d) (manN :: freshN :: (lsq cs m).map seg) ((lsD_rising hk).imp fun hlt e => by subst e; exact List.lt_irrefl _ hlt) (fun s hs => by
    rcases h.files s (lsD_mem.1 hs) with rfl | rfl | ⟨n, hn, rfl⟩
    · simp
    · simp
    · exact List.mem_cons_of_mem _ (List.mem_cons_of_mem _ (List.mem_map_of_mem hn)))
  have h2 := h.len
  simp at h1
  omega
theorem Lw.keys (h : Lw w0 w gl gd d cs m rm j dead N U) : Key7 d := by
  obtain ⟨H, hL, _⟩ := h.go
  exact hL.keys
/-- tails of a log's disk -/
theorem lw_tails (h : Lw w0 w gl gd d cs m rm j dead N U) (hm : m ≤ 400) (hN : N ≤ 700000000) (A : Option Addr) (M c : Nat) (ks : List Int) (hk : Rd w A (ks.map (Value.int .i64))) (hM : ks.length = M) (hMb : M ≤ 9223372036854775807) (t : Nat) (ht : t < 18446744073709551616) :
    Calls Tryz.prog 17 #[gp gd, .slice A M c, .int .u64 (t : Int)] w fun e w' => ∃ B cb tl, e = .returned (.slice B tl.length cb) ∧ RdT w' B tl ∧ tl.length ≤ 1000000 ∧ (∀ ad, B = some ad → tl ≠ [] → ad.block < w'.heap.size) ∧ Below w.heap.size w w' := by
  obtain ⟨H, hL, _⟩ := h.go
  obtain ⟨F, hD, _⟩ := hL.disk2
  have hn := h.liv.n
  have hf := h.lgd.few h.keys
  exact tails_calls hD (by omega) (fun s hs => h.lgd.opens.2.2.2.1 s hs (by omega)) (by omega) A M c ks hk hM hMb t ht
/-- a crash of a log's disk -/
theorem lw_crash (h : Lw w0 w gl gd d cs m rm j dead N U) (hm : m ≤ 400) (B : Option Addr) (cb : Nat) (tl : List Tl) (hR : RdT w B tl) (hl : tl.length ≤ 1000000) (hb : ∀ ad, B = some ad → tl ≠ [] → ad.block < w.heap.size) :
    Calls Tryz.prog 16 #[gp gd, .slice B tl.length cb] w fun e w' => e = .returned (.int .i64 0) ∧ ∃ F d' i Bl, DD w' gd F d' ∧ (∀ x ∈ F, w0.heap.size ≤ x) ∧ Below w0.heap.size w0 w' ∧ Calm d' N U ∧ j ≤ i ∧ i ≤ rm.length ∧ Opb d' cs m Bl ∧ rdL (Bl.getD []) = rm.take i := by
  obtain ⟨H, hL, hlt⟩ := h.go
  obtain ⟨F, hD, hsub, _⟩ := hL.disk2
  refine (dd_crash hD B cb tl (by omega) hR hb).mono ?_
  rintro e w' ⟨rfl, F', hD', hk, hs⟩
  have hFz : ∀ x ∈ F, w0.heap.size ≤ x := fun x hx => hL.z x (hsub x hx).1
  obtain ⟨i, hi1, hi2, Bl, hop, hrd⟩ := h.lgd.crash (fun s b sy hl => (hL.lens hl).1) (by omega) tl
  exact ⟨rfl, F', dCrash d tl, i, Bl, hD', fun x hx => (hs x hx).elim (hFz x) (fun h2 => Nat.le_trans h.below.size h2), below_kb h.below hk hFz, crash_calm h.liv h.keys tl, hi1, hi2, hop, hrd⟩
/-- Open once more, seen by one that knows the log's blocks -/
theorem lw_again2 {H : List Nat} (h : Lw w0 w gl gd d cs m rm j dead N U) (hL : LD w gl gd w0.heap.size H d (lsq cs m) dead) (hf : d.fuse = -1) (hm : m ≤ 400) (hN : N ≤ 700000000) :
    Calls Tryz.prog 9 #[gp gd] w fun e w' => ∃ gl2 v d', e = .returned (.tuple #[gp gl2, v, .int .i64 0]) ∧ Recs w' w.heap.size (fun x => w.heap.size ≤ x) v (flat cs rm) ∧ Lw w0 w' gl gd d' cs m rm rm.length dead N U ∧ Lw w0 w' gl2 gd d' cs m rm rm.length false N U ∧ d'.fuse = -1 ∧ look d'.S freshN = none ∧
      OpnD d d' (lsq cs m) (lsq_ne cs m) ∧ Kb w w' H := by
  obtain ⟨F, hD, hsub, hst⟩ := hL.disk2
  obtain ⟨o1, o2, o3, o4, o5⟩ := h.lgd.opens
  have hlen := h.lgd.len
  have hc : Calm d N U := ⟨h.liv, hf, hL.keys⟩
  have htb := hL.tb
  refine (open_old hD (fun x hx => hL.z x (hsub x hx).1) h.below.size hL.tb hN hc (lsq cs m) (lsq_ne cs m) o1 h.lgd.up (fun n hn => ⟨h.lgd.lo n hn, by have := h.lgd.le n hn; omega⟩) (by omega) o2 (fun s hs => o4 s hs (by omega))).mono ?_
  rintro e w' ⟨gl2, v, H', rfl, hrec, hvn, hL2, hk, hs, hg, hc2⟩
  obtain ⟨_, _, hopn⟩ := opn_looks hc (lsq cs m) (lsq_ne cs m)
  obtain ⟨g1, g2⟩ := h.lgd.opened (lsq_ne cs m) hopn
  obtain ⟨F2, hD2, hsub2, _⟩ := hL2.disk2
  have hst2 := hst (w' := w') (d' := dOpn d (lsq cs m) (lsq_ne cs m)) ⟨F2, hD2, hk, fun x hx => hs x (hsub2 x hx).1⟩
  have hFz : ∀ x ∈ F, w0.heap.size ≤ x := fun x hx => hL.z x (hsub x hx).1
  obtain ⟨H2, h4, h5, h6⟩ := hL2.trim
  rw [o3] at hrec
  exact ⟨gl2, v, _, rfl, hrec.imp (Nat.le_refl _) (fun x hx => hx.1), h.step hL hst2 g1 hc2.liv, ⟨⟨H2, h4, h6⟩, g1, hc2.liv, below_kb h.below hk hFz⟩, hc2.f, g2, hopn, hk.mono fun x hx => (hsub x hx).1⟩
theorem opn_names {d d' : Ds} (h : Lgd d cs m rm j) (hl : lsq cs m ≠ []) (ho : OpnD d d' (lsq cs m) hl) (hfr : look d.S freshN = none) (hk : Key7 d) (hk' : Key7 d') : lsD d = lsD d' := by
  refine lsD_ext hk hk' fun s => ?_
  have hlast := ho.last
  rw [lsq_last] at hlast
  by_cases hs : s ∈ mineL (lsq cs m)
  · rcases List.mem_append.1 hs with h1 | h1
    · obtain ⟨n, hn, rfl⟩ := List.mem_map.1 h1
      by_cases hnm : n = m
      · rw [hnm, hlast]
        cases look d.S (seg m) <;> simp
      · rw [ho.closed n hn (by rw [lsq_last]; exact hnm)]
        cases look d.S (seg n) <;> simp
    · rw [List.mem_singleton] at h1
      rw [h1, ho.man]
  · constructor
    · exact fun _ => ho.none s hs
    · intro _
      cases hlk : look d.S s with
      | none => rfl
      | some p =>
        exfalso
        apply hs
        rcases h.files s (by rw [hlk]; simp) with rfl | rfl | ⟨n, hn, rfl⟩
        · exact List.mem_append_right _ (by simp)
        · rw [hfr] at hlk
          cases hlk
        · exact List.mem_append_left _ (List.mem_map_of_mem hn)
theorem bytes_le {d : Ds} (h : ∀ n, (cont d n).length ≤ 1048576) : ∀ l : List Nat, bytesN d l ≤ 1048576 * l.length
  | [] => Nat.le_refl _
  | n :: r => by
    have h1 := h n
    have h2 := bytes_le h r
    unfold bytesN at *
    rw [List.map_cons, List.sum_cons, List.length_cons]
    omega
end
end Go.Proofs.YtmlfeljhojmbbaaGreatDoor

namespace Go.Proofs.YtmlfeljhojmbbaaGreatDoor
open Go.RowKit Go.Maps Go.Sort
set_option linter.unusedSimpArgs false
set_option linter.unusedVariables false
set_option maxRecDepth 100000

section
variable {w0 w w' : World} {gl gd : Nat} {d : Ds} {cs : List (Nat × List (List UInt8))} {m j : Nat} {rm : List (List UInt8)} {dead : Bool} {N U : Nat}
theorem lw_fuse (h : Lw w0 w gl gd d cs m rm j dead N U) (x : Nat) (hx : x ≤ 9223372036854775807) :
    Calls Tryz.prog 12 #[gp gd, .int .i64 (x : Int)] w fun e w' => e = .returned (.int .i64 0) ∧ Lw w0 w' gl gd { d with fuse := (x : Int) } cs m rm j dead N U := by
  obtain ⟨H, hL, hlt⟩ := h.go
  obtain ⟨F, hD, hsub, hst⟩ := hL.disk2
  refine (dk_fuse hD (x : Int)).mono ?_
  rintro e w' ⟨rfl, hs⟩
  rw [if_neg (by omega)] at hs ⊢
  have h2 : LStp w w' gl gd w0.heap.size H { d with fuse := (x : Int) } (lsq cs m) dead := hst (d' := { d with fuse := (x : Int) }) hs
  exact ⟨rfl, h.step hL h2 (h.lgd.same fun s _ => rfl) ⟨h.liv.n, h.liv.u, h.liv.room, h.liv.short, by show (-1 : Int) ≤ x; omega, by show (x : Int) ≤ _; omega⟩⟩
theorem lw_crash2 {H : List Nat} (h : Lw w0 w gl gd d cs m rm j dead N U) (hL : LD w gl gd w0.heap.size H d (lsq cs m) dead) (hm : m ≤ 400) (B : Option Addr) (cb : Nat) (tl : List Tl) (hR : RdT w B tl) (hl : tl.length ≤ 1000000) (hb : ∀ ad, B = some ad → tl ≠ [] → ad.block < w.heap.size) :
    Calls Tryz.prog 16 #[gp gd, .slice B tl.length cb] w fun e w' => e = .returned (.int .i64 0) ∧ ∃ F d' i Bl, DD w' gd F d' ∧ (∀ x ∈ F, w0.heap.size ≤ x) ∧ Below w0.heap.size w0 w' ∧ Calm d' N U ∧ j ≤ i ∧ i ≤ rm.length ∧ Opb d' cs m Bl ∧ rdL (Bl.getD []) = rm.take i ∧ Kb w w' H ∧ ∀ x ∈ F, x ∈ H ∨ w.heap.size ≤ x := by
  obtain ⟨F, hD, hsub, _⟩ := hL.disk2
  refine (dd_crash hD B cb tl (by omega) hR hb).mono ?_
  rintro e w' ⟨rfl, F', hD', hk, hs⟩
  have hFz : ∀ x ∈ F, w0.heap.size ≤ x := fun x hx => hL.z x (hsub x hx).1
  obtain ⟨i, hi1, hi2, Bl, hop, hrd⟩ := h.lgd.crash (fun s b sy hl => (hL.lens hl).1) (by omega) tl
  exact ⟨rfl, F', dCrash d tl, i, Bl, hD', fun x hx => (hs x hx).elim (hFz x) (fun h2 => Nat.le_trans h.below.size h2), below_kb h.below hk hFz, crash_calm h.liv h.keys tl, hi1, hi2, hop, hrd, hk.mono fun x hx => (hsub x hx).1, fun x hx => (hs x hx).imp (fun h2 => (hsub x h2).1) id⟩
theorem flat_take (cs : List (Nat × List (List UInt8))) (rm : List (List UInt8)) (i : Nat) : flat cs (rm.take i) <+: flat cs rm := by
  unfold flat
  exact (List.prefix_append_right_inj _).2 (List.take_prefix _ _)
theorem flat_length (cs : List (Nat × List (List UInt8))) (rm : List (List UInt8)) : (flat cs rm).length = (cs.flatMap (·.2)).length + rm.length := by simp [flat]
end
/-- a log and a row of records beside it -/
structure Lr (w0 w : World) (gl gd : Nat) (d : Ds) (cs : List (Nat × List (List UInt8))) (m : Nat) (rm : List (List UInt8)) (j : Nat) (dead : Bool) (N U : Nat) (u : Value) (ws : List (List UInt8)) : Prop where
  lw : Lw w0 w gl gd d cs m rm j dead N U
  go : ∃ H, LD w gl gd w0.heap.size H d (lsq cs m) dead ∧ (∀ x ∈ H, x < w.heap.size) ∧ (∀ g, u.ownBlock = some g → g ∉ H) ∧ Recs w w0.heap.size (fun x => x < w0.heap.size) u ws
section
variable {w0 w w' : World} {gl gd : Nat} {d d' : Ds} {cs cs' : List (Nat × List (List UInt8))} {m m' j j' : Nat} {rm rm' : List (List UInt8)} {dead dead' : Bool} {N U N' U' : Nat} {u u' : Value} {ws : List (List UInt8)}
theorem Lr.new (h : Lw w0 w gl gd d cs m rm j dead N U) : Lr w0 w gl gd d cs m rm j dead N U (.slice none 0 0) [] := by
  obtain ⟨H, h1, h2⟩ := h.go
  exact ⟨h, H, h1, h2, (fun g hg => by cases hg), Recs.nil _ _ _⟩
theorem Lr.quiet (h : Lr w0 w gl gd d cs m rm j dead N U u ws) (hb : Below w.heap.size w w') : Lr w0 w' gl gd d cs m rm j dead N U u ws := by
  obtain ⟨H, h1, h2, h3, h4⟩ := h.go
  exact ⟨h.lw.quiet hb, H, h1.quiet hb, fun x hx => Nat.lt_of_lt_of_le (h2 x hx) hb.size, h3, h4.quiet hb⟩
theorem Lr.mono (h : Lr w0 w gl gd d cs m rm j dead N U u ws) (hN : N ≤ N') (hU : U ≤ U') : Lr w0 w gl gd d cs m rm j dead N' U' u ws := ⟨⟨h.lw.go, h.lw.lgd, h.lw.liv.mono hN hU, h.lw.below⟩, h.go⟩
/-- the log goes on, the row stands -/
theorem Lr.step {H : List Nat} (h : Lw w0 w gl gd d cs m rm j dead N U) (hL : LD w gl gd w0.heap.size H d (lsq cs m) dead) (hlt : ∀ x ∈ H, x < w.heap.size) (hu : ∀ g, u.ownBlock = some g → g ∉ H) (hr : Recs w w0.heap.size (fun x => x < w0.heap.size) u ws)
    (hst : LStp w w' gl gd w0.heap.size H d' (lsq cs' m') dead') (hg : Lgd d' cs' m' rm' j') (hv : Liv d' N' U') : Lr w0 w' gl gd d' cs' m' rm' j' dead' N' U' u ws := by
  have h1 := h.step hL hst hg hv
  obtain ⟨H', g1, g2, g3⟩ := hst
  obtain ⟨H2, g4, g5, g6⟩ := g1.trim
  refine ⟨h1, H2, g4, g6, fun g hg hx => ?_, hr.kept g2 hu (fun x hx _ hxH => ?_)⟩
  · rcases g3 g (g5 g hx) with h2 | h2
    · exact hu g hg h2
    · obtain ⟨vs, ho, _⟩ := hr
      have := ho.block_lt hg
      omega
  · have := hL.z x hxH
    omega
/-- the row takes one more record, out of an argument -/
theorem Lr.push (h : Lr w0 w gl gd d cs m rm j dead N U u ws) : ∃ vs, Own w 27 1 u ws.length vs ∧ ∀ (o : Obj) (w' : World) (u' : Value) (A : Option Addr) (c : Nat) (r : List UInt8), RdB w0 A r → (∀ a, A = some a → a.block < w0.heap.size) → r.length ≤ c →
    Appended (w.alloc o) w' 27 1 u u' ws.length 1 vs [.slice A r.length c] → Lr w0 w' gl gd d cs m rm j dead N U u' (ws ++ [r]) := by
  obtain ⟨H, h1, h2, h3, h4⟩ := h.go
  obtain ⟨vs, ho, hrw, hlo⟩ := h4
  refine ⟨vs, ho, fun o w' u' A c r hr hA hc hap => ?_⟩
  have hbl := h.lw.below
  have hkb := kb_appended hap
  have hL : ∀ q, q ∈ u.ownBlock.toList → u.ownBlock = some q := fun q hq => by simpa using hq
  have hld : LD w' gl gd w0.heap.size H d (lsq cs m) dead := h1.keep hkb (fun q hq => ⟨h3 q (hL q hq), hlo q (hL q hq)⟩)
  have hb' : Below w0.heap.size w0 w' := hkb.below hbl (fun q hq => hlo q (hL q hq)) hbl.size
  have hlt' : ∀ x ∈ H, x < w'.heap.size := fun x hx => Nat.lt_of_lt_of_le (h2 x hx) hkb.size
  refine ⟨⟨⟨H, hld, hlt'⟩, h.lw.lgd, h.lw.liv, hb'⟩, H, hld, hlt', fun g hg hx => ?_, Recs.append ho hrw hlo hbl.size hap hc (hr.keep hbl) (fun a ha => ⟨hA a ha, by have := hA a ha; have := hbl.size; omega, fun e => by have := hlo _ e; have := hA a ha; omega⟩)⟩
  rcases hap.lies with e | e
  · exact h3 g (e ▸ hg) hx
  · rw [hg] at e
    injection e with e
    rw [World.size_alloc] at e
    have := h2 g hx
    omega
end
theorem rd_take7 {w : World} {A : Option Addr} {vs : List Value} (h : Rd w A vs) (n : Nat) : Rd w A (vs.take n) := by
  intro hne
  have hne2 : vs ≠ [] := fun e => hne (by rw [e]; simp)
  obtain ⟨a, e, hc⟩ := h hne2
  refine ⟨a, e, fun j u hu => hc j u ?_⟩
  rw [List.getElem?_take] at hu
  split at hu
  · exact hu
  · cases hu
theorem rwV_take {w : World} {Q : Nat → Prop} {vs : List Value} {rs : List (List UInt8)} (h : RwV w Q vs rs) (n : Nat) : RwV w Q (vs.take n) (rs.take n) := by
  refine ⟨by rw [List.length_take, List.length_take, h.1], fun i hi => ?_⟩
  rw [List.length_take] at hi
  obtain ⟨A, c, h1, h2, h3, h4⟩ := h.2 i (by omega)
  rw [List.getElem_take]
  exact ⟨A, c, by rw [List.getElem?_take_of_lt (by omega)]; exact h1, h2, h3, h4⟩
end Go.Proofs.YtmlfeljhojmbbaaGreatDoor

namespace Go.Proofs.YtmlfeljhojmbbaaGreatDoor
open Go.RowKit Go.Maps Go.Sort
set_option linter.unusedSimpArgs false
set_option linter.unusedVariables false
set_option maxRecDepth 100000

theorem oddR_calls (A : Option Addr) (n c : Nat) (h1 : 1 ≤ n) (h2 : n ≤ 4000) (w : World) :
    Calls Tryz.prog 57 #[.slice A n c] w fun e w' => e = .returned (.bool false) ∧ w = w' := by
  have h3 : ¬ (n : Int) < 1 := by omega
  have h4 : ¬ (n : Int) > 4000 := by omega
  go_enter Tryz.func57, Tryz.ntmps57
  go_wp2_with fail
  go_ret
  exact ⟨rfl, rfl⟩
theorem idx_calls (A : Option Addr) (n c : Nat) (vs : List Value) (rs : List (List UInt8)) (P : Nat → Prop) (w : World) (h1 : Rd w A vs) (r1 : RwV w P vs rs) (hn : rs.length = n) (hok : ∀ r ∈ rs, Okr r) (hn9 : n ≤ 1000000000) :
    Calls Tryz.prog 90 #[.slice A n c, .func (.func 57) #[] #[]] w fun e w' => e = .returned (.int .i64 (-1)) ∧ w = w' := by
  have H1 := Shut.mk h1
  have R1 := Shut.mk r1
  have HN := Shut.mk hn
  have HOK := Shut.mk hok
  clear h1 r1 hn hok
  go_enter Tryz.func90, Tryz.ntmps90
  go_wp2_with fail
  go_loopw [8] (fun i wr => ∃ k : Nat, k ≤ n ∧ i = .int .i64 k ∧ wr = w) (fun i _ => n - (intOf i).toNat)
  case atStart => exact ⟨0, Nat.zero_le _, rfl, by trivial⟩
  case round =>
    obtain ⟨k, hk, rfl, rfl⟩ := hrel
    by_cases hlt : k < n
    · have hk1 : k < rs.length := by rw [HN.out]; exact hlt
      obtain ⟨A1, c1, hv1, hc1, hr1, _⟩ := R1.out.2 k hk1
      obtain ⟨a1, hA1, hd1⟩ := H1.out (fun e => by rw [e] at hv1; simp at hv1)
      subst hA1
      have q1 := hd1 k _ hv1
      obtain ⟨hx1, hx2⟩ := HOK.out _ (List.getElem_mem hk1)
      obtain ⟨X, hX⟩ : ∃ X, X = (rs[k]).length := ⟨_, rfl⟩
      rw [← hX] at q1 hx1 hx2
      have HODD := Shut.mk (oddR_calls A1 X c1 hx1 hx2 wr)
      have hkI : (k : Int) < (n : Int) := by omega
      clear hv1 hc1 hr1 hd1 hX hx1 hx2
      go_wp2_with fail
      refine HODD.out.mono ?_
      rintro e w' ⟨rfl, rfl⟩
      go_wp2_with fail
      go_roundw
      case rel => exact ⟨k + 1, by omega, by go_num, by trivial⟩
      case measure => first | (simp [intOf]; done) | (simp [intOf]; omega)
    · obtain rfl : k = n := by omega
      go_wp2_with fail
      go_ret
      exact ⟨rfl, rfl⟩
theorem ctn_calls (A : Option Addr) (n c : Nat) (vs : List Value) (rs : List (List UInt8)) (P : Nat → Prop) (w : World) (h1 : Rd w A vs) (r1 : RwV w P vs rs) (hn : rs.length = n) (hok : ∀ r ∈ rs, Okr r) (hn9 : n ≤ 1000000000) :
    Calls Tryz.prog 56 #[.slice A n c, .func (.func 57) #[] #[]] w fun e w' => e = .returned (.bool false) ∧ w = w' := by
  have HI := Shut.mk (idx_calls A n c vs rs P w h1 r1 hn hok hn9)
  clear h1 r1 hn hok
  go_enter Tryz.func56, Tryz.ntmps56
  go_wp2_with fail
  refine HI.out.mono ?_
  rintro e w' ⟨rfl, rfl⟩
  go_wp2_with fail
  go_ret
  exact ⟨rfl, rfl⟩
end Go.Proofs.YtmlfeljhojmbbaaGreatDoor

namespace Go.Proofs.YtmlfeljhojmbbaaGreatDoor
open Go.RowKit Go.Maps Go.Sort
set_option linter.unusedSimpArgs false
set_option linter.unusedVariables false
set_option maxRecDepth 100000

structure LDm (w : World) (gl gd Z : Nat) (M R : List Nat) (d : Ds) (l : List Nat) (dead : Bool) : Prop where
  go : ∃ F A c, DD w gd F d ∧ LgAt w gl gd A c l dead ∧ (∀ x ∈ F, x ∈ M ∧ x ≠ gl) ∧ ∀ a, A = some a → l ≠ [] → a.block ∈ R
  gl : gl ∈ M
  z : ∀ x ∈ M, Z ≤ x
  zs : Z ≤ w.heap.size
  tb : Tb w Z
  rm : ∀ x ∈ R, x ∉ M ∧ Z ≤ x ∧ x < w.heap.size
def LStpm (w w' : World) (gl gd Z : Nat) (M R : List Nat) (d : Ds) (l : List Nat) (dead : Bool) : Prop :=
  ∃ M', LDm w' gl gd Z M' R d l dead ∧ Kb w w' M ∧ ∀ x ∈ M', x ∈ M ∨ w.heap.size ≤ x
section
variable {w w' : World} {gl gd Z : Nat} {H R M : List Nat} {d : Ds} {l : List Nat} {dead : Bool}
theorem LD.toM (h : LD w gl gd Z H d l dead) (hl : l ≠ []) : ∃ M R, LDm w gl gd Z M R d l dead ∧ (∀ x ∈ M, x ∈ H) ∧ (∀ x ∈ R, x ∈ H) ∧ ∃ A c, w.cell? ⟨gl, 1, none⟩ = some (.slice A l.length c) ∧ Rd w A (its l) ∧ ∀ a, A = some a → a.block ∈ R := by
  obtain ⟨⟨F, A, c, h1, h2, h3, h4⟩, h5, h6, h7, h8⟩ := h
  refine ⟨gl :: F, blkOf A, ⟨⟨F, A, c, h1, h2, fun x hx => ⟨List.mem_cons_of_mem _ hx, (h3 x hx).2⟩, fun a ha _ => by simp [blkOf, ha]⟩, List.mem_cons_self, fun x hx => ?_, h7, h8, fun x hx => ?_⟩, fun x hx => ?_, fun x hx => ?_, A, c, h2.blk.cell 1, h2.rd, fun a ha => by simp [blkOf, ha]⟩
  · rcases List.mem_cons.1 hx with rfl | hx
    · exact h6 _ h5
    · exact h6 _ (h3 x hx).1
  · cases A with
    | none => cases hx
    | some a =>
      obtain rfl : x = a.block := by simpa [blkOf] using hx
      obtain ⟨b1, b2, b3⟩ := h4 a rfl hl
      refine ⟨fun hm => ?_, h6 _ b3, ?_⟩
      · rcases List.mem_cons.1 hm with hm | hm
        · exact b2 hm
        · exact b1 hm
      · obtain ⟨a', e', hc⟩ := h2.rd (its_ne hl)
        cases e'
        have hpos : 0 < l.length := List.length_pos_iff.2 hl
        have h9 := World.block_lt_of_cell? w _ (hc 0 _ (its_get hpos))
        rwa [block_of_add] at h9
  · rcases List.mem_cons.1 hx with rfl | hx
    · exact h5
    · exact (h3 x hx).1
  · cases A with
    | none => cases hx
    | some a =>
      obtain rfl : x = a.block := by simpa [blkOf] using hx
      exact (h4 a rfl hl).2.2
theorem LDm.toD (h : LDm w gl gd Z M R d l dead) : LD w gl gd Z (M ++ R) d l dead := by
  obtain ⟨⟨F, A, c, h1, h2, h3, h4⟩, h5, h6, h7, h8, h9⟩ := h
  refine ⟨⟨F, A, c, h1, h2, fun x hx => ⟨List.mem_append_left _ (h3 x hx).1, (h3 x hx).2⟩, fun a ha hl => ⟨fun hx => (h9 _ (h4 a ha hl)).1 (h3 _ hx).1, fun e => (h9 _ (h4 a ha hl)).1 (e ▸ h5), List.mem_append_right _ (h4 a ha hl)⟩⟩, List.mem_append_left _ h5, fun x hx => ?_, h7, h8⟩
  rcases List.mem_append.1 hx with h | h
  · exact h6 x h
  · exact (h9 x h).2.1
theorem LDm.quiet (h : LDm w gl gd Z M R d l dead) (hb : Below w.heap.size w w') : LDm w' gl gd Z M R d l dead := by
  obtain ⟨⟨F, A, c, h1, h2, h3, h4⟩, h5, h6, h7, h8, h9⟩ := h
  have hk : Kb w w' [] := Kb.of_below hb []
  exact ⟨⟨F, A, c, Dsk.kept h1 hk (fun x _ hx => by cases hx), ⟨hk.blk h2.blk (fun hx => by cases hx), rd_kept h2.rd hk (fun a _ _ hx => by cases hx), h2.le⟩, h3, h4⟩, h5, h6, Nat.le_trans h7 hk.size, h8.below (hk.below (Below.refl _ _) (fun x hx => by cases hx) h7), fun x hx => ⟨(h9 x hx).1, (h9 x hx).2.1, Nat.lt_of_lt_of_le (h9 x hx).2.2 hk.size⟩⟩
theorem LStpm.trans {w'' : World} {H' R' : List Nat} {d'' : Ds} {l'' : List Nat} {dead'' : Bool} (h2 : Kb w w' H) (h3 : ∀ x ∈ H', x ∈ H ∨ w.heap.size ≤ x) (h : LStpm w' w'' gl gd Z H' R' d'' l'' dead'') : LStpm w w'' gl gd Z H R' d'' l'' dead'' := by
  obtain ⟨F2, a1, a2, a3⟩ := h
  exact ⟨F2, a1, h2.trans a2 h3, fun x hx => (a3 x hx).elim (h3 x) fun h => .inr (Nat.le_trans h2.size h)⟩
theorem LStpm.same (h : LDm w gl gd Z M R d l dead) : LStpm w w gl gd Z M R d l dead := ⟨M, h, Kb.refl _ _, fun x hx => .inl hx⟩
theorem LDm.disk (h : LDm w gl gd Z M R d l dead) : ∃ F, DD w gd F d ∧ ∀ {w' : World} {d' : Ds}, DStp w w' gd F d' → LStpm w w' gl gd Z M R d' l dead := by
  obtain ⟨⟨F, A, c, h1, h2, h3, h4⟩, h5, h6, h7, h8, h9⟩ := h
  refine ⟨F, h1, ?_⟩
  rintro w' d' ⟨F', q1, q2, q3⟩
  have hgl : gl < w.heap.size := h2.blk.lt
  refine ⟨F' ++ M, ⟨⟨F', A, c, q1, ⟨q2.blk h2.blk (fun hx => (h3 _ hx).2 rfl), rd_kept h2.rd q2 (fun a ha hl hx => (h9 _ (h4 a ha (ne_its hl))).1 (h3 _ hx).1), h2.le⟩, ?_, h4⟩, List.mem_append_right _ h5, ?_, Nat.le_trans h7 q2.size, h8.below (q2.below (Below.refl _ _) (fun x hx => h6 x (h3 x hx).1) h7), fun x hx => ⟨?_, (h9 x hx).2.1, Nat.lt_of_lt_of_le (h9 x hx).2.2 q2.size⟩⟩, q2.mono fun x hx => (h3 x hx).1, ?_⟩
  · intro x hx
    refine ⟨List.mem_append_left _ hx, ?_⟩
    rcases q3 x hx with h | h
    · exact (h3 x h).2
    · omega
  · intro x hx
    rcases List.mem_append.1 hx with hx | hx
    · rcases q3 x hx with h | h
      · exact h6 x (h3 x h).1
      · omega
    · exact h6 x hx
  · intro hm
    rcases List.mem_append.1 hm with hm | hm
    · rcases q3 x hm with h | h
      · exact (h9 x hx).1 (h3 x h).1
      · have := (h9 x hx).2.2
        omega
    · exact (h9 x hx).1 hm
  · intro x hx
    rcases List.mem_append.1 hx with hx | hx
    · rcases q3 x hx with h | h
      · exact .inl (h3 x h).1
      · exact .inr h
    · exact .inl hx
theorem LDm.log (h : LDm w gl gd Z M R d l dead) : ∃ A c, Blk w gl 77 #[gp gd, .slice A l.length c, .bool dead] ∧ True ∧ True ∧
    (∀ dead', LStpm w (w.setCell ⟨gl, 2, none⟩ (.bool dead')) gl gd Z M R d l dead') ∧
    ∀ A' c' l', Rd w A' (its l') → RowOk A' l'.length c' → (∀ a, A' = some a → a.block ∉ M ∧ Z ≤ a.block ∧ a.block < w.heap.size) → LDm (w.setCell ⟨gl, 1, none⟩ (.slice A' l'.length c')) gl gd Z M (blkOf A') d l' dead := by
  obtain ⟨⟨F, A, c, h1, h2, h3, h4⟩, h5, h6, h7, h8, h9⟩ := h
  have hk : ∀ i u, Kb w (w.setCell ⟨gl, i, none⟩ u) [gl] := fun i u => (Kb.refl w _).setCell (by simp) _
  have hs : ∀ i u, Dsk (w.setCell ⟨gl, i, none⟩ u) gd F d.n d.S d.room d.short d.fuse := fun i u => Dsk.kept h1 (hk i u) (fun x hx hxL => (h3 x hx).2 (by simpa using hxL))
  have ht : ∀ i u, Tb (w.setCell ⟨gl, i, none⟩ u) Z := fun i u => h8.below ((hk i u).below (Below.refl _ _) (fun x hx => by
    obtain rfl : x = gl := by simpa using hx
    exact h6 _ h5) h7)
  refine ⟨A, c, h2.blk, trivial, trivial, fun dead' => ?_, fun A' c' l' hr hle hA => ?_⟩
  · refine ⟨M, ⟨⟨F, A, c, hs _ _, ⟨?_, rd_kept h2.rd (hk _ _) (fun a ha hl hx => (h9 _ (h4 a ha (ne_its hl))).1 ?_), h2.le⟩, h3, h4⟩, h5, h6, Nat.le_trans h7 (hk 2 _).size, ht _ _, fun x hx => ⟨(h9 x hx).1, (h9 x hx).2.1, Nat.lt_of_lt_of_le (h9 x hx).2.2 (hk 2 _).size⟩⟩, (hk _ _).mono (fun x hx => ?_), fun x hx => .inl hx⟩
    · exact h2.blk.set_ 2 (.bool dead')
    · rw [show a.block = gl by simpa using hx]
      exact h5
    · obtain rfl : x = gl := by simpa using hx
      exact h5
  · refine ⟨⟨F, A', c', hs _ _, ⟨h2.blk.set_ 1 _, rd_kept hr (hk _ _) (fun a ha hl hx => (hA a ha).1 ?_), hle⟩, h3, fun a ha hl => by simp [blkOf, ha]⟩, h5, h6, Nat.le_trans h7 (hk 1 _).size, ht _ _, fun x hx => ?_⟩
    · rw [show a.block = gl by simpa using hx]
      exact h5
    · cases A' with
      | none => cases hx
      | some a =>
        obtain rfl : x = a.block := by simpa [blkOf] using hx
        exact ⟨(hA a rfl).1, (hA a rfl).2.1, Nat.lt_of_lt_of_le (hA a rfl).2.2 (hk 1 _).size⟩
theorem LDm.c0 (h : LDm w gl gd Z M R d l dead) : w.cell? ⟨gl, 0, none⟩ = some (gp gd) := by
  obtain ⟨A, c, g1, _⟩ := h.log
  exact g1.cell 0
theorem LDm.keys (h : LDm w gl gd Z M R d l dead) : Key7 d := by
  obtain ⟨F, hD, _⟩ := h.disk
  exact dd_keys hD
theorem LDm.trim (h : LDm w gl gd Z M R d l dead) : ∃ M', LDm w gl gd Z M' R d l dead ∧ (∀ x ∈ M', x ∈ M) ∧ ∀ x ∈ M', x < w.heap.size := by
  obtain ⟨⟨F, A, c, ⟨gm, es, hD, hS, hF⟩, h2, h3, h4⟩, h5, h6, h7, h8, h9⟩ := h
  refine ⟨M.filter (fun x => decide (x < w.heap.size)), ⟨⟨foot gd gm es, A, c, ⟨gm, es, hD, hS, fun x hx => hx⟩, h2, fun x hx => ⟨?_, (h3 x (hF x hx)).2⟩, h4⟩, ?_, fun x hx => h6 x (List.mem_filter.1 hx).1, h7, h8, fun x hx => ⟨fun hm => (h9 x hx).1 (List.mem_filter.1 hm).1, (h9 x hx).2⟩⟩, fun x hx => (List.mem_filter.1 hx).1, fun x hx => by simpa using (List.mem_filter.1 hx).2⟩
  · rw [List.mem_filter]
    exact ⟨(h3 x (hF x hx)).1, by simpa using hD.lt hx⟩
  · rw [List.mem_filter]
    exact ⟨h5, by simpa using h2.blk.lt⟩
theorem note_callsm (h : LDm w gl gd Z H R d l dead) (x : Int) : Calls Tryz.prog 51 #[gp gl, .int .i64 x] w fun e w' => e = .returned (.int .i64 x) ∧ LStpm w w' gl gd Z H R d l (dead || decide (x = 62)) := by
  obtain ⟨A, c, h1, h2, h3, h4, h5⟩ := h.log
  have q2 : w.cell? ⟨gl, 2, none⟩ = some (.bool dead) := h1.cell 2
  have fr : w.frozen? ⟨gl, 2, none⟩ = false := h1.free 2
  have HS := Shut.mk (h4 true)
  have HK := Shut.mk (LStpm.same h)
  clear h1 h2 h3 h4 h5 h
  by_cases hx : x = 62
  · subst hx
    go_enter Tryz.func51, Tryz.ntmps51
    go_wp2_with fail
    go_ret
    refine ⟨rfl, ?_⟩
    simpa using HS.out
  · go_enter Tryz.func51, Tryz.ntmps51
    go_wp2_with fail
    go_ret
    refine ⟨rfl, ?_⟩
    rw [decide_eq_false hx, Bool.or_false]
    exact HK.out
theorem fresh_appendm (h : LDm w gl gd Z H R d l dead) (ho : d.Ok) (A : Option Addr) (m c : Nat) (b : List UInt8) (hr : RdB w A b) (hm : b.length = m) (hmc : m ≤ c) (hml : m ≤ reach) :
    Calls Tryz.prog 21 #[gp gd, .string ⟨#[109, 97, 110, 105, 102, 101, 115, 116, 46, 110, 101, 119]⟩, .slice A m c] w fun e w' => e = .returned (.tuple #[.int .i64 ((dApp d freshN b).2.1 : Int), .int .i64 (dApp d freshN b).1]) ∧ LStpm w w' gl gd Z H R (dApp d freshN b).2.2 l dead := by
  obtain ⟨F, hD, hst⟩ := h.disk
  exact (dd_append hD ho ⟨#[109, 97, 110, 105, 102, 101, 115, 116, 46, 110, 101, 119]⟩ A m c b (by unfold reach; decide) hr hm hmc hml).mono fun e w' ⟨he, ha⟩ => ⟨he, hst ha⟩
theorem fresh_syncm (h : LDm w gl gd Z H R d l dead) (ho : d.Ok) :
    Calls Tryz.prog 24 #[gp gd, .string ⟨#[109, 97, 110, 105, 102, 101, 115, 116, 46, 110, 101, 119]⟩] w fun e w' => e = .returned (.int .i64 (dSync d freshN).1) ∧ LStpm w w' gl gd Z H R (dSync d freshN).2 l dead := by
  obtain ⟨F, hD, hst⟩ := h.disk
  exact (dd_sync hD ho ⟨#[109, 97, 110, 105, 102, 101, 115, 116, 46, 110, 101, 119]⟩ (by unfold reach; decide)).mono fun e w' ⟨he, ha⟩ => ⟨he, hst ha⟩
theorem fresh_removem (h : LDm w gl gd Z H R d l dead) (ho : d.Ok) :
    Calls Tryz.prog 30 #[gp gd, .string ⟨#[109, 97, 110, 105, 102, 101, 115, 116, 46, 110, 101, 119]⟩] w fun e w' => e = .returned (.int .i64 (dDel d freshN).1) ∧ LStpm w w' gl gd Z H R (dDel d freshN).2 l dead := by
  obtain ⟨F, hD, hst⟩ := h.disk
  exact (dd_remove hD ho ⟨#[109, 97, 110, 105, 102, 101, 115, 116, 46, 110, 101, 119]⟩ (by unfold reach; decide)).mono fun e w' ⟨he, ha⟩ => ⟨he, hst ha⟩
theorem fresh_renamem (h : LDm w gl gd Z H R d l dead) (ho : d.Ok) :
    Calls Tryz.prog 28 #[gp gd, .string ⟨#[109, 97, 110, 105, 102, 101, 115, 116, 46, 110, 101, 119]⟩, .string ⟨#[109, 97, 110, 105, 102, 101, 115, 116]⟩] w fun e w' => e = .returned (.int .i64 (dRen d freshN manN).1) ∧ LStpm w w' gl gd Z H R (dRen d freshN manN).2 l dead := by
  obtain ⟨F, hD, hst⟩ := h.disk
  exact (dd_rename hD ho ⟨#[109, 97, 110, 105, 102, 101, 115, 116, 46, 110, 101, 119]⟩ ⟨#[109, 97, 110, 105, 102, 101, 115, 116]⟩ (by unfold reach; decide) (by unfold reach; decide)).mono fun e w' ⟨he, ha⟩ => ⟨he, hst ha⟩
theorem seg_syncm (h : LDm w gl gd Z H R d l dead) (ho : d.Ok) (n : Nat) (hn : n ≤ 99999999) :
    Calls Tryz.prog 24 #[gp gd, .string (segS n)] w fun e w' => e = .returned (.int .i64 (dSync d (seg n)).1) ∧ LStpm w w' gl gd Z H R (dSync d (seg n)).2 l dead := by
  obtain ⟨F, hD, hst⟩ := h.disk
  have := dd_sync hD ho (segS n) (segS_size hn)
  rw [segS_list] at this
  exact this.mono fun e w' ⟨he, ha⟩ => ⟨he, hst ha⟩
theorem seg_appendm (h : LDm w gl gd Z H R d l dead) (ho : d.Ok) (n : Nat) (hn : n ≤ 99999999) (A : Option Addr) (m c : Nat) (b : List UInt8) (hr : RdB w A b) (hm : b.length = m) (hmc : m ≤ c) (hml : m ≤ reach) :
    Calls Tryz.prog 21 #[gp gd, .string (segS n), .slice A m c] w fun e w' => e = .returned (.tuple #[.int .i64 ((dApp d (seg n) b).2.1 : Int), .int .i64 (dApp d (seg n) b).1]) ∧ LStpm w w' gl gd Z H R (dApp d (seg n) b).2.2 l dead := by
  obtain ⟨F, hD, hst⟩ := h.disk
  have := dd_append hD ho (segS n) A m c b (segS_size hn) hr hm hmc hml
  rw [segS_list] at this
  exact this.mono fun e w' ⟨he, ha⟩ => ⟨he, hst ha⟩
set_option maxHeartbeats 4000000 in
theorem man_callsm (h : LDm w gl gd Z H R d l dead) (ho : OkN d 2) (A : Option Addr) (c : Nat) (ss : List Nat) (hr : Rd w A (its ss)) (hcap : RowOk A ss.length c) (hA : ∀ a, A = some a → a.block ∉ H ∧ Z ≤ a.block ∧ a.block < w.heap.size) (h1 : 1 ≤ ss.length) (h2 : ss.length ≤ 500) (h9 : ∀ n ∈ ss, n ≤ 99999999) :
    Calls Tryz.prog 42 #[gp gl, .slice A ss.length c] w fun e w' => e = .returned (.int .i64 (lWrite d l dead ss).1) ∧ (∃ R', ((lWrite d l dead ss).1 = 0 → R' = blkOf A) ∧ (∀ x ∈ R', x ∈ R ∨ x ∈ blkOf A) ∧ LStpm w w' gl gd Z H R' (lWrite d l dead ss).2.1 (lWrite d l dead ss).2.2.1 (lWrite d l dead ss).2.2.2) := by
  have htb := h.tb
  have hzs := h.zs
  have HZ := Shut.mk h.z
  have HA2 := Shut.mk hA
  have HCAP := Shut.mk hcap
  have HR := Shut.mk hr
  have HT := Shut.mk htb
  have HLL := Shut.mk h9
  have HL := Shut.mk h
  have HO := Shut.mk ho
  obtain ⟨N, hN⟩ : ∃ N, N = ss.length := ⟨_, rfl⟩
  rw [← hN] at h1 h2 ⊢
  have HN := Shut.mk hN
  clear hr hA h htb h9 ho hN hcap
  go_enter Tryz.func42, Tryz.ntmps42
  go_wp2_with fail
  go_loopw [5, 12] (fun u i wr => ∃ k : Nat, k ≤ N ∧ i = .int .i64 k ∧ Own wr 5 1 u (8 * k) (bys (manB (ss.take k))) ∧ Shut (∀ g, u.ownBlock = some g → w.heap.size ≤ g) ∧ Below w.heap.size w wr) (fun _ i _ => N - (intOf i).toNat)
  case atStart => exact ⟨0, Nat.zero_le _, rfl, Own.nil _ _ _, ⟨fun g hg => by cases hg⟩, Below.refl _ _⟩
  case round =>
    obtain ⟨k, hk, rfl, ho, hnw, hbr⟩ := hrel
    obtain ⟨A1, c1, rfl, _⟩ := ho.form
    have hsz := hbr.size
    by_cases hlt : k < N
    · have hkl : k < ss.length := by rw [← HN.out]; exact hlt
      obtain ⟨a, hA, hc⟩ := HR.out (its_ne (fun e => by rw [e] at hkl; simp at hkl))
      subst hA
      have c0 := hc k _ (its_get hkl)
      have c2 := (hbr.cell (World.block_lt_of_cell? w _ c0)).trans c0
      obtain ⟨n, hn⟩ : ∃ n, n = ss[k] := ⟨_, rfl⟩
      have hn9 : n ≤ 99999999 := by rw [hn]; exact HLL.out _ (List.getElem_mem _)
      rw [← hn] at c2
      have HN2 := Shut.mk hn
      have HMS := Shut.mk (show manB (ss.take (k + 1)) = manB (ss.take k) ++ putl n 8 by rw [List.take_succ_eq_append_getElem hkl, hn]; unfold manB; rw [List.flatMap_append, List.flatMap_cons, List.flatMap_nil, List.append_nil])
      have HO2 := Shut.mk ho
      have HB := Shut.mk hbr
      have hkI : (k : Int) < (N : Int) := by omega
      have HM := Shut.mk (show (manB (ss.take k)).length = 8 * k by rw [manB_length, List.length_take, Nat.min_eq_left (Nat.le_of_lt hkl)])
      clear hc c0 hn ho hbr
      go_wp2_with fail
      refine (put_calls _ (manB (ss.take k)) n 8 w.heap.size wr (HO2.out.cast (by rw [HM.out]) rfl) hsz hnw.out (by omega) (by omega) (by rw [HM.out]; omega)).mono ?_
      rintro e w2 ⟨v2, rfl, ho2, hb2, hn2⟩
      rw [HM.out] at ho2
      go_wp2_with fail
      go_roundw
      case rel =>
        refine ⟨k + 1, by omega, by go_num, ho2.cast (by omega) ?_, ⟨hn2⟩, HB.out.trans hb2⟩
        rw [HMS.out]
      case measure => first | (simp [intOf]; done) | (simp [intOf]; omega)
    · obtain rfl : k = N := by omega
      rw [List.take_of_length_le (by rw [← HN.out]; exact Nat.le_refl _)] at ho
      have HM := Shut.mk (show (manB ss).length = 8 * k by rw [manB_length, HN.out])
      have HRB := Shut.mk (rdb_own _ ho)
      have HB := Shut.mk hbr
      have HTW := Shut.mk (HT.out.below (hbr.mono hzs))
      clear ho hbr
      go_wp2_with fail
      refine (frame_calls A1 c1 (8 * k) (manB ss) wr HRB.out HM.out (by omega) (by omega) HTW.out.k HTW.out.b).mono ?_
      rintro e w2 ⟨v2, rfl, ho2, hb2, hn2⟩
      obtain ⟨A2, c2, rfl, _, hac2, _⟩ := ho2.form
      have HB2 := Shut.mk (HB.out.trans (hb2.mono HB.out.size))
      have hL2 := HL.out.quiet HB2.out
      have HFB := Shut.mk (rdb_own _ ho2)
      have HFL := Shut.mk (show (frm (manB ss)).length = 40 + 8 * k by rw [frm_length, HM.out])
      have HO2 := Shut.mk ho2
      obtain ⟨A4, c4, g1, g2, g3, g4, g5⟩ := hL2.log
      have t0 : w2.cell? ⟨gl, 0, none⟩ = some (gp gd) := g1.cell 0
      clear g1 g2 g3 g4 g5 ho2
      have HL2 := Shut.mk hL2
      clear hL2
      go_wp2_with fail
      refine (fresh_appendm HL2.out HO.out.ok A2 (40 + 8 * k) c2 (frm (manB ss)) HFB.out HFL.out hac2 (by unfold reach; omega)).mono ?_
      rintro e w3 ⟨rfl, hst⟩
      obtain ⟨H3, hL3, hk3, hs3⟩ := hst
      have HK3 := Shut.mk (show Kb w w3 H ∧ ∀ x ∈ H3, x ∈ H ∨ w.heap.size ≤ x from ⟨(Kb.of_below HB2.out H).trans hk3 (fun x hx => .inl hx), fun x hx => (hs3 x hx).imp id (fun h => Nat.le_trans HB2.out.size h)⟩)
      clear hk3 hs3
      have HO3 := Shut.mk (HO.out.app freshN (frm (manB ss)))
      by_cases hE1 : (dApp d freshN (frm (manB ss))).1 = 0
      · rw [hE1]
        have HE1 := Shut.mk hE1
        clear hE1
        obtain ⟨A4, c4, g1, g2, g3, g4, g5⟩ := hL3.log
        have t0 : w3.cell? ⟨gl, 0, none⟩ = some (gp gd) := g1.cell 0
        clear g1 g2 g3 g4 g5
        have HL3 := Shut.mk hL3
        clear hL3
        go_wp2_with fail
        refine (fresh_syncm HL3.out HO3.out.ok).mono ?_
        rintro e w4 ⟨rfl, hst⟩
        obtain ⟨H4, hL4, hk4, hs4⟩ := hst
        have HK4 := Shut.mk (show Kb w w4 H ∧ ∀ x ∈ H4, x ∈ H ∨ w.heap.size ≤ x from ⟨HK3.out.1.trans hk4 HK3.out.2, fun x hx => (hs4 x hx).elim (HK3.out.2 x) (fun h => .inr (Nat.le_trans HK3.out.1.size h))⟩)
        clear hk4 hs4
        have HO4 := Shut.mk (HO3.out.sync freshN)
        by_cases hE2 : (dSync (dApp d freshN (frm (manB ss))).2.2 freshN).1 = 0
        · rw [hE2]
          have HE2 := Shut.mk hE2
          clear hE2
          obtain ⟨A4, c4, g1, g2, g3, g4, g5⟩ := hL4.log
          have t0 : w4.cell? ⟨gl, 0, none⟩ = some (gp gd) := g1.cell 0
          clear g1 g2 g3 g4 g5
          have HL4 := Shut.mk hL4
          clear hL4
          go_wp2_with fail
          refine (fresh_renamem HL4.out HO4.out.ok).mono ?_
          rintro e w5 ⟨rfl, hst⟩
          obtain ⟨H5, hL5, hk5, hs5⟩ := hst
          have HK5 := Shut.mk (show Kb w w5 H ∧ ∀ x ∈ H5, x ∈ H ∨ w.heap.size ≤ x from ⟨HK4.out.1.trans hk5 HK4.out.2, fun x hx => (hs5 x hx).elim (HK4.out.2 x) (fun h => .inr (Nat.le_trans HK4.out.1.size h))⟩)
          clear hk5 hs5
          have HO5 := Shut.mk (HO4.out.ren freshN manN)
          have HW := Shut.mk (show wrt3 d ss = dRen (dSync (dApp d freshN (frm (manB ss))).2.2 freshN).2 freshN manN by unfold wrt3; rw [if_neg (by rw [HE1.out]; simp), if_neg (by rw [HE2.out]; simp)])
          by_cases hE3 : (dRen (dSync (dApp d freshN (frm (manB ss))).2.2 freshN).2 freshN manN).1 = 0
          · rw [hE3]
            have HE3 := Shut.mk hE3
            clear hE3
            obtain ⟨A4, c4, g1, g2, g3, g4, g5⟩ := hL5.log
            have u1 : w5.cell? ⟨gl, 1, none⟩ = some (.slice A4 l.length c4) := g1.cell 1
            have fr : w5.frozen? ⟨gl, 1, none⟩ = false := g1.free 1
            have HAH : Shut (∀ a, A = some a → a.block ∉ H5 ∧ Z ≤ a.block ∧ a.block < w5.heap.size) := ⟨fun a ha => ⟨fun hx => (HK5.out.2 _ hx).elim (HA2.out a ha).1 (fun h => Nat.not_le_of_lt (HA2.out a ha).2.2 h), (HA2.out a ha).2.1, Nat.lt_of_lt_of_le (HA2.out a ha).2.2 HK5.out.1.size⟩⟩
            have HFIN := Shut.mk (g5 A c ss (rd_kept HR.out HK5.out.1 (fun a ha _ => (HA2.out a ha).1)) HCAP.out HAH.out)
            have HGL := Shut.mk hL5.gl
            clear g1 g2 g3 g4 g5 hL5
            go_wp2_with fail
            go_ret
            have hw : lWrite d l dead ss = (0, (dRen (dSync (dApp d freshN (frm (manB ss))).2.2 freshN).2 freshN manN).2, ss, dead) := by
              unfold lWrite
              rw [HW.out, if_pos HE3.out]
            rw [hw]
            have hfin := HFIN.out
            rw [HN.out.symm] at hfin
            refine ⟨rfl, blkOf A, fun _ => rfl, fun x hx => .inr hx, H5, hfin, ?_, fun x hx => HK5.out.2 x hx⟩
            refine HK5.out.1.trans ((Kb.refl w5 _).setCell (p := ⟨gl, 1, none⟩) (L := [gl]) (by simp) _) (fun x hx => ?_)
            obtain rfl : x = gl := by simpa using hx
            exact HK5.out.2 _ HGL.out
          · obtain ⟨E3, hE⟩ : ∃ E3, E3 = (dRen (dSync (dApp d freshN (frm (manB ss))).2.2 freshN).2 freshN manN).1 := ⟨_, rfl⟩
            rw [← hE] at hE3 ⊢
            have HE := Shut.mk hE
            clear hE
            obtain ⟨A4, c4, g1, g2, g3, g4, g5⟩ := hL5.log
            have t0 : w5.cell? ⟨gl, 0, none⟩ = some (gp gd) := g1.cell 0
            clear g1 g2 g3 g4 g5
            have HL5 := Shut.mk hL5
            have HX := Shut.mk (show wrt3 d ss = (E3, (dRen (dSync (dApp d freshN (frm (manB ss))).2.2 freshN).2 freshN manN).2) by rw [HW.out, HE.out])
            have HOK := Shut.mk (HO5.out.ok)
            clear hL5
            go_wp2_with fail
            refine (fresh_removem HL5.out HOK.out).mono ?_
            rintro e w8 ⟨rfl, hst⟩
            obtain ⟨H8, hL8, hk8, hs8⟩ := hst
            go_wp2_with fail
            refine (note_callsm hL8 _).mono ?_
            rintro e w9 ⟨rfl, hst⟩
            obtain ⟨H9, hL9, hk9, hs9⟩ := hst
            go_wp2_with fail
            refine (note_callsm hL9 _).mono ?_
            rintro e w10 ⟨rfl, hst⟩
            go_wp2_with fail
            go_ret
            have hfin := LStpm.trans HK5.out.1 HK5.out.2 (LStpm.trans hk8 hs8 (LStpm.trans hk9 hs9 hst))
            have hw : lWrite d l dead ss = (E3, (dDel (dRen (dSync (dApp d freshN (frm (manB ss))).2.2 freshN).2 freshN manN).2 freshN).2, l, (dead || decide ((dDel (dRen (dSync (dApp d freshN (frm (manB ss))).2.2 freshN).2 freshN manN).2 freshN).1 = 62)) || decide (E3 = 62)) := by
              unfold lWrite
              rw [HX.out, if_neg hE3]
            rw [hw]
            exact ⟨rfl, R, fun h => absurd h (by assumption), fun x hx => .inl hx, hfin⟩
        · obtain ⟨E2, hE⟩ : ∃ E2, E2 = (dSync (dApp d freshN (frm (manB ss))).2.2 freshN).1 := ⟨_, rfl⟩
          rw [← hE] at hE2 ⊢
          have HE := Shut.mk hE
          clear hE
          obtain ⟨A4, c4, g1, g2, g3, g4, g5⟩ := hL4.log
          have t0 : w4.cell? ⟨gl, 0, none⟩ = some (gp gd) := g1.cell 0
          clear g1 g2 g3 g4 g5
          have HL4 := Shut.mk hL4
          have HX := Shut.mk (show wrt3 d ss = (E2, (dSync (dApp d freshN (frm (manB ss))).2.2 freshN).2) by unfold wrt3; rw [if_neg (by rw [HE1.out]; simp), if_pos (by rw [← HE.out]; exact hE2), HE.out])
          have HOK := Shut.mk (HO4.out.ok)
          clear hL4
          go_wp2_with fail
          refine (fresh_removem HL4.out HOK.out).mono ?_
          rintro e w8 ⟨rfl, hst⟩
          obtain ⟨H8, hL8, hk8, hs8⟩ := hst
          go_wp2_with fail
          refine (note_callsm hL8 _).mono ?_
          rintro e w9 ⟨rfl, hst⟩
          obtain ⟨H9, hL9, hk9, hs9⟩ := hst
          go_wp2_with fail
          refine (note_callsm hL9 _).mono ?_
          rintro e w10 ⟨rfl, hst⟩
          go_wp2_with fail
          go_ret
          have hfin := LStpm.trans HK4.out.1 HK4.out.2 (LStpm.trans hk8 hs8 (LStpm.trans hk9 hs9 hst))
          have hw : lWrite d l dead ss = (E2, (dDel (dSync (dApp d freshN (frm (manB ss))).2.2 freshN).2 freshN).2, l, (dead || decide ((dDel (dSync (dApp d freshN (frm (manB ss))).2.2 freshN).2 freshN).1 = 62)) || decide (E2 = 62)) := by
            unfold lWrite
            rw [HX.out, if_neg hE2]
          rw [hw]
          exact ⟨rfl, R, fun h => absurd h (by assumption), fun x hx => .inl hx, hfin⟩
      · obtain ⟨E1, hE⟩ : ∃ E1, E1 = (dApp d freshN (frm (manB ss))).1 := ⟨_, rfl⟩
        rw [← hE] at hE1 ⊢
        have HE := Shut.mk hE
        clear hE
        obtain ⟨A4, c4, g1, g2, g3, g4, g5⟩ := hL3.log
        have t0 : w3.cell? ⟨gl, 0, none⟩ = some (gp gd) := g1.cell 0
        clear g1 g2 g3 g4 g5
        have HL3 := Shut.mk hL3
        have HX := Shut.mk (show wrt3 d ss = (E1, (dApp d freshN (frm (manB ss))).2.2) by unfold wrt3; rw [if_pos (by rw [← HE.out]; exact hE1), ← HE.out])
        have HOK := Shut.mk (HO3.out.ok)
        clear hL3
        go_wp2_with fail
        refine (fresh_removem HL3.out HOK.out).mono ?_
        rintro e w8 ⟨rfl, hst⟩
        obtain ⟨H8, hL8, hk8, hs8⟩ := hst
        go_wp2_with fail
        refine (note_callsm hL8 _).mono ?_
        rintro e w9 ⟨rfl, hst⟩
        obtain ⟨H9, hL9, hk9, hs9⟩ := hst
        go_wp2_with fail
        refine (note_callsm hL9 _).mono ?_
        rintro e w10 ⟨rfl, hst⟩
        go_wp2_with fail
        go_ret
        have hfin := LStpm.trans HK3.out.1 HK3.out.2 (LStpm.trans hk8 hs8 (LStpm.trans hk9 hs9 hst))
        have hw : lWrite d l dead ss = (E1, (dDel (dApp d freshN (frm (manB ss))).2.2 freshN).2, l, (dead || decide ((dDel (dApp d freshN (frm (manB ss))).2.2 freshN).1 = 62)) || decide (E1 = 62)) := by
          unfold lWrite
          rw [HX.out, if_neg hE1]
        rw [hw]
        exact ⟨rfl, R, fun h => absurd h (by assumption), fun x hx => .inl hx, hfin⟩
/-- a manifest's write, and what it leaves -/
structure WrtTom (gl gd Z : Nat) (H R : List Nat) (d : Ds) (l : List Nat) (n N U : Nat) (w : World) (E : Int) (w' : World) (d' : Ds) (l' : List Nat) (dead' : Bool) : Prop where
  stp : ∃ R', (E = 0 → ∀ x ∈ R', w.heap.size ≤ x) ∧ (∀ x ∈ R', x ∈ R ∨ w.heap.size ≤ x) ∧ LStpm w w' gl gd Z H R' d' l' dead'
  liv : Liv d' (N + 2) (U + 48)
  res : (E = 0 ∧ l' = [n] ∧ dead' = false ∧ ∀ s, look d'.S s = if s = manN then some (frm (manB [n]), 48) else look d.S s) ∨ (E = 62 ∧ l' = l ∧ dead' = true ∧ d'.fuse = 0 ∧ ∀ s, s ≠ freshN → look d'.S s = look d.S s)
theorem write_onem (h : LDm w gl gd Z H R d l false) (hH : ∀ x ∈ H, x < w.heap.size) (hfr : look d.S freshN = none) {N U : Nat} (hv : Liv d N U) (hN : N ≤ 700000000) (hU : U + 48 ≤ 1048576) (n : Nat) (hn9 : n ≤ 99999999) :
    Calls Tryz.prog 42 #[gp gl, .slice (some ⟨w.heap.size, 0, none⟩) 1 1] (w.alloc (.cells #[.int .i64 (n : Int)] 3)) fun e w' => ∃ E d' l' dead', e = .returned (.int .i64 E) ∧ WrtTom gl gd Z H R d l n N U w E w' d' l' dead' := by
  have hb : Below w.heap.size w (w.alloc (.cells #[.int .i64 (n : Int)] 3)) := (Below.refl _ w).alloc (Nat.le_refl _) _
  have hz := h.zs
  have hkey := h.keys
  have := man_callsm (h.quiet hb) (hv.okN 2 (by omega)) (some ⟨w.heap.size, 0, none⟩) 1 [n] (show Rd _ _ (its [n]) from rd_new w #[.int .i64 (n : Int)] 3) ⟨Nat.le_refl _, fun a ha => by cases ha; rfl⟩ (fun a ha => by
    cases ha
    exact ⟨fun hx => by have := hH _ hx; simp at this, hz, by simp⟩) (by simp) (by simp) (fun x hx => by
    have : x = n := by simpa using hx
    omega)
  refine this.mono ?_
  rintro e w' ⟨rfl, R', hR', hRb, H', g1, g2, g3⟩
  have hst2 : LStpm w w' gl gd Z H R' (lWrite d l false [n]).2.1 (lWrite d l false [n]).2.2.1 (lWrite d l false [n]).2.2.2 :=
    ⟨H', g1, (Kb.of_below hb H).trans g2 (fun x hx => .inl hx), fun x hx => (g3 x hx).imp id fun h => Nat.le_trans hb.size h⟩
  have hR2 : (lWrite d l false [n]).1 = 0 → ∀ x ∈ R', w.heap.size ≤ x := fun h x hx => by
    rw [hR' h] at hx
    have : x = w.heap.size := by simpa [blkOf] using hx
    omega
  have hR3 : ∀ x ∈ R', x ∈ R ∨ w.heap.size ≤ x := fun x hx => (hRb x hx).imp id fun h => by
    have : x = w.heap.size := by simpa [blkOf] using h
    omega
  rcases write_cases hv hkey l false [n] hfr (by simpa using hU) with ⟨d', e1, v1, f1, c1, k1⟩ | ⟨d', e1, v1, f1, c1, k1⟩
  · rw [e1] at hst2 hR2 ⊢
    exact ⟨0, d', [n], false, rfl, ⟨R', hR2, hR3, hst2⟩, v1, .inl ⟨rfl, rfl, rfl, k1⟩⟩
  · rw [e1] at hst2 hR2 ⊢
    exact ⟨62, d', l, true, rfl, ⟨R', hR2, hR3, hst2⟩, v1, .inr ⟨rfl, rfl, rfl, c1, k1⟩⟩
/-- what fill leaves -/
structure FillTom (gl gd Z : Nat) (H R : List Nat) (d : Ds) (l : List Nat) (n : Nat) (rs : List (List UInt8)) (N U : Nat) (w : World) (E : Int) (w' : World) (d' : Ds) (l' : List Nat) (dead' : Bool) : Prop where
  stp : ∃ R', (E = 0 → ∀ x ∈ R', w.heap.size ≤ x) ∧ (∀ x ∈ R', x ∈ R ∨ w.heap.size ≤ x) ∧ LStpm w w' gl gd Z H R' d' l' dead'
  liv : Liv d' N U
  res : (E = 0 ∧ l' = [n] ∧ dead' = false ∧ look d'.S manN = some (frm (manB [n]), 48) ∧ ((rs = [] ∧ look d'.S (seg n) = none) ∨ look d'.S (seg n) = some (frs rs, (frs rs).length)) ∧ ∀ s, s ≠ manN → s ≠ seg n → look d'.S s = look d.S s) ∨
    (E = 62 ∧ l' = l ∧ d'.fuse = 0 ∧ ∀ s, s ≠ freshN → s ≠ seg n → look d'.S s = look d.S s)
set_option maxHeartbeats 4000000 in
theorem fill_callsm (h : LDm w gl gd Z H R d l false) (hH : ∀ x ∈ H, x < w.heap.size) (hfr : look d.S freshN = none) {NN UU : Nat} (hv : Liv d NN UU) (n : Nat) (hn9 : n ≤ 99999999) (hno : look d.S (seg n) = none)
    (A : Option Addr) (N c : Nat) (vs : List Value) (rs : List (List UInt8)) (hr : Rd w A vs) (hrw : RwV w (fun x => x ∉ H) vs rs) (hA : ∀ a, A = some a → a.block ∉ H) (hok : ∀ r ∈ rs, Okr r) (hN : rs.length = N) (hNN : NN + N ≤ 700000000) (hUU : UU + 4040 * N + 48 ≤ 1048576) :
    Calls Tryz.prog 58 #[gp gl, .int .i64 (n : Int), .slice A N c] w fun e w' => ∃ E d' l' dead', e = .returned (.int .i64 E) ∧ FillTom gl gd Z H R d l n rs (NN + N + 2) (UU + 4040 * N + 48) w E w' d' l' dead' := by
  have HL := Shut.mk h
  have HHL := Shut.mk hH
  have HFR := Shut.mk hfr
  have HV := Shut.mk hv
  have HNO := Shut.mk hno
  have HR := Shut.mk hr
  have HRW := Shut.mk hrw
  have HA := Shut.mk hA
  have HOK := Shut.mk hok
  have HN := Shut.mk hN
  have HNTM := Shut.mk hn9
  clear h hH hfr hv hno hr hrw hA hok hN hn9
  go_enter Tryz.func58, Tryz.ntmps58
  go_wp2_with fail
  go_loopw [14] (fun i wr => ∃ k : Nat, k ≤ N ∧ i = .int .i64 (k : Int) ∧ Shut (∃ dk Hk, LDm wr gl gd Z Hk R dk l false ∧ (∀ x ∈ Hk, x < wr.heap.size) ∧ (Kb w wr H ∧ ∀ x ∈ Hk, x ∈ H ∨ w.heap.size ≤ x) ∧ Liv dk (NN + k) (UU + 4040 * k) ∧ (∀ s, s ≠ seg n → look dk.S s = look d.S s) ∧ ((k = 0 ∧ look dk.S (seg n) = none) ∨ (0 < k ∧ look dk.S (seg n) = some (frs (rs.take k), 0))))) (fun i _ => N - (intOf i).toNat)
  case atStart => exact ⟨0, Nat.zero_le _, rfl, ⟨d, H, HL.out, HHL.out, ⟨Kb.refl _ _, fun x hx => .inl hx⟩, HV.out, fun s _ => rfl, .inl ⟨rfl, HNO.out⟩⟩⟩
  case round =>
    obtain ⟨k, hk, rfl, HS⟩ := hrel
    obtain ⟨dk, Hk, hLk, hltk, hKk, hvk, ho1, ho2⟩ := HS.out
    have HLK := Shut.mk hLk
    have HLTK := Shut.mk hltk
    have HKK := Shut.mk hKk
    have HVK := Shut.mk hvk
    have HO1 := Shut.mk ho1
    have HO2 := Shut.mk ho2
    have HKEY := Shut.mk hLk.keys
    clear HS hLk hltk hvk ho1 ho2
    by_cases hlt : k < N
    · have hkl : k < rs.length := by rw [HN.out]; exact hlt
      obtain ⟨Ak, ck, hv1, hc1, hr1, hq1⟩ := HRW.out.2 k hkl
      obtain ⟨a1, hA1, hd1⟩ := HR.out (fun e => by rw [e] at hv1; simp at hv1)
      subst hA1
      have q0 := hd1 k _ hv1
      have q1 := (World.cell?_of_block (w := w) (hKk.1.block _ (World.block_lt_of_cell? w _ q0) (fun hx => HA.out a1 rfl (by rw [block_of_add] at hx; exact hx)))).trans q0
      obtain ⟨r, hr⟩ : ∃ r, r = rs[k] := ⟨_, rfl⟩
      have HTK : Shut (rs.take (k + 1) = rs.take k ++ [r]) := ⟨by rw [List.take_succ_eq_append_getElem hkl, hr]⟩
      have hokr : Okr r := by rw [hr]; exact HOK.out _ (List.getElem_mem _)
      rw [← hr] at q1 hr1
      have HRK := Shut.mk (rdB_kept hr1 hKk.1 (fun a ha => hq1 a ha))
      obtain ⟨RN, hR⟩ : ∃ RN, RN = r.length := ⟨_, rfl⟩
      rw [← hR] at q1
      have h1R : 1 ≤ RN := by rw [hR]; exact hokr.1
      have h2R : RN ≤ 4000 := by rw [hR]; exact hokr.2
      have HFRL : Shut ((frm r).length = 40 + RN) := ⟨by rw [frm_length, hR]⟩
      have HFC := Shut.mk (frame_calls Ak ck RN r wr HRK.out hR.symm h1R h2R HLK.out.tb.k HLK.out.tb.b)
      have hkI : (k : Int) < (N : Int) := by omega
      clear hv1 hc1 hr1 hq1 hd1 q0 hr hokr hR hKk hkl
      go_wp2_with fail
      refine HFC.out.mono ?_
      rintro e w2 ⟨v2, rfl, ho2, hb2, hn2⟩
      obtain ⟨A2, c2, rfl, hx1, hac2, hx2, hob2, hx3⟩ := ho2.form
      have HAC2 := Shut.mk hac2
      have HFB := Shut.mk (rdb_own _ ho2)
      have HB2 := Shut.mk hb2
      have HL2 := Shut.mk (HLK.out.quiet hb2)
      clear ho2 hb2 hn2 hob2 hx1 hx2 hx3 hac2 q1
      rcases app_cases HVK.out HKEY.out (seg n) (frm r) (nameOk_seg HNTM.out) (by rw [HFRL.out]; omega) with ⟨e1, f1⟩ | ⟨d9, e1, v1, f1, c1, s1⟩
      · have HAP : Shut (∀ wx, Below w2.heap.size w2 wx → Calls Tryz.prog 21 #[gp gd, .string (segS n), .slice A2 (40 + RN) c2] wx fun e w' => e = .returned (.tuple #[.int .i64 0, .int .i64 62]) ∧ LStpm wx w' gl gd Z Hk R dk l false) := ⟨fun wx hb => by
          have := seg_appendm (HL2.out.quiet hb) (HVK.out.okN 0 (by omega)).ok n HNTM.out A2 (40 + RN) c2 (frm r) (HFB.out.keep hb) HFRL.out HAC2.out (by unfold reach; omega)
          rw [e1] at this
          exact this⟩
        have HF1 := Shut.mk f1
        clear e1 f1
        go_wp2_with fail
        have s0 := HL2.out.c0
        go_region_held3 (fun w' => w'.cell? ⟨gl, 0, none⟩ = some (gp gd)) (first | exact s0 | exact t1 | exact t2 | go_keep)
          (first
            | (go_at_call 49; refine (file_calls n w2.drew HNTM.out (HL2.out.quiet (w' := w2.drew) ((Below.refl _ w2).drew)).tb.p).mono ?_; rintro e w5 ⟨rfl, hb5⟩; have HB5 := Shut.mk (below_drewR (w := w2) hb5); have HL5 := Shut.mk (HL2.out.quiet HB5.out); have t1 := HL5.out.c0; clear hb5)
            | (go_at_call 21; refine (HAP.out w5 HB5.out).mono ?_; rintro e w8 ⟨rfl, H8, hL8, hk8, hs8⟩; have HL8 := Shut.mk hL8; have HK8 := Shut.mk (kstep (kquiet (kquiet HKK.out HB2.out) HB5.out) (And.intro hk8 hs8)); have t2 := HL8.out.c0; clear hL8 hk8 hs8))
        clear s0 t1 t2
        go_wp2_with fail
        go_ret
        exact ⟨62, dk, l, false, rfl, ⟨R, fun h => absurd h (by decide), fun x hx => .inl hx, H8, HL8.out, HK8.out.1, HK8.out.2⟩, HVK.out.mono (by omega) (by omega), .inr ⟨rfl, rfl, HF1.out, fun s _ hs => HO1.out s hs⟩⟩
      · have HAP : Shut (∀ wx, Below w2.heap.size w2 wx → Calls Tryz.prog 21 #[gp gd, .string (segS n), .slice A2 (40 + RN) c2] wx fun e w' => e = .returned (.tuple #[.int .i64 (40 + (RN : Int)), .int .i64 0]) ∧ LStpm wx w' gl gd Z Hk R d9 l false) := ⟨fun wx hb => by
          have := seg_appendm (HL2.out.quiet hb) (HVK.out.okN 0 (by omega)).ok n HNTM.out A2 (40 + RN) c2 (frm r) (HFB.out.keep hb) HFRL.out HAC2.out (by unfold reach; omega)
          rw [e1] at this
          rw [HFRL.out] at this
          push_cast at this
          exact this⟩
        rw [HFRL.out] at v1
        have HV9 := Shut.mk (v1.mono (show NN + k + 1 ≤ NN + (k + 1) by omega) (show UU + 4040 * k + (40 + RN) ≤ UU + 4040 * (k + 1) by omega))
        have HS9 := Shut.mk s1
        clear e1 v1 f1 c1 s1
        go_wp2_with fail
        have s0 := HL2.out.c0
        go_region_held3 (fun w' => w'.cell? ⟨gl, 0, none⟩ = some (gp gd)) (first | exact s0 | exact t1 | exact t2 | go_keep)
          (first
            | (go_at_call 49; refine (file_calls n w2.drew HNTM.out (HL2.out.quiet (w' := w2.drew) ((Below.refl _ w2).drew)).tb.p).mono ?_; rintro e w5 ⟨rfl, hb5⟩; have HB5 := Shut.mk (below_drewR (w := w2) hb5); have HL5 := Shut.mk (HL2.out.quiet HB5.out); have t1 := HL5.out.c0; clear hb5)
            | (go_at_call 21; refine (HAP.out w5 HB5.out).mono ?_; rintro e w8 ⟨rfl, H8, hL8, hk8, hs8⟩; have HL8 := Shut.mk hL8; have HK8 := Shut.mk (kstep (kquiet (kquiet HKK.out HB2.out) HB5.out) (And.intro hk8 hs8)); have t2 := HL8.out.c0; clear hL8 hk8 hs8))
        clear s0 t1 t2
        obtain ⟨H10, hL10, hsub10, hlt10⟩ := HL8.out.trim
        have HS2 : Shut (∃ dk Hk, LDm w8 gl gd Z Hk R dk l false ∧ (∀ x ∈ Hk, x < w8.heap.size) ∧ (Kb w w8 H ∧ ∀ x ∈ Hk, x ∈ H ∨ w.heap.size ≤ x) ∧ Liv dk (NN + (k + 1)) (UU + 4040 * (k + 1)) ∧ (∀ s, s ≠ seg n → look dk.S s = look d.S s) ∧ ((k + 1 = 0 ∧ look dk.S (seg n) = none) ∨ (0 < k + 1 ∧ look dk.S (seg n) = some (frs (rs.take (k + 1)), 0)))) := by
          refine ⟨d9, H10, hL10, hlt10, ⟨HK8.out.1, fun x hx => HK8.out.2 x (hsub10 x hx)⟩, HV9.out, fun s hs => ?_, .inr ⟨by omega, ?_⟩⟩
          · rw [HS9.out, look_addF, if_neg hs]
            exact HO1.out s hs
          · rw [HS9.out, look_addF, if_pos rfl, HTK.out, frs_append, frs_one]
            rcases HO2.out with ⟨h1, h2⟩ | ⟨h1, h2⟩
            · rw [h2, h1]
              simp [frs_nil]
            · rw [h2]
        clear hL10 hsub10 hlt10
        go_wp2_with fail
        go_roundw
        case rel => exact ⟨k + 1, by omega, by go_num, HS2⟩
        case measure => first | (simp [intOf]; done) | (simp [intOf]; omega)
    · obtain rfl : k = N := by omega
      have HTK : Shut (rs.take k = rs) := ⟨List.take_of_length_le (by rw [HN.out]; exact Nat.le_refl _)⟩
      by_cases hk0 : k = 0
      · subst hk0
        have hrs : rs = [] := List.eq_nil_of_length_eq_zero HN.out
        have HRS := Shut.mk hrs
        have hfr2 : look dk.S freshN = none := by rw [HO1.out _ (fun e => seg_ne_fresh _ e.symm)]; exact HFR.out
        have hno2 : look dk.S (seg n) = none := by
          rcases HO2.out with ⟨_, h⟩ | ⟨h, _⟩
          · exact h
          · omega
        have HWR := Shut.mk (write_onem HLK.out HLTK.out hfr2 HVK.out (by omega) (by omega) n HNTM.out)
        have HNO2 := Shut.mk hno2
        clear hrs hfr2 hno2 hKk
        go_wp2_with fail
        refine HWR.out.mono ?_
        rintro e w9 ⟨E, d9, l9, dead9, rfl, hst, hlv, hres⟩
        go_wp2_with fail
        go_ret
        obtain ⟨R9, g0, g0b, H9, g1, g2, g3⟩ := hst
        have hk9 := kstep HKK.out (And.intro g2 g3)
        have hg0 : E = 0 → ∀ x ∈ R9, w.heap.size ≤ x := fun h x hx => Nat.le_trans HKK.out.1.size (g0 h x hx)
        have hg0b : ∀ x ∈ R9, x ∈ R ∨ w.heap.size ≤ x := fun x hx => (g0b x hx).imp id fun h => Nat.le_trans HKK.out.1.size h
        refine ⟨E, d9, l9, dead9, rfl, ⟨R9, hg0, hg0b, H9, g1, hk9.1, hk9.2⟩, hlv.mono (by omega) (by omega), ?_⟩
        rcases hres with ⟨rfl, rfl, rfl, h4⟩ | ⟨rfl, rfl, rfl, h4, h5⟩
        · exact .inl ⟨rfl, rfl, rfl, by rw [h4, if_pos rfl], .inl ⟨HRS.out, by rw [h4, if_neg (seg_ne_man n)]; exact HNO2.out⟩, fun s hs1 hs2 => by rw [h4, if_neg hs1]; exact HO1.out s hs2⟩
        · exact .inr ⟨rfl, rfl, h4, fun s hs1 hs2 => by rw [h5 s hs1]; exact HO1.out s hs2⟩
      · have hlk : look dk.S (seg n) = some (frs rs, 0) := by
          rcases HO2.out with ⟨h, _⟩ | ⟨_, h⟩
          · exact absurd h hk0
          · rw [HTK.out] at h
            exact h
        have hkI : (0 : Int) < (k : Int) := by omega
        rcases sync_cases HVK.out HKEY.out hlk with ⟨e1, f1⟩ | ⟨d9, e1, v1, f1, c1, s1, n1⟩
        · have HSY : Shut (∀ wx, Below wr.heap.size wr wx → Calls Tryz.prog 24 #[gp gd, .string (segS n)] wx fun e w' => e = .returned (.int .i64 62) ∧ LStpm wx w' gl gd Z Hk R dk l false) := ⟨fun wx hb => by
            have := seg_syncm (HLK.out.quiet hb) (HVK.out.okN 0 (by omega)).ok n HNTM.out
            rw [e1] at this
            exact this⟩
          have HF1 := Shut.mk f1
          clear e1 f1 hlk hKk
          go_wp2_with fail
          have s0 := HLK.out.c0
          go_region_held3 (fun w' => w'.cell? ⟨gl, 0, none⟩ = some (gp gd)) (first | exact s0 | exact t1 | exact t2 | go_keep)
            (first
              | (go_at_call 49; refine (file_calls n wr.drew HNTM.out (HLK.out.quiet (w' := wr.drew) ((Below.refl _ wr).drew)).tb.p).mono ?_; rintro e w5 ⟨rfl, hb5⟩; have HB5 := Shut.mk (below_drewR (w := wr) hb5); have HL5 := Shut.mk (HLK.out.quiet HB5.out); have t1 := HL5.out.c0; clear hb5)
              | (go_at_call 24; refine (HSY.out w5 HB5.out).mono ?_; rintro e w8 ⟨rfl, H8, hL8, hk8, hs8⟩; have HL8 := Shut.mk hL8; have HK8 := Shut.mk (kstep (kquiet HKK.out HB5.out) (And.intro hk8 hs8)); have t2 := HL8.out.c0; clear hL8 hk8 hs8))
          clear s0 t1 t2
          go_wp2_with fail
          go_ret
          exact ⟨62, dk, l, false, rfl, ⟨R, fun h => absurd h (by decide), fun x hx => .inl hx, H8, HL8.out, HK8.out.1, HK8.out.2⟩, HVK.out.mono (by omega) (by omega), .inr ⟨rfl, rfl, HF1.out, fun s _ hs => HO1.out s hs⟩⟩
        · have HSY : Shut (∀ wx, Below wr.heap.size wr wx → Calls Tryz.prog 24 #[gp gd, .string (segS n)] wx fun e w' => e = .returned (.int .i64 0) ∧ LStpm wx w' gl gd Z Hk R d9 l false) := ⟨fun wx hb => by
            have := seg_syncm (HLK.out.quiet hb) (HVK.out.okN 0 (by omega)).ok n HNTM.out
            rw [e1] at this
            exact this⟩
          have hS9 : ∀ s, s ≠ seg n → look d9.S s = look d.S s := fun s hs => by rw [s1, look_setF, if_neg hs]; exact HO1.out s hs
          have hS8 : look d9.S (seg n) = some (frs rs, (frs rs).length) := by rw [s1, look_setF, if_pos rfl, hlk]; rfl
          have HV9 := Shut.mk v1
          have HS9 := Shut.mk (And.intro hS9 hS8)
          clear e1 v1 f1 c1 s1 n1 hS9 hS8 hlk hKk
          go_wp2_with fail
          have s0 := HLK.out.c0
          go_region_held3 (fun w' => w'.cell? ⟨gl, 0, none⟩ = some (gp gd)) (first | exact s0 | exact t1 | exact t2 | go_keep)
            (first
              | (go_at_call 49; refine (file_calls n wr.drew HNTM.out (HLK.out.quiet (w' := wr.drew) ((Below.refl _ wr).drew)).tb.p).mono ?_; rintro e w5 ⟨rfl, hb5⟩; have HB5 := Shut.mk (below_drewR (w := wr) hb5); have HL5 := Shut.mk (HLK.out.quiet HB5.out); have t1 := HL5.out.c0; clear hb5)
              | (go_at_call 24; refine (HSY.out w5 HB5.out).mono ?_; rintro e w8 ⟨rfl, H8, hL8, hk8, hs8⟩; have HL8 := Shut.mk hL8; have HK8 := Shut.mk (kstep (kquiet HKK.out HB5.out) (And.intro hk8 hs8)); have t2 := HL8.out.c0; clear hL8 hk8 hs8))
          clear s0 t1 t2
          obtain ⟨H10, hL10, hsub10, hlt10⟩ := HL8.out.trim
          have hfr2 : look d9.S freshN = none := by rw [HS9.out.1 _ (fun e => seg_ne_fresh _ e.symm)]; exact HFR.out
          have HWR := Shut.mk (write_onem hL10 hlt10 hfr2 HV9.out (by omega) (by omega) n HNTM.out)
          have HK10 : Shut (Kb w w8 H ∧ ∀ x ∈ H10, x ∈ H ∨ w.heap.size ≤ x) := ⟨HK8.out.1, fun x hx => HK8.out.2 x (hsub10 x hx)⟩
          clear hL10 hsub10 hlt10 hfr2
          go_wp2_with fail
          refine HWR.out.mono ?_
          rintro e w9 ⟨E, d9b, l9, dead9, rfl, hst, hlv, hres⟩
          go_wp2_with fail
          go_ret
          obtain ⟨R9, g0, g0b, H9, g1, g2, g3⟩ := hst
          have hk9 := kstep HK10.out (And.intro g2 g3)
          have hg0 : E = 0 → ∀ x ∈ R9, w.heap.size ≤ x := fun h x hx => Nat.le_trans HK10.out.1.size (g0 h x hx)
          have hg0b : ∀ x ∈ R9, x ∈ R ∨ w.heap.size ≤ x := fun x hx => (g0b x hx).imp id fun h => Nat.le_trans HK10.out.1.size h
          refine ⟨E, d9b, l9, dead9, rfl, ⟨R9, hg0, hg0b, H9, g1, hk9.1, hk9.2⟩, hlv.mono (by omega) (by omega), ?_⟩
          rcases hres with ⟨rfl, rfl, rfl, h4⟩ | ⟨rfl, rfl, rfl, h4, h5⟩
          · exact .inl ⟨rfl, rfl, rfl, by rw [h4, if_pos rfl], .inr (by rw [h4, if_neg (seg_ne_man n)]; exact HS9.out.2), fun s hs1 hs2 => by rw [h4, if_neg hs1]; exact HS9.out.1 s hs2⟩
          · exact .inr ⟨rfl, rfl, h4, fun s hs1 hs2 => by rw [h5 s hs1]; exact HS9.out.1 s hs2⟩
end
end Go.Proofs.YtmlfeljhojmbbaaGreatDoor

namespace Go.Proofs.YtmlfeljhojmbbaaGreatDoor
open Go.RowKit Go.Maps Go.Sort
set_option linter.unusedSimpArgs false
set_option linter.unusedVariables false
set_option maxRecDepth 100000

/-- a disk of a log, all of it synced; other segments may stand -/
structure Syd (d : Ds) (cs : List (Nat × List (List UInt8))) (m : Nat) (rm : List (List UInt8)) : Prop where
  man : look d.S manN = some (frm (manB (lsq cs m)), 40 + 8 * (lsq cs m).length)
  closed : ∀ x ∈ cs, look d.S (seg x.1) = some (frs x.2, (frs x.2).length)
  last : (rm = [] ∧ look d.S (seg m) = none) ∨ look d.S (seg m) = some (frs rm, (frs rm).length)
  files : ∀ s, look d.S s ≠ none → s = manN ∨ s = freshN ∨ ∃ n, n ≤ 400 ∧ s = seg n
  okc : ∀ x ∈ cs, ∀ r ∈ x.2, Okr r
  okm : ∀ r ∈ rm, Okr r
  up : (lsq cs m).Pairwise (· < ·)
  lo : ∀ n ∈ lsq cs m, 1 ≤ n
section
variable {d d' : Ds} {cs : List (Nat × List (List UInt8))} {m j : Nat} {rm rs : List (List UInt8)}
theorem Lgd.syd (h : Lgd d cs m rm rm.length) (hlen : ∀ s b sy, look d.S s = some (b, sy) → sy ≤ b.length) (hm : m ≤ 400) : Syd d cs m rm := by
  refine ⟨h.man, h.closed, ?_, fun s hs => ?_, h.okc, h.okm, h.up, h.lo⟩
  · rcases h.last with h1 | ⟨sy, h1, h2⟩
    · exact .inl h1
    · rw [List.take_of_length_le (Nat.le_refl _)] at h2
      have h3 := hlen _ _ _ h1
      obtain rfl : sy = (frs rm).length := by omega
      exact .inr h1
  · rcases h.files s hs with h1 | h1 | ⟨n, h1, h2⟩
    · exact .inl h1
    · exact .inr (.inl h1)
    · exact .inr (.inr ⟨n, Nat.le_trans (h.le n h1) hm, h2⟩)
theorem Syd.le (h : Syd d cs m rm) : ∀ n ∈ lsq cs m, n ≤ m := fun n hn => by
  have := up_le h.up (lsq_ne cs m) n hn
  rwa [lsq_last] at this
theorem Syd.lt (h : Syd d cs m rm) {x : Nat × List (List UInt8)} (hx : x ∈ cs) : x.1 < m :=
  (List.pairwise_append.1 h.up).2.2 x.1 (List.mem_map_of_mem hx) m (by simp)
theorem Syd.len (h : Syd d cs m rm) : (lsq cs m).length ≤ m := up_length 0 h.up (fun n hn => h.lo n hn) m h.le
/-- fill stopped: the log is there as it was -/
theorem Syd.kept (h : Syd d cs m rm) (hm : m + 1 ≤ 400) (hs : ∀ s, s ≠ freshN → s ≠ seg (m + 1) → look d'.S s = look d.S s) : Syd d' cs m rm := by
  have hsn : ∀ n, n ≤ m → look d'.S (seg n) = look d.S (seg n) := fun n hn => hs _ (seg_ne_fresh _) (fun e => by have := seg_inj e; omega)
  refine ⟨by rw [hs _ man_ne (fun e => seg_ne_man _ e.symm)]; exact h.man, fun x hx => by rw [hsn _ (Nat.le_of_lt (h.lt hx))]; exact h.closed x hx, by rw [hsn m (Nat.le_refl _)]; exact h.last, fun s hs2 => ?_, h.okc, h.okm, h.up, h.lo⟩
  by_cases h1 : s = freshN
  · exact .inr (.inl h1)
  · by_cases h2 : s = seg (m + 1)
    · exact .inr (.inr ⟨m + 1, hm, h2⟩)
    · rw [hs s h1 h2] at hs2
      exact h.files s hs2
/-- the new segment alone is listed; of the old ones some may stand -/
theorem Syd.anew {d2 : Ds} (h : Syd d cs m rm) (hm : m + 1 ≤ 400) (hok : ∀ r ∈ rs, Okr r) (h1 : look d'.S manN = some (frm (manB [m + 1]), 48)) (h2 : (rs = [] ∧ look d'.S (seg (m + 1)) = none) ∨ look d'.S (seg (m + 1)) = some (frs rs, (frs rs).length)) (h3 : ∀ s, s ≠ manN → s ≠ seg (m + 1) → look d'.S s = look d.S s)
    (h4 : ∀ s, look d2.S s = look d'.S s ∨ (look d2.S s = none ∧ ∃ n ∈ lsq cs m, s = seg n)) : Syd d2 [] (m + 1) rs := by
  have e1 : look d2.S manN = look d'.S manN := by
    rcases h4 manN with h | ⟨_, n, _, e⟩
    · exact h
    · exact absurd e.symm (seg_ne_man n)
  have e2 : look d2.S (seg (m + 1)) = look d'.S (seg (m + 1)) := by
    rcases h4 (seg (m + 1)) with h | ⟨_, n, hn, e⟩
    · exact h
    · have h5 := h.le n hn
      have h6 := seg_inj e
      omega
  refine ⟨by rw [e1, h1]; rfl, fun x hx => (by cases hx), by rw [e2]; exact h2, fun s hs => ?_, fun x hx => (by cases hx), hok, List.pairwise_singleton _ _, fun n hn => ?_⟩
  · have hs2 : look d'.S s ≠ none := by
      rcases h4 s with h | ⟨h, _⟩
      · rwa [← h]
      · exact absurd h hs
    by_cases ha : s = manN
    · exact .inl ha
    · by_cases hb : s = seg (m + 1)
      · exact .inr (.inr ⟨m + 1, hm, hb⟩)
      · rw [h3 s ha hb] at hs2
        exact h.files s hs2
  · have : n = m + 1 := by simpa [lsq] using hn
    omega
theorem Syd.crash (h : Syd d cs m rm) (tl : List Tl) : ∃ B, Opb (dCrash d tl) cs m B ∧ rdL (B.getD []) = rm := by
  have hl : ∀ s, look (dCrash d tl).S s = (look d.S s).map fun p => (crashB ((tailOf tl s).getD zeroT) p.1 p.2, crashN ((tailOf tl s).getD zeroT) p.1.length p.2) := fun s => look_crashF (fun s => (tailOf tl s).getD zeroT) d.S s
  have hw : ∀ s b, look d.S s = some (b, b.length) → look (dCrash d tl).S s = some (b, b.length) := fun s b hb => by
    rw [hl, hb]
    simp only [Option.map_some]
    rw [(crash_whole _ _).1, (crash_whole _ _).2]
  have hman : look (dCrash d tl).S manN = some (frm (manB (lsq cs m)), 40 + 8 * (lsq cs m).length) := by
    have e : 40 + 8 * (lsq cs m).length = (frm (manB (lsq cs m))).length := by rw [frm_length, manB_length]
    have h1 := h.man
    rw [e] at h1 ⊢
    exact hw _ _ h1
  have hbase : ∀ B, (look (dCrash d tl).S (seg m)).map (·.1) = B → Opb (dCrash d tl) cs m B := fun B hB => by
    refine ⟨by rw [hman]; rfl, fun b sy hs => ?_, fun x hx => hw _ _ (h.closed x hx), hB, fun s hs => ?_, h.okc, h.up, h.lo⟩
    · rw [hman] at hs
      injection hs with hs
      injection hs with h1 h2
      rw [← h1, ← h2, frm_length, manB_length]
    · have hs2 : look d.S s ≠ none := fun e => hs (by rw [hl, e]; rfl)
      rcases h.files s hs2 with rfl | rfl | ⟨n, hn, rfl⟩
      · decide
      · decide
      · rw [seg_length (by omega)]
        omega
  rcases h.last with ⟨h1, h2⟩ | h1
  · exact ⟨none, hbase none (by rw [hl, h2]; rfl), by rw [h1]; exact rdL_nil⟩
  · exact ⟨some (frs rm), hbase _ (by rw [hw _ _ h1]; rfl), rdL_whole h.okm⟩
theorem Syd.few (h : Syd d cs m rm) (hk : Key7 d) : (lsD d).length ≤ 1000 := by
  have h1 := nodup_len (lsD d) (manN :: freshN :: (List.range 401).map seg) ((lsD_rising hk).imp fun hlt e => by subst e; exact List.lt_irrefl _ hlt) (fun s hs => by
    rcases h.files s (lsD_mem.1 hs) with rfl | rfl | ⟨n, hn, rfl⟩
    · simp
    · simp
    · exact List.mem_cons_of_mem _ (List.mem_cons_of_mem _ (List.mem_map_of_mem (List.mem_range.2 (by omega)))))
  simp at h1
  omega
theorem lRem_cases : ∀ (l : List Nat) {d : Ds} {N U : Nat}, Liv d N U → (((lRem d l).1 = 0 ∧ ∀ n ∈ l, look (lRem d l).2.S (seg n) = none) ∨ ((lRem d l).1 = 62 ∧ (lRem d l).2.fuse = 0)) ∧ Liv (lRem d l).2 N U ∧ ∀ s, look (lRem d l).2.S s = look d.S s ∨ (look (lRem d l).2.S s = none ∧ ∃ n ∈ l, s = seg n)
  | [], d, N, U, hv => ⟨.inl ⟨rfl, fun n hn => by cases hn⟩, hv, fun s => .inl rfl⟩
  | n :: r, d, N, U, hv => by
    have hlr : lRem d (n :: r) = if (look d.S (seg n)).isSome = true then (if (dDel d (seg n)).1 = 0 then lRem (dDel d (seg n)).2 r else dDel d (seg n)) else lRem d r := rfl
    cases hl : look d.S (seg n) with
    | none =>
      rw [hlr, hl, if_neg (by simp)]
      obtain ⟨h1, h2, h3⟩ := lRem_cases r hv
      refine ⟨h1.imp (fun h => ⟨h.1, fun k hk => ?_⟩) id, h2, fun s => (h3 s).imp id fun h => ⟨h.1, ?_⟩⟩
      · rcases List.mem_cons.1 hk with rfl | hk
        · rcases h3 (seg k) with h | h
          · rw [h, hl]
          · exact h.1
        · exact h.2 k hk
      · obtain ⟨k, hk, e⟩ := h.2
        exact ⟨k, List.mem_cons_of_mem _ hk, e⟩
    | some p =>
      rw [hlr, hl, if_pos (by simp)]
      rcases del_cases hv hl with ⟨e1, f1⟩ | ⟨d', e1, v1, f1, c1, s1, n1⟩
      · rw [e1, if_neg (by simp)]
        exact ⟨.inr ⟨rfl, f1⟩, hv, fun s => .inl rfl⟩
      · rw [e1, if_pos rfl]
        obtain ⟨h1, h2, h3⟩ := lRem_cases r v1
        have hd : ∀ s, look d'.S s = if s = seg n then none else look d.S s := fun s => by rw [s1, look_delF]
        refine ⟨h1.imp (fun h => ⟨h.1, fun k hk => ?_⟩) id, h2, fun s => ?_⟩
        · rcases List.mem_cons.1 hk with rfl | hk
          · rcases h3 (seg k) with h | h
            · rw [h, hd, if_pos rfl]
            · exact h.1
          · exact h.2 k hk
        · by_cases hs : s = seg n
          · refine .inr ⟨?_, n, List.mem_cons_self, hs⟩
            rcases h3 s with h | h
            · rw [h, hd, if_pos hs]
            · exact h.1
          · rcases h3 s with h | ⟨h, k, hk, e⟩
            · exact .inl (by rw [h, hd, if_neg hs])
            · exact .inr ⟨h, k, List.mem_cons_of_mem _ hk, e⟩
end
/-- what Replace leaves -/
structure ReplTo (gl gd Z : Nat) (H : List Nat) (cs : List (Nat × List (List UInt8))) (m : Nat) (rm rs : List (List UInt8)) (N U : Nat) (w : World) (E : Int) (w' : World) (d' : Ds) (l' : List Nat) (dead' : Bool) : Prop where
  stp : LStp w w' gl gd Z H d' l' dead'
  liv : Liv d' N U
  res : (E = 0 ∧ l' = [m + 1] ∧ dead' = false ∧ Syd d' [] (m + 1) rs) ∨ (E = 62 ∧ dead' = true ∧ l' ≠ [] ∧ l'.length ≤ 400 ∧ d'.fuse = 0 ∧ (Syd d' cs m rm ∨ Syd d' [] (m + 1) rs))
section
variable {w w' : World} {gl gd Z : Nat} {H : List Nat} {d : Ds} {cs : List (Nat × List (List UInt8))} {m : Nat} {rm : List (List UInt8)}
set_option maxHeartbeats 4000000 in
theorem replace_calls (h : LD w gl gd Z H d (lsq cs m) false) (hH : ∀ x ∈ H, x < w.heap.size) (hs : Syd d cs m rm) (hfr : look d.S freshN = none) (hno : look d.S (seg (m + 1)) = none) {NN UU : Nat} (hv : Liv d NN UU) (hm : m ≤ 300)
    (A : Option Addr) (N c : Nat) (vs : List Value) (rs : List (List UInt8)) (hr : Rd w A vs) (hrw : RwV w (fun x => x ∉ H) vs rs) (hA : ∀ a, A = some a → a.block ∉ H) (hok : ∀ r ∈ rs, Okr r) (hN : rs.length = N) (hN9 : N ≤ 100000000) (hNN : NN + N ≤ 600000000) (hUU : UU + 4040 * N + 48 ≤ 1048576) :
    Calls Tryz.prog 13 #[gp gl, .slice A N c] w fun e w' => ∃ E d' l' dead', e = .returned (.int .i64 E) ∧ ReplTo gl gd Z H cs m rm rs (NN + N + 2) (UU + 4040 * N + 48) w E w' d' l' dead' := by
  obtain ⟨M, R, hM, hMH, hRH, A1, c1, q1, hrd1, hA1⟩ := h.toM (lsq_ne cs m)
  have hlen := hs.len
  obtain ⟨LN, hLN⟩ : ∃ LN, LN = (lsq cs m).length := ⟨_, rfl⟩
  rw [← hLN] at q1 hlen
  have q2 := h.c2
  have HL := Shut.mk h
  have HHL := Shut.mk hH
  have HSY := Shut.mk hs
  have HFR := Shut.mk hfr
  have HNO := Shut.mk hno
  have HV := Shut.mk hv
  have HR := Shut.mk hr
  have HRW := Shut.mk hrw
  have HA := Shut.mk hA
  have HOK := Shut.mk hok
  have HN := Shut.mk hN
  have HLN := Shut.mk hLN
  have HLEN := Shut.mk hlen
  have HM := Shut.mk (And.intro hM (And.intro hMH hRH))
  have HROW := Shut.mk (And.intro hrd1 hA1)
  have HQ1 := Shut.mk q1
  have HCT := Shut.mk (ctn_calls A N c vs rs _ w hr hrw hN hok (by omega))
  have HLA := Shut.mk (last_m h (by omega))
  clear h hH hs hfr hno hv hr hrw hA hok hN hLN hlen hM hMH hRH hrd1 hA1 q1
  go_enter Tryz.func13, Tryz.ntmps13
  go_wp2_with fail
  refine (none_calls HL.out).mono ?_
  rintro e w1 ⟨rfl, rfl⟩
  go_wp2_with fail
  refine HCT.out.mono ?_
  rintro e w1 ⟨rfl, rfl⟩
  go_wp2_with fail
  refine HLA.out.mono ?_
  rintro e w1 ⟨rfl, hb1⟩
  have HB1 := Shut.mk hb1
  have s1 := (hb1.cell (World.block_lt_of_cell? w _ HQ1.out)).trans HQ1.out
  have HL1 := Shut.mk (HL.out.quiet hb1)
  have hm9 : ¬ (m : Int) = 99999999 := by omega
  clear hb1 q2
  go_wp2_with fail
  go_region_held3 (fun w' => w'.cell? ⟨gl, 1, none⟩ = some (.slice A1 LN c1)) (first | exact s1 | exact t1 | go_keep)
    (first
      | (go_at_call 50; refine (last_m (LD.quiet HL1.out (w' := w1.drew) ((Below.refl _ w1).drew)) (by have := HLEN.out; have := HLN.out; omega)).mono ?_; rintro e w2 ⟨rfl, hb2⟩; have HB2 := Shut.mk (HB1.out.trans ((below_drewR (w := w1) hb2).mono HB1.out.size)); have t1 := (HB2.out.cell (World.block_lt_of_cell? w _ HQ1.out)).trans HQ1.out; clear hb2))
  clear s1 t1
  have hmI : (m : Int) + 1 = ((m + 1 : Nat) : Int) := by omega
  have HM2 := Shut.mk (HM.out.1.quiet HB2.out)
  have HML := Shut.mk (fun x hx => Nat.lt_of_lt_of_le (HHL.out x (HM.out.2.1 x hx)) HB2.out.size : ∀ x ∈ M, x < w2.heap.size)
  have HFI := Shut.mk (fill_callsm HM2.out HML.out HFR.out HV.out (m + 1) (by omega) HNO.out A N c vs rs (rd_kept HR.out (Kb.of_below HB2.out []) (fun a _ _ hx => by cases hx)) ((HRW.out.keep HB2.out).imp fun x hx hxM => hx (HM.out.2.1 x hxM)) (fun a ha hx => HA.out a ha (HM.out.2.1 _ hx)) HOK.out HN.out (by omega) hUU)
  rw [← hmI] at HFI
  clear hmI
  go_wp2_with fail
  refine HFI.out.mono ?_
  rintro e w3 ⟨E, d3, l3, dead3, rfl, ⟨R3, hR3, hR3b, M3, hL3, hk3, hs3⟩, hv3, hres3⟩
  go_wp2_with fail
  refine (note_callsm hL3 E).mono ?_
  rintro e w4 ⟨rfl, M4, hL4, hk4, hs4⟩
  have hk34 := kstep (And.intro hk3 hs3) (And.intro hk4 hs4)
  have HK4 : Shut (Kb w w4 M ∧ ∀ x ∈ M4, x ∈ M ∨ w.heap.size ≤ x) := ⟨(Kb.of_below HB2.out M).trans hk34.1 (fun x hx => .inl hx), fun x hx => (hk34.2 x hx).imp id fun h => Nat.le_trans HB2.out.size h⟩
  have HR3 : Shut ((E = 0 → ∀ x ∈ R3, w.heap.size ≤ x) ∧ ∀ x ∈ R3, x ∈ R ∨ w.heap.size ≤ x) := ⟨fun h x hx => Nat.le_trans HB2.out.size (hR3 h x hx), fun x hx => (hR3b x hx).imp id fun h => Nat.le_trans HB2.out.size h⟩
  have HL4 := Shut.mk hL4.toD
  have HV3 := Shut.mk hv3
  have HH4 : Shut (Kb w w4 H ∧ ∀ x ∈ M4 ++ R3, x ∈ H ∨ w.heap.size ≤ x) := ⟨HK4.out.1.mono HM.out.2.1, fun x hx => by
    rcases List.mem_append.1 hx with h | h
    · exact (HK4.out.2 x h).imp (HM.out.2.1 x) id
    · exact (HR3.out.2 x h).imp (HM.out.2.2 x) id⟩
  clear hR3 hR3b hL3 hk3 hs3 hL4 hk4 hs4 hk34 hv3
  rcases hres3 with ⟨rfl, rfl, rfl, g1, g2, g3⟩ | ⟨rfl, rfl, g1, g2⟩
  · -- the new segment is listed: the old ones go
    have HA4 : Shut (∀ a, A1 = some a → a.block ∉ M4 ++ R3 ∧ a.block < w4.heap.size) := ⟨fun a ha => by
      obtain ⟨b1, b2, b3⟩ := HM.out.1.rm _ (HROW.out.2 a ha)
      refine ⟨fun hx => ?_, Nat.lt_of_lt_of_le b3 HK4.out.1.size⟩
      rcases List.mem_append.1 hx with h | h
      · rcases HK4.out.2 _ h with h | h
        · exact b1 h
        · omega
      · have := HR3.out.1 rfl _ h
        omega⟩
    have hRM := remove_calls HL4.out (HV3.out.okN 0 (by omega)) A1 c1 (lsq cs m) (rd_kept HROW.out.1 HK4.out.1 (fun a ha _ hx => (HM.out.1.rm _ (HROW.out.2 a ha)).1 hx)) HA4.out (fun n hn => by have := HSY.out.le n hn; omega) (by have := HLEN.out; have := HLN.out; omega)
    rw [← HLN.out] at hRM
    have HRM := Shut.mk hRM
    obtain ⟨c1', c2', c3'⟩ := lRem_cases (lsq cs m) HV3.out
    have HSY5 := Shut.mk (HSY.out.anew (by omega) HOK.out g1 g2 g3 c3')
    have HC := Shut.mk (And.intro c1' c2')
    clear hRM g1 g2 g3 c1' c2' c3'
    go_wp2_with fail
    refine HRM.out.mono ?_
    rintro e w5 ⟨rfl, hst⟩
    have HST := Shut.mk (LStp.trans HH4.out.1 HH4.out.2 hst)
    clear hst
    go_wp2_with fail
    go_ret
    rcases HC.out.1 with ⟨h1, h2⟩ | ⟨h1, h2⟩
    · have hst := HST.out
      rw [h1] at hst
      refine ⟨0, _, _, _, by rw [h1]; rfl, hst, HC.out.2, .inl ⟨rfl, rfl, by decide, HSY5.out⟩⟩
    · have hst := HST.out
      rw [h1] at hst
      exact ⟨62, _, _, _, by rw [h1]; rfl, hst, HC.out.2, .inr ⟨rfl, by decide, by simp, by simp, h2, .inr HSY5.out⟩⟩
  · -- fill stopped
    have HSY5 := Shut.mk (HSY.out.kept (by omega) g2)
    have HF := Shut.mk g1
    have HLEND : Shut ((dead3 || decide ((62 : Int) = 62)) = true) := ⟨by simp⟩
    rw [HLEND.out] at HL4
    obtain ⟨H10, hL10, hsub10, hlt10⟩ := HL4.out.trim
    have hb11 : Below w4.heap.size w4 (w4.alloc (.cells #[.int .i64 ((m : Int) + 1)] 3)) := (Below.refl _ w4).alloc (Nat.le_refl _) _
    have hmI : (m : Int) + 1 = ((m + 1 : Nat) : Int) := by omega
    have HRM := Shut.mk (remove_calls (hL10.quiet hb11) (HV3.out.okN 0 (by omega)) (some ⟨w4.heap.size, 0, none⟩) 1 [m + 1] (show Rd _ _ [.int .i64 ((m + 1 : Nat) : Int)] from hmI ▸ rd_new w4 #[.int .i64 ((m : Int) + 1)] 3) (fun a ha => by cases ha; exact ⟨fun hx => by have := hlt10 _ hx; simp at this, by simp⟩) (fun n hn => by have : n = m + 1 := (by simpa using hn); omega) (by simp))
    have hrem : (lRem d3 [m + 1]).2 = d3 := by
      show (if (look d3.S (seg (m + 1))).isSome = true then (if (dDel d3 (seg (m + 1))).1 = 0 then _ else _) else _ : Int × Ds).2 = _
      rw [dDel_stop HF.out]
      split
      · rfl
      · rfl
    rw [hrem] at HRM
    have HH5 : Shut (Kb w (w4.alloc (.cells #[.int .i64 ((m : Int) + 1)] 3)) H ∧ ∀ x ∈ H10, x ∈ H ∨ w.heap.size ≤ x) := ⟨HH4.out.1.below_ hb11, fun x hx => HH4.out.2 x (hsub10 x hx)⟩
    clear g1 g2 hb11 hL10 hsub10 hlt10 hrem hmI
    go_wp2_with fail
    refine HRM.out.mono ?_
    rintro e w5 ⟨rfl, hst⟩
    have HST := Shut.mk (LStp.trans HH5.out.1 HH5.out.2 hst)
    clear hst
    go_wp2_with fail
    go_ret
    exact ⟨62, d3, _, _, rfl, HST.out, HV3.out, .inr ⟨rfl, by simp, lsq_ne cs m, by have := HLEN.out; have := HLN.out; omega, HF.out, .inl HSY5.out⟩⟩
end
end Go.Proofs.YtmlfeljhojmbbaaGreatDoor

namespace Go.Proofs.YtmlfeljhojmbbaaGreatDoor
open Go.RowKit Go.Maps Go.Sort
set_option linter.unusedSimpArgs false
set_option linter.unusedVariables false
set_option maxRecDepth 100000

/-- a log and two rows of records beside it -/
structure Lt (w0 w : World) (gl gd : Nat) (H : List Nat) (d : Ds) (l : List Nat) (dead : Bool) (u : Value) (ws : List (List UInt8)) (v : Value) (fs : List (List UInt8)) : Prop where
  ld : LD w gl gd w0.heap.size H d l dead
  lt : ∀ x ∈ H, x < w.heap.size
  below : Below w0.heap.size w0 w
  nu : ∀ g, u.ownBlock = some g → g ∉ H
  ru : Recs w w0.heap.size (fun x => x < w0.heap.size) u ws
  nv : ∀ g, v.ownBlock = some g → g ∉ H
  rv : Recs w w0.heap.size (fun x => x < w0.heap.size) v fs
  uv : ∀ g, u.ownBlock = some g → v.ownBlock ≠ some g
section
variable {w0 w w' : World} {gl gd : Nat} {H : List Nat} {d d' : Ds} {l l' : List Nat} {cs : List (Nat × List (List UInt8))} {m j : Nat} {rm : List (List UInt8)} {dead dead' : Bool} {N U : Nat} {u v : Value} {ws fs : List (List UInt8)}
theorem Recs.lt {w : World} {lo : Nat} {P : Nat → Prop} {u : Value} {rs : List (List UInt8)} (h : Recs w lo P u rs) {g : Nat} (hg : u.ownBlock = some g) : g < w.heap.size := by
  obtain ⟨vs, ho, _⟩ := h
  exact ho.block_lt hg
theorem Lr.lt_ (h : Lr w0 w gl gd d cs m rm j dead N U u ws) : ∃ H, Lt w0 w gl gd H d (lsq cs m) dead u ws (.slice none 0 0) [] := by
  obtain ⟨H, h1, h2, h3, h4⟩ := h.go
  exact ⟨H, h1, h2, h.lw.below, h3, h4, (fun g hg => by cases hg), Recs.nil _ _ _, fun g _ hg => by cases hg⟩
theorem Lt.quiet (h : Lt w0 w gl gd H d l dead u ws v fs) (hb : Below w.heap.size w w') : Lt w0 w' gl gd H d l dead u ws v fs :=
  ⟨h.ld.quiet hb, fun x hx => Nat.lt_of_lt_of_le (h.lt x hx) hb.size, h.below.trans (hb.mono h.below.size), h.nu, h.ru.quiet hb, h.nv, h.rv.quiet hb, h.uv⟩
/-- the log goes on, the rows stand -/
theorem Lt.step (h : Lt w0 w gl gd H d l dead u ws v fs) (hst : LStp w w' gl gd w0.heap.size H d' l' dead') : ∃ H', Lt w0 w' gl gd H' d' l' dead' u ws v fs := by
  obtain ⟨H', g1, g2, g3⟩ := hst
  obtain ⟨H2, g4, g5, g6⟩ := g1.trim
  have hz : ∀ x, x < w0.heap.size → x < w.heap.size → x ∉ H := fun x hx _ hxH => by
    have := h.ld.z x hxH
    omega
  have hn : ∀ g, g < w.heap.size → g ∉ H → g ∉ H2 := fun g hl hg hx => (g3 g (g5 g hx)).elim hg (fun h2 => by omega)
  exact ⟨H2, g4, g6, below_kb h.below g2 h.ld.z, fun g hg => hn g (h.ru.lt hg) (h.nu g hg), h.ru.kept g2 h.nu hz, fun g hg => hn g (h.rv.lt hg) (h.nv g hg), h.rv.kept g2 h.nv hz, h.uv⟩
/-- the second row takes one more record, out of an argument -/
theorem Lt.push (h : Lt w0 w gl gd H d l dead u ws v fs) : ∃ vs, Own w 27 1 v fs.length vs ∧ ∀ (o : Obj) (w' : World) (v' : Value) (A : Option Addr) (c : Nat) (r : List UInt8), RdB w0 A r → (∀ a, A = some a → a.block < w0.heap.size) → r.length ≤ c →
    Appended (w.alloc o) w' 27 1 v v' fs.length 1 vs [.slice A r.length c] → Lt w0 w' gl gd H d l dead u ws v' (fs ++ [r]) := by
  obtain ⟨vs, ho, hrw, hlo⟩ := h.rv
  refine ⟨vs, ho, fun o w' v' A c r hr hA hc hap => ?_⟩
  have hbl := h.below
  have hkb := kb_appended hap
  have hL : ∀ q, q ∈ v.ownBlock.toList → v.ownBlock = some q := fun q hq => by simpa using hq
  have hld : LD w' gl gd w0.heap.size H d l dead := h.ld.keep hkb (fun q hq => ⟨h.nv q (hL q hq), hlo q (hL q hq)⟩)
  have hb' : Below w0.heap.size w0 w' := hkb.below hbl (fun q hq => hlo q (hL q hq)) hbl.size
  refine ⟨hld, fun x hx => Nat.lt_of_lt_of_le (h.lt x hx) hkb.size, hb', h.nu, h.ru.kept hkb (fun g hg hx => h.uv g hg (hL g hx)) (fun x hx _ hxL => ?_), fun g hg hx => ?_, Recs.append ho hrw hlo hbl.size hap hc (hr.keep hbl) (fun a ha => ⟨hA a ha, by have := hA a ha; have := hbl.size; omega, fun e => by have := hlo _ e; have := hA a ha; omega⟩), fun g hg hgv => ?_⟩
  · have := hlo x (hL x hxL)
    omega
  · rcases hap.lies with e | e
    · exact h.nv g (e ▸ hg) hx
    · rw [hg] at e
      injection e with e
      rw [World.size_alloc] at e
      have := h.lt g hx
      omega
  · rcases hap.lies with e | e
    · exact h.uv g hg (e ▸ hgv)
    · rw [hgv] at e
      injection e with e
      rw [World.size_alloc] at e
      have := h.ru.lt hg
      omega
/-- tails of its disk -/
theorem lt_tails (h : Lt w0 w gl gd H d l dead u ws v fs) (hs : Syd d cs m rm) (hn : d.n ≤ 700000000) (A : Option Addr) (M c : Nat) (ks : List Int) (hk : Rd w0 A (ks.map (Value.int .i64))) (hM : ks.length = M) (hMb : M ≤ 9223372036854775807) (t : Nat) (ht : t < 18446744073709551616) :
    Calls Tryz.prog 17 #[gp gd, .slice A M c, .int .u64 (t : Int)] w fun e w' => ∃ B cb tl, e = .returned (.slice B tl.length cb) ∧ RdT w' B tl ∧ tl.length ≤ 1000000 ∧ (∀ ad, B = some ad → tl ≠ [] → ad.block < w'.heap.size) ∧ Below w.heap.size w w' := by
  obtain ⟨F, hD, _⟩ := h.ld.disk2
  have hf := hs.few h.ld.keys
  refine tails_calls hD (by omega) (fun s hs2 => ?_) (by omega) A M c ks (rd_kept hk (Kb.of_below h.below []) (fun a ha _ hx => by cases hx)) hM hMb t ht
  rcases hs.files s hs2 with rfl | rfl | ⟨n, hn2, rfl⟩
  · decide
  · decide
  · rw [seg_length (by omega)]
    omega
/-- a fuse -/
theorem lt_fuse (h : Lt w0 w gl gd H d l dead u ws v fs) (x : Nat) :
    Calls Tryz.prog 12 #[gp gd, .int .i64 (x : Int)] w fun e w' => e = .returned (.int .i64 0) ∧ ∃ H', Lt w0 w' gl gd H' { d with fuse := (x : Int) } l dead u ws v fs := by
  obtain ⟨F, hD, hsub, hst⟩ := h.ld.disk2
  refine (dk_fuse hD (x : Int)).mono ?_
  rintro e w' ⟨rfl, hs⟩
  rw [if_neg (by omega)] at hs ⊢
  exact ⟨rfl, h.step (hst (d' := { d with fuse := (x : Int) }) hs)⟩
theorem liv_fuse {d : Ds} {N U : Nat} (h : Liv d N U) (x : Nat) (hx : x ≤ 9223372036854775807) : Liv { d with fuse := (x : Int) } N U := ⟨h.n, h.u, h.room, h.short, by show (-1 : Int) ≤ x; omega, by show (x : Int) ≤ _; omega⟩
theorem syd_fuse {d : Ds} (h : Syd d cs m rm) (x : Int) : Syd { d with fuse := x } cs m rm := ⟨h.man, h.closed, h.last, h.files, h.okc, h.okm, h.up, h.lo⟩
/-- Replace by the second row -/
theorem lt_replace (h : Lt w0 w gl gd H d (lsq cs m) false u ws v fs) (hs : Syd d cs m rm) (hfr : look d.S freshN = none) (hno : look d.S (seg (m + 1)) = none) {NN UU : Nat} (hv : Liv d NN UU) (hm : m ≤ 300) (hok : ∀ r ∈ fs, Okr r) (hN9 : fs.length ≤ 100000000) (hNN : NN + fs.length ≤ 600000000) (hUU : UU + 4040 * fs.length + 48 ≤ 1048576) :
    Calls Tryz.prog 13 #[gp gl, v] w fun e w' => ∃ E d' l' dead' H' cs2 m2 rm2, e = .returned (.int .i64 E) ∧ Lt w0 w' gl gd H' d' l' dead' u ws v fs ∧ Liv d' (NN + fs.length + 2) (UU + 4040 * fs.length + 48) ∧ Syd d' cs2 m2 rm2 ∧ m2 ≤ m + 1 ∧ l' ≠ [] ∧ l'.length ≤ 400 ∧
      ((E = 0 ∧ dead' = false ∧ flat cs2 rm2 = fs) ∨ (E = 62 ∧ dead' = true ∧ (flat cs2 rm2 = flat cs rm ∨ flat cs2 rm2 = fs))) := by
  obtain ⟨vs, ho, hrw, hlo⟩ := h.rv
  obtain ⟨A, c, rfl, hrd, _, _, hob, _⟩ := ho.form
  refine (replace_calls h.ld h.lt hs hfr hno hv hm A fs.length c vs fs hrd (hrw.imp fun x hx hxH => by have := h.ld.z x hxH; have := hx.1; omega) (fun a ha => h.nv _ (by rw [hob, ha]; rfl)) hok rfl hN9 hNN hUU).mono ?_
  rintro e w' ⟨E, d', l', dead', rfl, hr⟩
  obtain ⟨H', hL'⟩ := h.step hr.stp
  rcases hr.res with ⟨rfl, rfl, rfl, h4⟩ | ⟨rfl, rfl, h2, h3, h4, h5⟩
  · exact ⟨0, d', _, _, H', [], m + 1, fs, rfl, hL', hr.liv, h4, Nat.le_refl _, by simp, by simp, .inl ⟨rfl, rfl, rfl⟩⟩
  · rcases h5 with h5 | h5
    · exact ⟨62, d', _, _, H', cs, m, rm, rfl, hL', hr.liv, h5, by omega, h2, h3, .inr ⟨rfl, rfl, .inl rfl⟩⟩
    · exact ⟨62, d', _, _, H', [], m + 1, fs, rfl, hL', hr.liv, h5, Nat.le_refl _, h2, h3, .inr ⟨rfl, rfl, .inr rfl⟩⟩
/-- what a crash leaves of it: a disk, and the rows -/
structure Ltc (w0 w : World) (gd : Nat) (F : List Nat) (d : Ds) (u : Value) (ws : List (List UInt8)) (v : Value) (fs : List (List UInt8)) : Prop where
  dd : DD w gd F d
  z : ∀ x ∈ F, w0.heap.size ≤ x
  below : Below w0.heap.size w0 w
  nu : ∀ g, u.ownBlock = some g → g ∉ F
  ru : Recs w w0.heap.size (fun x => x < w0.heap.size) u ws
  nv : ∀ g, v.ownBlock = some g → g ∉ F
  rv : Recs w w0.heap.size (fun x => x < w0.heap.size) v fs
theorem lt_crash0 (h : Lt w0 w gl gd H d l dead u ws v fs) (B : Option Addr) (cb : Nat) (tl : List Tl) (hR : RdT w B tl) (hl : tl.length ≤ 1000000) (hb : ∀ ad, B = some ad → tl ≠ [] → ad.block < w.heap.size) :
    Calls Tryz.prog 16 #[gp gd, .slice B tl.length cb] w fun e w' => e = .returned (.int .i64 0) ∧ ∃ F, Ltc w0 w' gd F (dCrash d tl) u ws v fs := by
  obtain ⟨F, hD, hsub, _⟩ := h.ld.disk2
  refine (dd_crash hD B cb tl (by omega) hR hb).mono ?_
  rintro e w' ⟨rfl, F', hD', hk, hs⟩
  have hFz : ∀ x ∈ F, w0.heap.size ≤ x := fun x hx => h.ld.z x (hsub x hx).1
  have hz : ∀ x, x < w0.heap.size → x < w.heap.size → x ∉ F := fun x hx _ hxH => by
    have := hFz x hxH
    omega
  have hn : ∀ g, g < w.heap.size → g ∉ H → g ∉ F' := fun g hl2 hg hx => (hs g hx).elim (fun h2 => hg (hsub g h2).1) (fun h2 => by omega)
  exact ⟨rfl, F', hD', fun x hx => (hs x hx).elim (hFz x) (fun h2 => Nat.le_trans h.below.size h2), below_kb h.below hk hFz, fun g hg => hn g (h.ru.lt hg) (h.nu g hg), h.ru.kept hk (fun g hg hx => h.nu g hg (hsub g hx).1) hz, fun g hg => hn g (h.rv.lt hg) (h.nv g hg), h.rv.kept hk (fun g hg hx => h.nv g hg (hsub g hx).1) hz⟩
theorem lt_crash (h : Lt w0 w gl gd H d l dead u ws v fs) (hs : Syd d cs m rm) (hv : Liv d N U) (B : Option Addr) (cb : Nat) (tl : List Tl) (hR : RdT w B tl) (hl : tl.length ≤ 1000000) (hb : ∀ ad, B = some ad → tl ≠ [] → ad.block < w.heap.size) :
    Calls Tryz.prog 16 #[gp gd, .slice B tl.length cb] w fun e w' => e = .returned (.int .i64 0) ∧ ∃ F d' Bl, Ltc w0 w' gd F d' u ws v fs ∧ Calm d' N U ∧ Opb d' cs m Bl ∧ rdL (Bl.getD []) = rm := by
  refine (lt_crash0 h B cb tl hR hl hb).mono ?_
  rintro e w' ⟨rfl, F, hF⟩
  obtain ⟨Bl, h1, h2⟩ := hs.crash tl
  exact ⟨rfl, F, _, Bl, hF, crash_calm hv h.ld.keys tl, h1, h2⟩
/-- Open of the disk that a crash left: what it tells, and the rows -/
theorem ltc_open {F : List Nat} {B : Option (List UInt8)} (h : Ltc w0 w gd F d u ws v fs) (ht : Tb w0 w0.heap.size) (hc : Calm d N U) (hN : N ≤ 700000000) (ho : Opb d cs m B) (hm : m ≤ 400) :
    Calls Tryz.prog 9 #[gp gd] w fun e w' => ∃ gl g, e = .returned (.tuple #[gp gl, g, .int .i64 0]) ∧ Recs w' w.heap.size (fun x => w.heap.size ≤ x) g (flat cs (rdL (B.getD []))) ∧ Recs w' w0.heap.size (fun x => x < w0.heap.size) u ws ∧ Recs w' w0.heap.size (fun x => x < w0.heap.size) v fs ∧ Below w0.heap.size w0 w' := by
  refine (opb_open h.dd h.z h.below ht hc hN ho hm).mono ?_
  rintro e w' ⟨gl, g, d', rfl, hrec, _, hlw, _, _, hk⟩
  have hz : ∀ x, x < w0.heap.size → x < w.heap.size → x ∉ F := fun x hx _ hxH => by
    have := h.z x hxH
    omega
  exact ⟨gl, g, rfl, hrec, h.ru.kept hk h.nu hz, h.rv.kept hk h.nv hz, hlw.below⟩
/-- SameTexts of two rows -/
theorem same_recs {lo lo' : Nat} {P P' : Nat → Prop} {u v : Value} {ws fs : List (List UInt8)} (h : Recs w lo P u ws) (h' : Recs w lo' P' v fs) (hn : ws.length ≤ 1000000000) (hn' : fs.length ≤ 1000000000) :
    Calls Tryz.prog 18 #[u, v] w fun e w' => e = .returned (.bool (decide (ws = fs))) ∧ w = w' := by
  obtain ⟨vs1, ho1, hr1, _⟩ := h
  obtain ⟨vs2, ho2, hr2, _⟩ := h'
  obtain ⟨A, c, rfl, h1, _⟩ := ho1.form
  obtain ⟨A', c', rfl, h2, _⟩ := ho2.form
  exact same_calls A A' _ _ c c' vs1 vs2 ws fs _ _ w h1 hr1 h2 hr2 rfl rfl hn hn'
end
end Go.Proofs.YtmlfeljhojmbbaaGreatDoor

namespace Go.Proofs.YtmlfeljhojmbbaaGreatDoor
open Go.RowKit Go.Maps Go.Sort
set_option linter.unusedSimpArgs false
set_option linter.unusedVariables false
set_option maxRecDepth 100000

section
variable {w0 w w' : World} {gl gd Z : Nat} {H : List Nat} {d d' : Ds} {l : List Nat} {cs : List (Nat × List (List UInt8))} {m j : Nat} {rm : List (List UInt8)} {dead : Bool} {N U : Nat} {u v : Value} {ws fs : List (List UInt8)}
theorem dead_sync (h : LD w gl gd Z H d l true) : Calls Tryz.prog 11 #[gp gl] w fun e w' => e = .returned (.int .i64 62) ∧ w = w' := by
  have q2 := h.c2
  have HL := Shut.mk h
  clear h
  go_enter Tryz.func11, Tryz.ntmps11
  go_wp2_with fail
  refine (none_calls HL.out).mono ?_
  rintro e w1 ⟨rfl, rfl⟩
  go_wp2_with fail
  go_ret
  exact ⟨rfl, rfl⟩
theorem dead_append (h : LD w gl gd Z H d l true) (A : Option Addr) (c n : Nat) (b : List UInt8) (hr : RdB w A b) (hn : b.length = n) (h1 : 1 ≤ n) (h2 : n ≤ 4000) :
    Calls Tryz.prog 10 #[gp gl, .slice A n c] w fun e w' => e = .returned (.int .i64 62) ∧ Below w.heap.size w w' := by
  have HL := Shut.mk h
  have HFC := Shut.mk (frame_calls A c n b w hr hn h1 h2 h.tb.k h.tb.b)
  clear h hr hn h1 h2
  go_enter Tryz.func10, Tryz.ntmps10
  go_wp2_with fail
  refine (none_calls HL.out).mono ?_
  rintro e w1 ⟨rfl, rfl⟩
  go_wp2_with fail
  refine HFC.out.mono ?_
  rintro e w2 ⟨v2, rfl, _, hb2, _⟩
  have q2 := (HL.out.quiet hb2).c2
  have HB2 := Shut.mk hb2
  clear hb2
  go_wp2_with fail
  go_ret
  exact ⟨rfl, HB2.out⟩
theorem dead_append_not (h : LD w gl gd Z H d l dead) (A : Option Addr) (n c : Nat) (hn : n < 1 ∨ 4000 < n) : Calls Tryz.prog 10 #[gp gl, .slice A n c] w fun e w' => e = .returned (.int .i64 1) ∧ w = w' := by
  have HL := Shut.mk h
  clear h
  go_enter Tryz.func10, Tryz.ntmps10
  go_wp2_with fail
  refine (none_calls HL.out).mono ?_
  rintro e w1 ⟨rfl, rfl⟩
  go_wp2_with fail
  refine (frame_not A c n w hn).mono ?_
  rintro e w2 ⟨rfl, rfl⟩
  go_wp2_with fail
  go_ret
  exact ⟨rfl, rfl⟩
theorem dead_replace (h : LD w gl gd Z H d l true) : Calls Tryz.prog 13 #[gp gl, .slice none 0 0] w fun e w' => e = .returned (.int .i64 62) ∧ w = w' := by
  have q2 := h.c2
  have HL := Shut.mk h
  have HCT := Shut.mk (ctn_calls none 0 0 [] [] (fun _ => True) w (fun hne => absurd rfl hne) (RwV.nil _ _) rfl (fun r hr => by cases hr) (by omega))
  clear h
  go_enter Tryz.func13, Tryz.ntmps13
  go_wp2_with fail
  refine (none_calls HL.out).mono ?_
  rintro e w1 ⟨rfl, rfl⟩
  go_wp2_with fail
  refine HCT.out.mono ?_
  rintro e w1 ⟨rfl, rfl⟩
  go_wp2_with fail
  go_ret
  exact ⟨rfl, rfl⟩
theorem lt_fuse20 (h : Lt w0 w gl gd H d l dead u ws v fs) :
    Calls Tryz.prog 12 #[gp gd, .int .i64 1048576] w fun e w' => e = .returned (.int .i64 0) ∧ Kb w w' H ∧ ∃ H', Lt w0 w' gl gd H' { d with fuse := 1048576 } l dead u ws v fs := by
  obtain ⟨F, hD, hsub, hst⟩ := h.ld.disk2
  refine (dk_fuse hD 1048576).mono ?_
  rintro e w' ⟨rfl, hs⟩
  rw [if_neg (by omega)] at hs ⊢
  have hk : Kb w w' H := by
    obtain ⟨F', _, q2, _⟩ := hs
    exact q2.mono fun x hx => (hsub x hx).1
  exact ⟨rfl, hk, h.step (hst (d' := { d with fuse := 1048576 }) hs)⟩
theorem lt_names (h : Lt w0 w gl gd H d l dead u ws v fs) (hn : d.n ≤ 700000000) : Calls Tryz.prog 14 #[gp gd] w fun e w' => ∃ s, e = .returned s ∧ Own w' 9 1 s (lsD d).length ((lsD d).map Proofs.encStr) ∧ Below w.heap.size w w' ∧ ∀ g, s.ownBlock = some g → g ∉ H := by
  obtain ⟨F, hD, _⟩ := h.ld.disk2
  refine (dd_ls hD (by omega)).mono ?_
  rintro e w' ⟨s, rfl, ho, hb, hn⟩
  exact ⟨s, rfl, ho, hb, fun g hg hx => by have := hn g hg; have := h.lt g hx; omega⟩
/-- a disk of which a crash leaves a log with records of a kind -/
structure Crb (d : Ds) (P : List (List UInt8) → Prop) : Prop where
  few : (lsD d).length ≤ 1000
  nm : ∀ s, look d.S s ≠ none → s.length ≤ 100
  cr : ∀ tl, ∃ cs m Bl, Opb (dCrash d tl) cs m Bl ∧ m ≤ 400 ∧ P (flat cs (rdL (Bl.getD [])))
theorem Syd.crb {P : List (List UInt8) → Prop} (h : Syd d cs m rm) (hk : Key7 d) (hm : m ≤ 400) (hP : P (flat cs rm)) : Crb d P := by
  refine ⟨h.few hk, fun s hs => ?_, fun tl => ?_⟩
  · rcases h.files s hs with rfl | rfl | ⟨n, hn, rfl⟩
    · decide
    · decide
    · rw [seg_length (by omega)]
      omega
  · obtain ⟨B, h1, h2⟩ := h.crash tl
    exact ⟨cs, m, B, h1, hm, by rw [h2]; exact hP⟩
theorem Lgd.crb {P : List (List UInt8) → Prop} (h : Lgd d cs m rm j) (hk : Key7 d) (hlen : ∀ s b sy, look d.S s = some (b, sy) → sy ≤ b.length) (hm : m ≤ 400) (hP : ∀ i, j ≤ i → i ≤ rm.length → P (flat cs (rm.take i))) : Crb d P := by
  refine ⟨by have := h.few hk; omega, fun s hs => ?_, fun tl => ?_⟩
  · rcases h.files s hs with rfl | rfl | ⟨n, hn, rfl⟩
    · decide
    · decide
    · rw [seg_length (by have := h.le n hn; omega)]
      omega
  · obtain ⟨i, h1, h2, B, h3, h4⟩ := h.crash hlen (by omega) tl
    exact ⟨cs, m, B, h3, hm, by rw [h4]; exact hP i h1 h2⟩
theorem Crb.fuse {P : List (List UInt8) → Prop} (h : Crb d P) (x : Int) : Crb { d with fuse := x } P := ⟨h.few, h.nm, h.cr⟩
theorem crb_tails {P : List (List UInt8) → Prop} (h : Lt w0 w gl gd H d l dead u ws v fs) (hs : Crb d P) (hn : d.n ≤ 700000000) (A : Option Addr) (M c : Nat) (ks : List Int) (hk : Rd w0 A (ks.map (Value.int .i64))) (hM : ks.length = M) (hMb : M ≤ 9223372036854775807) (t : Nat) (ht : t < 18446744073709551616) :
    Calls Tryz.prog 17 #[gp gd, .slice A M c, .int .u64 (t : Int)] w fun e w' => ∃ B cb tl, e = .returned (.slice B tl.length cb) ∧ RdT w' B tl ∧ tl.length ≤ 1000000 ∧ (∀ ad, B = some ad → tl ≠ [] → ad.block < w'.heap.size) ∧ Below w.heap.size w w' := by
  obtain ⟨F, hD, _⟩ := h.ld.disk2
  have hf := hs.few
  exact tails_calls hD (by omega) hs.nm (by omega) A M c ks (rd_kept hk (Kb.of_below h.below []) (fun a ha _ hx => by cases hx)) hM hMb t ht
theorem crb_tails1 {P : List (List UInt8) → Prop} (h : Lt w0 w gl gd H d l dead u ws v fs) (hs : Crb d P) (hn : d.n ≤ 700000000) (A : Option Addr) (M c : Nat) (ks : List Int) (hk : Rd w0 A (ks.map (Value.int .i64))) (hM : ks.length = M) (hMb : M ≤ 9223372036854775807) :
    Calls Tryz.prog 17 #[gp gd, .slice A M c, .int .u64 1] w fun e w' => ∃ B cb tl, e = .returned (.slice B tl.length cb) ∧ RdT w' B tl ∧ tl.length ≤ 1000000 ∧ (∀ ad, B = some ad → tl ≠ [] → ad.block < w'.heap.size) ∧ Below w.heap.size w w' := crb_tails h hs hn A M c ks hk hM hMb 1 (by omega)
theorem crb_crash {P : List (List UInt8) → Prop} (h : Lt w0 w gl gd H d l dead u ws v fs) (hs : Crb d P) (hv : Liv d N U) (B : Option Addr) (cb : Nat) (tl : List Tl) (hR : RdT w B tl) (hl : tl.length ≤ 1000000) (hb : ∀ ad, B = some ad → tl ≠ [] → ad.block < w.heap.size) :
    Calls Tryz.prog 16 #[gp gd, .slice B tl.length cb] w fun e w' => e = .returned (.int .i64 0) ∧ ∃ F d' cs m Bl, Ltc w0 w' gd F d' u ws v fs ∧ Calm d' N U ∧ Opb d' cs m Bl ∧ m ≤ 400 ∧ P (flat cs (rdL (Bl.getD []))) := by
  refine (lt_crash0 h B cb tl hR hl hb).mono ?_
  rintro e w' ⟨rfl, F, hF⟩
  obtain ⟨cs, m, Bl, h1, h2, h3⟩ := hs.cr tl
  exact ⟨rfl, F, _, cs, m, Bl, hF, crash_calm hv h.ld.keys tl, h1, h2, h3⟩
theorem Recs.at_ {lo i : Nat} {P : Nat → Prop} {u : Value} {rs : List (List UInt8)} (h : Recs w lo P u rs) (hi : i < rs.length) : ∃ A c, (∀ Ab n cb, u = .slice (some Ab) n cb → w.cell? (Ab.add i) = some (.slice A (rs[i]).length c)) ∧ (∃ Ab, ∀ A n cb, u = .slice A n cb → A = some Ab) ∧ RdB w A rs[i] ∧ (rs[i]).length ≤ c ∧ ∀ a, A = some a → P a.block := by
  obtain ⟨vs, ho, hr, _⟩ := h
  obtain ⟨A, c, hv1, hc1, hr1, hp⟩ := hr.2 i hi
  obtain ⟨Ab, cb, rfl, hrd, _⟩ := ho.form
  obtain ⟨a, ha, hd⟩ := hrd (fun e => by rw [e] at hv1; simp at hv1)
  subst ha
  exact ⟨A, c, fun Ab n cb e => by cases e; exact hd i _ hv1, ⟨a, fun A n cb e => by cases e; rfl⟩, hr1, hc1, fun a ha => (hp a ha).1⟩
end
/-- the cells behind some -/
theorem rd_drop7 {w : World} {a : Addr} {vs : List Value} (h : Rd w (some a) vs) (n : Nat) : Rd w (some (a.add n)) (vs.drop n) := by
  intro hne
  have hne2 : vs ≠ [] := fun e => hne (by rw [e]; simp)
  obtain ⟨a', e, hc⟩ := h hne2
  cases e
  refine ⟨_, rfl, fun j u hu => ?_⟩
  rw [List.getElem?_drop] at hu
  have := hc (n + j) u hu
  rwa [← add_of_add] at this
theorem rwV_drop {w : World} {Q : Nat → Prop} {vs : List Value} {rs : List (List UInt8)} (h : RwV w Q vs rs) (n : Nat) : RwV w Q (vs.drop n) (rs.drop n) := by
  refine ⟨by rw [List.length_drop, List.length_drop, h.1], fun i hi => ?_⟩
  rw [List.length_drop] at hi
  obtain ⟨A, c, h1, h2, h3, h4⟩ := h.2 (n + i) (by omega)
  rw [List.getElem_drop]
  exact ⟨A, c, by rw [List.getElem?_drop]; exact h1, h2, h3, h4⟩
section
variable {w0 w w' : World} {gd : Nat} {d : Ds} {N U : Nat} {u v : Value} {ws fs : List (List UInt8)}
/-- Open of the disk that a crash left: records of the kind -/
theorem crb_open {P : List (List UInt8) → Prop} {F : List Nat} {cs : List (Nat × List (List UInt8))} {m : Nat} {B : Option (List UInt8)} (h : Ltc w0 w gd F d u ws v fs) (ht : Tb w0 w0.heap.size) (hc : Calm d N U) (hN : N ≤ 700000000) (ho : Opb d cs m B) (hm : m ≤ 400) (hP : P (flat cs (rdL (B.getD [])))) :
    Calls Tryz.prog 9 #[gp gd] w fun e w' => ∃ gl g gs, e = .returned (.tuple #[gp gl, g, .int .i64 0]) ∧ P gs ∧ Recs w' w.heap.size (fun x => w.heap.size ≤ x) g gs ∧ Recs w' w0.heap.size (fun x => x < w0.heap.size) u ws ∧ Recs w' w0.heap.size (fun x => x < w0.heap.size) v fs ∧ Below w0.heap.size w0 w' := by
  refine (ltc_open h ht hc hN ho hm).mono ?_
  rintro e w' ⟨gl, g, rfl, h1, h2, h3, h4⟩
  exact ⟨gl, g, _, rfl, hP, h1, h2, h3, h4⟩
theorem flat_part {cs : List (Nat × List (List UInt8))} {j q : Nat} {rm ws fs : List (List UInt8)} (hfl : flat cs rm = ws ++ fs.take q) (hs : ws.length ≤ sureN cs j) (i : Nat) (h1 : j ≤ i) (h2 : i ≤ rm.length) : ∃ k, flat cs (rm.take i) = (ws ++ fs).take k ∧ ws.length ≤ k ∧ k ≤ (ws ++ fs).length := by
  have hp : flat cs (rm.take i) <+: ws ++ fs := (flat_take cs rm i).trans (by rw [hfl]; exact (List.prefix_append_right_inj _).2 (List.take_prefix _ _))
  refine ⟨(flat cs (rm.take i)).length, List.prefix_iff_eq_take.1 hp, ?_, hp.length_le⟩
  rw [flat_length, List.length_take]
  unfold sureN at hs
  omega
end
end Go.Proofs.YtmlfeljhojmbbaaGreatDoor
