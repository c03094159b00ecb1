/- Walks: SameTexts of two rows of records. Walk: the laws' tails; the disk's Crash in words. The log's plain law: a crash, and Open of what it left. The log as the laws use it: tails, a crash, Open behind it. The log as the laws use it: a fuse; a crash seen by one that knows the log's blocks; a row of records beside a log. -/
import Derived.Test.YtmlfeljhojmbbaaDoorLgE
namespace Go.Proofs.YtmlfeljhojmbbaaDoor
open Go.RowKit Go.Maps Go.Sort
set_option linter.unusedSimpArgs false
set_option linter.unusedVariables false
set_option maxRecDepth 100000

theorem eqfunc_calls (A B : Option Addr) (n m c d : Nat) (vs us : List Value) (rs ss : List (List UInt8)) (P Q : Nat → Prop) (w : World) (h1 : Rd w A vs) (r1 : RwV w P vs rs) (h2 : Rd w B us) (r2 : RwV w Q us ss) (hn : rs.length = n) (hm : ss.length = m) (hn9 : n ≤ 1000000000) (hm9 : m ≤ 1000000000) :
    Calls Tryd.prog 55 #[.slice A n c, .slice B m d, .func (.func 11) #[] #[]] w fun e w' => e = .returned (.bool (decide (rs = ss))) ∧ w = w' := by
  have H1 := Shut.mk h1
  have H2 := Shut.mk h2
  have R1 := Shut.mk r1
  have R2 := Shut.mk r2
  have HN := Shut.mk hn
  have HM := Shut.mk hm
  clear h1 h2 r1 r2 hn hm
  by_cases hnm : n = m
  · subst hnm
    go_enter Tryd.func55, Tryd.ntmps55
    go_wp2_with fail
    go_loopw [17] (fun i wr => ∃ k : Nat, k ≤ n ∧ i = .int .i64 k ∧ wr = w ∧ Shut (rs.take k = ss.take k)) (fun i _ => n - (intOf i).toNat)
    case atStart => exact ⟨0, Nat.zero_le _, rfl, by trivial, ⟨rfl⟩⟩
    case round =>
      obtain ⟨k, hk, rfl, rfl, HTK⟩ := hrel
      by_cases hlt : k < n
      · obtain ⟨A1, c1, hv1, hc1, hr1, _⟩ := R1.out.2 k (by rw [HN.out]; exact hlt)
        obtain ⟨A2, c2, hv2, hc2, hr2, _⟩ := R2.out.2 k (by rw [HM.out]; exact hlt)
        obtain ⟨a1, hA1, hd1⟩ := H1.out (fun e => by rw [e] at hv1; simp at hv1)
        obtain ⟨a2, hA2, hd2⟩ := H2.out (fun e => by rw [e] at hv2; simp at hv2)
        subst hA1
        subst hA2
        have q1 := hd1 k _ hv1
        have q2 := hd2 k _ hv2
        have hk1 : k < rs.length := by rw [HN.out]; exact hlt
        have hk2 : k < ss.length := by rw [HM.out]; exact hlt
        obtain ⟨x, hx⟩ : ∃ x, x = rs[k] := ⟨_, rfl⟩
        obtain ⟨y, hy⟩ : ∃ y, y = ss[k] := ⟨_, rfl⟩
        rw [← hx] at q1 hr1
        rw [← hy] at q2 hr2
        have HX := Shut.mk hx
        have HY := Shut.mk hy
        obtain ⟨X, hX⟩ : ∃ X, X = x.length := ⟨_, rfl⟩
        obtain ⟨Y, hY⟩ : ∃ Y, Y = y.length := ⟨_, rfl⟩
        rw [← hX] at q1
        rw [← hY] at q2
        have HEQ := Shut.mk (equal_calls A1 A2 X c1 Y c2 x y wr hr1 hr2 hX.symm hY.symm)
        have hkI : (k : Int) < (n : Int) := by omega
        clear hv1 hv2 hc1 hc2 hr1 hr2 hd1 hd2 hx hy hX hY
        go_wp2_with fail
        refine HEQ.out.mono ?_
        rintro e w' ⟨rfl, rfl⟩
        by_cases hxy : x = y
        · rw [show (x == y) = true by rw [beq_iff_eq]; exact hxy]
          have HT2 : Shut (rs.take (k + 1) = ss.take (k + 1)) := ⟨by rw [List.take_succ_eq_append_getElem hk1, List.take_succ_eq_append_getElem hk2, HTK.out, ← HX.out, ← HY.out, hxy]⟩
          clear hxy
          go_wp2_with fail
          go_roundw
          case rel => exact ⟨k + 1, by omega, by go_num, by trivial, HT2⟩
          case measure => first | (simp [intOf]; done) | (simp [intOf]; omega)
        · rw [show (x == y) = false by rw [beq_eq_false_iff_ne]; exact hxy]
          have HF : Shut (decide (rs = ss) = false) := ⟨decide_eq_false fun e => hxy (by rw [HX.out, HY.out]; subst e; rfl)⟩
          clear hxy
          go_wp2_with fail
          go_ret
          exact ⟨by rw [HF.out]; rfl, rfl⟩
      · obtain rfl : k = n := by omega
        have HF : Shut (decide (rs = ss) = true) := ⟨decide_eq_true (by
          have := HTK.out
          rwa [List.take_of_length_le (by rw [HN.out]; exact Nat.le_refl _), List.take_of_length_le (by rw [HM.out]; exact Nat.le_refl _)] at this)⟩
        go_wp2_with fail
        go_ret
        exact ⟨by rw [HF.out]; rfl, rfl⟩
  · have HF : Shut (decide (rs = ss) = false) := ⟨decide_eq_false fun e => hnm (by rw [← HN.out, ← HM.out, e])⟩
    have hnmI : ¬ (n : Int) = (m : Int) := by omega
    go_enter Tryd.func55, Tryd.ntmps55
    go_wp2_with fail
    go_ret
    exact ⟨by rw [HF.out]; rfl, rfl⟩
theorem same_calls (A B : Option Addr) (n m c d : Nat) (vs us : List Value) (rs ss : List (List UInt8)) (P Q : Nat → Prop) (w : World) (h1 : Rd w A vs) (r1 : RwV w P vs rs) (h2 : Rd w B us) (r2 : RwV w Q us ss) (hn : rs.length = n) (hm : ss.length = m) (hn9 : n ≤ 1000000000) (hm9 : m ≤ 1000000000) :
    Calls Tryd.prog 22 #[.slice A n c, .slice B m d] w fun e w' => e = .returned (.bool (decide (rs = ss))) ∧ w = w' := by
  have HE := Shut.mk (eqfunc_calls A B n m c d vs us rs ss P Q w h1 r1 h2 r2 hn hm hn9 hm9)
  clear h1 r1 h2 r2 hn hm
  go_enter Tryd.func22, Tryd.ntmps22
  go_wp2_with fail
  refine HE.out.mono ?_
  rintro e w' ⟨rfl, rfl⟩
  go_wp2_with fail
  go_ret
  exact ⟨rfl, rfl⟩
end Go.Proofs.YtmlfeljhojmbbaaDoor

namespace Go.Proofs.YtmlfeljhojmbbaaDoor
open Go.RowKit Go.Maps Go.Sort
set_option linter.unusedSimpArgs false
set_option linter.unusedVariables false
set_option maxRecDepth 100000

theorem info_tail : (Tryd.prog.info? 93).map (fun i => (i.zero, i.size, i.bytes)) = some (some (.agg #[.string ByteArray.empty, .int .i64 0, .bool false]), 3, 32) := by kernel_rfl
def tcells (tl : List Tl) : List Value := tl.flatMap fun t => [.string t.name, .int .i64 t.keep, .bool t.turn]
theorem tcells_length (tl : List Tl) : (tcells tl).length = tl.length * 3 := by
  induction tl with
  | nil => rfl
  | cons t r ih =>
    show (_ ++ tcells r).length = _
    rw [List.length_append, ih, List.length_cons]
    simp
    omega
theorem tcells_at : ∀ (tl : List Tl) (k j : Nat), k < tl.length → j < 3 → (tcells tl)[k * 3 + j]? = [Value.string (tl.getD k default).name, .int .i64 (tl.getD k default).keep, .bool (tl.getD k default).turn][j]?
  | [], k, j, h, _ => by simp at h
  | t :: r, 0, j, h, hj => by
    show (([Value.string t.name, .int .i64 t.keep, .bool t.turn] : List Value) ++ tcells r)[0 * 3 + j]? = _
    rw [List.getElem?_append_left (by simp; omega)]
    simp
  | t :: r, k + 1, j, h, hj => by
    show (([Value.string t.name, .int .i64 t.keep, .bool t.turn] : List Value) ++ tcells r)[(k + 1) * 3 + j]? = _
    rw [List.getElem?_append_right (by simp; omega), show (k + 1) * 3 + j - ([Value.string t.name, .int .i64 t.keep, .bool t.turn] : List Value).length = k * 3 + j by simp; omega, tcells_at r k j (by simpa using h) hj]
    rfl
theorem rdT_own {w : World} {e : Nat} {A : Option Addr} {n c : Nat} {tl : List Tl} (h : Own w e 3 (.slice A n c) n (tcells tl)) (hn : tl.length = n) : RdT w A tl := by
  intro k hk
  obtain ⟨A1, c1, e1, hr, _⟩ := h.form
  cases e1
  have hl := tcells_length tl
  obtain ⟨a, rfl, hc⟩ := hr (fun e => by rw [e] at hl; simp at hl; omega)
  have h0 := hc (k * 3 + 0) _ (tcells_at tl k 0 hk (by omega))
  have h1 := hc (k * 3 + 1) _ (tcells_at tl k 1 hk (by omega))
  have h2 := hc (k * 3 + 2) _ (tcells_at tl k 2 hk (by omega))
  refine ⟨a, rfl, h0, ?_, ?_⟩
  · rw [← h1, ← add_of_add]
    rfl
  · rw [← h2, ← add_of_add]
    rfl
section
variable {w w' : World} {gd : Nat} {F : List Nat} {d : Ds}
theorem dd_crash (h : DD w gd F d) (A : Option Addr) (cap : Nat) (tl : List Tl) (hlen : tl.length < 9000000000000) (hR : RdT w A tl) (hRb : ∀ ad, A = some ad → tl ≠ [] → ad.block < w.heap.size) :
    Calls Tryd.prog 19 #[gp gd, .slice A tl.length cap] w fun e w' => e = .returned (.int .i64 0) ∧ DStp w w' gd F (dCrash d tl) := by
  obtain ⟨gm, es, hD, hS, hF⟩ := h
  refine (crash_calls hD A cap tl hlen hR hRb).mono ?_
  rintro e w' ⟨rfl, hA⟩
  refine ⟨rfl, ?_⟩
  have h1 : Stp w w' gd F d.n (crashF (fun s => (tailOf tl s).getD zeroT) (fls es)) d.room (-1) (-1) := Stp.of_after hA hF
  rw [hS] at h1
  exact h1
set_option maxHeartbeats 4000000 in
theorem tails_calls (h : DD w gd F d) (hn : d.n < 1000000000) (hsz : ∀ s, look d.S s ≠ none → s.length ≤ 100) (hfew : (lsD d).length ≤ 1000000) (A : Option Addr) (M c : Nat) (ks : List Int) (hk : Rd w A (ks.map (Value.int .i64))) (hM : ks.length = M) (hMb : M ≤ 9223372036854775807) (t : Nat) (ht : t < 18446744073709551616) :
    Calls Tryd.prog 20 #[gp gd, .slice A M c, .int .u64 (t : Int)] w fun e w' => ∃ B cb tl, e = .returned (.slice B tl.length cb) ∧ RdT w' B tl ∧ tl.length ≤ 1000000 ∧ (∀ ad, B = some ad → tl ≠ [] → ad.block < w'.heap.size) ∧ Below w.heap.size w w' := by
  obtain ⟨i0, hi, hz0, hz1, hz2⟩ := info_parts info_tail
  have HLS := Shut.mk (dd_ls h hn)
  obtain ⟨N, hN⟩ : ∃ N, N = (lsD d).length := ⟨_, rfl⟩
  have HNM : Shut (∀ s ∈ lsD d, s.length ≤ 100) := ⟨fun s hs => hsz s (lsD_mem.1 hs)⟩
  have HN := Shut.mk hN
  have HK := Shut.mk hk
  have HM := Shut.mk hM
  rw [← hN] at hfew
  clear h hn hsz hk hM hN
  go_enter Tryd.func20, Tryd.ntmps20
  go_wp2_with fail
  refine HLS.out.mono ?_
  rintro e w1 ⟨v1, rfl, ho1, hb1, hn1⟩
  obtain ⟨A1, c1, rfl, hr1, _⟩ := ho1.form
  have HR1 := Shut.mk hr1
  have HB1 := Shut.mk hb1
  clear ho1 hb1 hn1 hr1
  rw [← HN.out]
  go_wp2_with fail
  go_loopw [7, 14] (fun u i wr => ∃ k : Nat, k ≤ N ∧ i = .int .i64 k ∧ Below w1.heap.size w1 wr ∧ ∃ tl : List Tl, tl.length = k ∧ Own wr 93 3 u k (tcells tl) ∧ Shut (∀ g, u.ownBlock = some g → w1.heap.size ≤ g)) (fun _ i _ => N - (intOf i).toNat)
  case atStart => exact ⟨0, Nat.zero_le _, rfl, Below.refl _ _, [], rfl, Own.nil _ _ _, ⟨fun g hg => by cases hg⟩⟩
  case round =>
    obtain ⟨k, hk, rfl, hbr, tl, htl, ho, hnw⟩ := hrel
    obtain ⟨A2, c2, rfl, _⟩ := ho.form
    have hsz := hbr.size
    by_cases hlt : k < N
    · have hkl : k < (lsD d).length := by rw [← HN.out]; exact hlt
      obtain ⟨f, hf⟩ : ∃ f, f = (lsD d)[k] := ⟨_, rfl⟩
      have hfl : f.length ≤ 100 := by rw [hf]; exact HNM.out _ (List.getElem_mem _)
      have hv : ((lsD d).map Proofs.encStr)[k]? = some (.string ⟨f.toArray⟩) := by
        rw [List.getElem?_map, List.getElem?_eq_getElem hkl, hf]
        rfl
      obtain ⟨a1, hA1, hc1⟩ := HR1.out (fun e => by rw [e] at hv; cases hv)
      subst hA1
      have c0 := hc1 k _ hv
      have cn : wr.cell? (a1.add k) = some (.string ⟨f.toArray⟩) := (hbr.cell (World.block_lt_of_cell? w1 _ c0)).trans c0
      have hfs : (ByteArray.mk f.toArray).size ≤ maxLen := by
        rw [Lib.size_eq]
        simp [maxLen]
        omega
      obtain ⟨s, hs, hT⟩ := tmod_nat7 k 32 (by omega)
      have hT' : ((k : Int).tmod 32) = (s : Int) := hT
      have HTL := Shut.mk htl
      have HO := Shut.mk ho
      have HBR := Shut.mk hbr
      have hkI : (k : Int) < (N : Int) := by omega
      obtain ⟨nm, hnm⟩ : ∃ nm, nm = (⟨f.toArray⟩ : ByteArray) := ⟨_, rfl⟩
      rw [← hnm] at cn hfs
      have HFS := Shut.mk hfs
      clear hc1 c0 hv hf htl ho hbr hT hnm hfs hfl
      by_cases hM0 : M = 0
      · subst hM0
        go_wp2_with (at_builtin; refine wpList_append _ rfl _ _ _ rfl 93 i0 _ 3 32 Tryd.underlying52 hi hz0 hz1 hz2 rfl (by decide) _ _ _ rfl (HO.out.alloc _) _ 1 1 _ rfl (by rfl) (rd_new wr _ 93) (by simp [Value.oneCell']) (by simp only [maxLen]; omega) (by omega) ?_; intro v6 w6 hap6)
        go_roundw
        case rel =>
          have hb6 : Below w1.heap.size w1 w6 := (HBR.out.alloc hsz _).grown hap6.grown (by simp; omega) hnw.out
          exact ⟨k + 1, by omega, by go_num, hb6, tl ++ [⟨nm, _, _, HFS.out⟩], by rw [List.length_append, HTL.out]; rfl, hap6.own.cast rfl (by rw [tcells, tcells, List.flatMap_append]; rfl), ⟨new_append (by simp; omega) hnw.out hap6.lies⟩⟩
        case measure => first | (simp [intOf]; done) | (simp [intOf]; omega)
      · have hMp : 0 < M := by omega
        obtain ⟨q, hq, hQ⟩ := tmod_nat7 k M hMp
        obtain ⟨ak, hAk, hck⟩ := HK.out (fun e => by
          have := HM.out
          have h2 := congrArg List.length e
          simp at h2
          rw [h2] at this
          simp at this
          omega)
        subst hAk
        have ckq : w.cell? (ak.add q) = some (.int .i64 (ks.getD q 0)) := hck q _ (by rw [List.getElem?_map, List.getD_eq_getElem?_getD, List.getElem?_eq_getElem (by rw [HM.out]; exact hq)]; rfl)
        have ckr : wr.cell? (ak.add q) = some (.int .i64 (ks.getD q 0)) := (HBR.out.cell (Nat.lt_of_lt_of_le (World.block_lt_of_cell? w _ ckq) HB1.out.size)).trans ((HB1.out.cell (World.block_lt_of_cell? w _ ckq)).trans ckq)
        have hMpI : (0 : Int) < (M : Int) := by omega
        have hMne : ¬ (M : Int) = 0 := by omega
        clear hck ckq
        go_wp2_with (at_builtin; refine wpList_append _ rfl _ _ _ rfl 93 i0 _ 3 32 Tryd.underlying52 hi hz0 hz1 hz2 rfl (by decide) _ _ _ rfl (HO.out.alloc _) _ 1 1 _ rfl (by rfl) (rd_new wr _ 93) (by simp [Value.oneCell']) (by simp only [maxLen]; omega) (by omega) ?_; intro v6 w6 hap6)
        go_roundw
        case rel =>
          have hb6 : Below w1.heap.size w1 w6 := (HBR.out.alloc hsz _).grown hap6.grown (by simp; omega) hnw.out
          exact ⟨k + 1, by omega, by go_num, hb6, tl ++ [⟨nm, _, _, HFS.out⟩], by rw [List.length_append, HTL.out]; rfl, hap6.own.cast rfl (by rw [tcells, tcells, List.flatMap_append]; rfl), ⟨new_append (by simp; omega) hnw.out hap6.lies⟩⟩
        case measure => first | (simp [intOf]; done) | (simp [intOf]; omega)
    · obtain rfl : k = N := by omega
      go_wp2_with fail
      go_ret
      refine ⟨A2, c2, tl, by rw [htl]; rfl, rdT_own ho htl, by omega, fun ad ha hne => ?_, HB1.out.trans (hbr.mono HB1.out.size)⟩
      obtain ⟨A3, c3, e3, _, _, _, hob, _⟩ := ho.form
      cases e3
      exact ho.block_lt (hob.trans (by rw [ha]; rfl))
end
end Go.Proofs.YtmlfeljhojmbbaaDoor

namespace Go.Proofs.YtmlfeljhojmbbaaDoor
open Go.RowKit Go.Maps Go.Sort
set_option linter.unusedSimpArgs false
set_option linter.unusedVariables false
set_option maxRecDepth 100000

/-- a disk whose closed segments are whole, and whose last one has these bytes -/
structure Opb (d : Ds) (cs : List (Nat × List (List UInt8))) (m : Nat) (B : Option (List UInt8)) : Prop where
  man : (look d.S manN).map (·.1) = some (frm (manB (lsq cs m)))
  mans : ∀ b sy, look d.S manN = some (b, sy) → sy = b.length
  closed : ∀ x ∈ cs, look d.S (seg x.1) = some (frs x.2, (frs x.2).length)
  last : (look d.S (seg m)).map (·.1) = B
  files : ∀ s, look d.S s ≠ none → s.length ≤ 100
  okc : ∀ x ∈ cs, ∀ r ∈ x.2, Okr r
  up : (lsq cs m).Pairwise (· < ·)
  lo : ∀ n ∈ lsq cs m, 1 ≤ n
section
variable {d d' : Ds} {cs : List (Nat × List (List UInt8))} {m j : Nat} {rm : List (List UInt8)} {B : Option (List UInt8)}
theorem Opb.le (h : Opb d cs m B) : ∀ n ∈ lsq cs m, n ≤ m := fun n hn => by
  have := up_le h.up (lsq_ne cs m) n hn
  rwa [lsq_last] at this
theorem Opb.lt (h : Opb d cs m B) {x : Nat × List (List UInt8)} (hx : x ∈ cs) : x.1 < m :=
  (List.pairwise_append.1 h.up).2.2 x.1 (List.mem_map_of_mem hx) m (by simp)
theorem Opb.len (h : Opb d cs m B) : (lsq cs m).length ≤ m := up_length 0 h.up (fun n hn => h.lo n hn) m h.le
theorem Opb.cont_last (h : Opb d cs m B) : cont d m = B.getD [] := by rw [cont, h.last]
theorem Opb.cont_closed (h : Opb d cs m B) {x : Nat × List (List UInt8)} (hx : x ∈ cs) : cont d x.1 = frs x.2 := by
  rw [cont, h.closed x hx]
  rfl
theorem Opb.opens (h : Opb d cs m B) : (∀ k, (hk : k + 1 < (lsq cs m).length) → whole d (lsq cs m)[k]) ∧ recsL d (lsq cs m) = flat cs (rdL (B.getD [])) := by
  have hcc : ∀ x ∈ cs, rdL (cont d x.1) = x.2 := fun x hx => by rw [h.cont_closed hx, rdL_whole (h.okc x hx)]
  refine ⟨fun k hk => ?_, ?_⟩
  · have hkc : k < cs.length := by simp [lsq] at hk; exact hk
    have e : (lsq cs m)[k] = cs[k].1 := by
      simp only [lsq]
      rw [List.getElem_append_left (by simpa using hkc), List.getElem_map]
    rw [e]
    unfold whole wl
    rw [hcc _ (List.getElem_mem _), h.cont_closed (List.getElem_mem _)]
  · have hx : ∀ l : List (Nat × List (List UInt8)), (∀ x ∈ l, x ∈ cs) → (l.map (·.1)).flatMap (fun n => rdL (cont d n)) = l.flatMap (·.2) := by
      intro l hl
      induction l with
      | nil => rfl
      | cons x r ih =>
        rw [List.map_cons, List.flatMap_cons, List.flatMap_cons, ih (fun y hy => hl y (List.mem_cons_of_mem _ hy)), hcc x (hl x List.mem_cons_self)]
    unfold recsL flat
    rw [show lsq cs m = cs.map (·.1) ++ [m] from rfl, List.flatMap_append, hx cs (fun x hx => hx), List.flatMap_cons, List.flatMap_nil, List.append_nil, h.cont_last]
theorem Opb.opened (h : Opb d cs m B) (hl : lsq cs m ≠ []) (ho : OpnD d d' (lsq cs m) hl) : Lgd d' cs m (rdL (B.getD [])) (rdL (B.getD [])).length ∧ look d'.S freshN = none := by
  have hfr : look d'.S freshN = none := ho.none _ (fun hx => by
    rcases List.mem_append.1 hx with h1 | h1
    · obtain ⟨n, _, e⟩ := List.mem_map.1 h1
      exact seg_ne_fresh n e
    · rw [List.mem_singleton] at h1
      exact man_ne h1.symm)
  have hlast := ho.last
  rw [lsq_last] at hlast
  have hmn : look d.S manN = some (frm (manB (lsq cs m)), 40 + 8 * (lsq cs m).length) := by
    cases hlk : look d.S manN with
    | none =>
      have := h.man
      rw [hlk] at this
      cases this
    | some p =>
      obtain ⟨b, sy⟩ := p
      have h1 := h.man
      rw [hlk] at h1
      have h2 := h.mans b sy hlk
      injection h1 with h1
      simp only at h1
      subst h1
      rw [h2, frm_length, manB_length]
  refine ⟨⟨by rw [ho.man]; exact hmn, fun x hx => ?_, ?_, fun s hs => ?_, h.okc, rdL_ok _, h.up, h.lo, Nat.le_refl _⟩, hfr⟩
  · rw [ho.closed x.1 (mem_lsq.2 (.inl ⟨x, hx, rfl⟩)) (by rw [lsq_last]; have := h.lt hx; omega), h.closed x hx]
    rfl
  · have hB := h.last
    cases hlk : look d.S (seg m) with
    | none =>
      rw [hlk] at hB hlast
      left
      rw [← hB]
      exact ⟨rfl, hlast⟩
    | some p =>
      obtain ⟨b, sy⟩ := p
      rw [hlk] at hB hlast
      right
      rw [← hB]
      refine ⟨(frs (rdL b)).length, hlast, ?_⟩
      show (frs ((rdL b).take (rdL b).length)).length ≤ _
      rw [List.take_of_length_le (Nat.le_refl _)]
      exact Nat.le_refl _
  · by_cases hm : s ∈ mineL (lsq cs m)
    · rcases List.mem_append.1 hm with h1 | h1
      · obtain ⟨n, hn, e⟩ := List.mem_map.1 h1
        exact .inr (.inr ⟨n, hn, e.symm⟩)
      · rw [List.mem_singleton] at h1
        exact .inl h1
    · exact absurd (ho.none s hm) hs
theorem crashB_length (t : Tl) (b : List UInt8) (sy : Nat) (h : sy ≤ b.length) : (crashB t b sy).length = crashN t b.length sy := by
  unfold crashB crashN
  simp only
  split <;> simp <;> omega
theorem crashN_ge (t : Tl) (l sy : Nat) : sy ≤ crashN t l sy := by unfold crashN; omega
theorem crashN_le (t : Tl) {l sy : Nat} (h : sy ≤ l) : crashN t l sy ≤ l := by unfold crashN; omega
theorem crash_whole (t : Tl) (b : List UInt8) : crashB t b b.length = b ∧ crashN t b.length b.length = b.length := by
  have h : crashN t b.length b.length = b.length := by unfold crashN; omega
  unfold crashB
  simp only
  rw [h, if_neg (by omega), List.take_of_length_le (Nat.le_refl _)]
  exact ⟨rfl, rfl⟩
theorem crashB_torn (t : Tl) (b : List UInt8) (sy : Nat) : crashB t b sy = tornB b (crashN t b.length sy) (t.turn && decide (sy < crashN t b.length sy)) := by
  unfold crashB tornB
  simp only
  by_cases h : t.turn = true ∧ sy < crashN t b.length sy
  · rw [if_pos h, if_pos (by simp [h.1, h.2])]
  · rw [if_neg h, if_neg (by
      intro h2
      rw [Bool.and_eq_true, decide_eq_true_eq] at h2
      exact h h2)]
/-- behind a crash: closed segments stand; of the last one a beginning with all that was synced -/
theorem Lgd.crash (h : Lgd d cs m rm j) (hlen : ∀ s b sy, look d.S s = some (b, sy) → sy ≤ b.length) (hm : m ≤ 99999999) (tl : List Tl) : ∃ i, j ≤ i ∧ i ≤ rm.length ∧ ∃ B, Opb (dCrash d tl) cs m B ∧ rdL (B.getD []) = rm.take i := by
  have hl : ∀ s, look (dCrash d tl).S s = (look d.S s).map fun p => (crashB ((tailOf tl s).getD zeroT) p.1 p.2, crashN ((tailOf tl s).getD zeroT) p.1.length p.2) := fun s => look_crashF (fun s => (tailOf tl s).getD zeroT) d.S s
  have hman : look (dCrash d tl).S manN = look d.S manN := by
    rw [hl, h.man]
    simp only [Option.map_some]
    have e : 40 + 8 * (lsq cs m).length = (frm (manB (lsq cs m))).length := by rw [frm_length, manB_length]
    rw [e, (crash_whole _ _).1, (crash_whole _ _).2]
  have hbase : ∀ B, (look (dCrash d tl).S (seg m)).map (·.1) = B → Opb (dCrash d tl) cs m B := fun B hB => by
    refine ⟨by rw [hman, h.man]; rfl, fun b sy hs => ?_, fun x hx => ?_, hB, fun s hs => ?_, h.okc, h.up, h.lo⟩
    · rw [hman, h.man] at hs
      injection hs with hs
      injection hs with h1 h2
      rw [← h1, ← h2, frm_length, manB_length]
    · rw [hl, h.closed x hx]
      simp only [Option.map_some]
      rw [(crash_whole _ _).1, (crash_whole _ _).2]
    · have hs2 : look d.S s ≠ none := fun e => hs (by rw [hl, e]; rfl)
      rcases h.files s hs2 with rfl | rfl | ⟨n, hn, rfl⟩
      · decide
      · decide
      · rw [seg_length (Nat.le_trans (h.le n hn) hm)]
        omega
  rcases h.last with ⟨h1, h2⟩ | ⟨sy, h1, h2⟩
  · refine ⟨j, Nat.le_refl _, h.jm, none, hbase none (by rw [hl, h2]; rfl), ?_⟩
    rw [h1]
    simp [rdL_nil]
  · have hsy := hlen _ _ _ h1
    have hB : (look (dCrash d tl).S (seg m)).map (·.1) = some (crashB ((tailOf tl (seg m)).getD zeroT) (frs rm) sy) := by rw [hl, h1]; rfl
    generalize (tailOf tl (seg m)).getD zeroT = t at hB
    obtain ⟨i, hi, hrd, hgi⟩ := torn_read rm h.okm (crashN t (frs rm).length sy) (t.turn && decide (sy < crashN t (frs rm).length sy)) (crashN_le t hsy) (fun e => by
      rw [Bool.and_eq_true, decide_eq_true_eq] at e
      omega)
    refine ⟨i, hgi j h.jm ?_, hi, _, hbase _ hB, ?_⟩
    · have hge := crashN_ge t (frs rm).length sy
      split
      · rename_i e
        rw [Bool.and_eq_true, decide_eq_true_eq] at e
        omega
      · omega
    · show rdL (crashB t (frs rm) sy) = _
      rw [crashB_torn]
      exact hrd
end
theorem crash_calm {d : Ds} {N U : Nat} (h : Liv d N U) (hk : Key7 d) (tl : List Tl) : Calm (dCrash d tl) N U := by
  refine ⟨⟨h.n, Nat.le_trans (used_crashF_le (fun s => (tailOf tl s).getD zeroT) d.S) h.u, h.room, rfl, by show (-1 : Int) ≤ -1; omega, by show (-1 : Int) ≤ _; omega⟩, rfl, ?_⟩
  unfold Key7 dCrash crashF
  rw [List.pairwise_map]
  exact hk
/-- Open of a disk whose closed segments are whole -/
theorem opb_open {w0 w : World} {gd : Nat} {F : List Nat} {d : Ds} {cs : List (Nat × List (List UInt8))} {m : Nat} {B : Option (List UInt8)} {N U : Nat} (hD : DD w gd F d) (hF : ∀ x ∈ F, w0.heap.size ≤ x) (hb : Below w0.heap.size w0 w) (ht : Tb w0 w0.heap.size) (hc : Calm d N U) (hN : N ≤ 700000000) (h : Opb d cs m B) (hm : m ≤ 400) :
    Calls Tryd.prog 13 #[gp gd] w fun e w' => ∃ gl v d', e = .returned (.tuple #[gp gl, v, .int .i64 0]) ∧ Recs w' w.heap.size (fun x => w.heap.size ≤ x) v (flat cs (rdL (B.getD []))) ∧ (∃ H, LD w' gl gd w0.heap.size H d' (lsq cs m) false ∧ (∀ x ∈ H, x < w'.heap.size) ∧ (∀ g, v.ownBlock = some g → g ∉ H) ∧ Recs w' w.heap.size (fun x => w.heap.size ≤ x ∧ x ∉ H) v (flat cs (rdL (B.getD [])))) ∧
      Lw w0 w' gl gd d' cs m (rdL (B.getD [])) (rdL (B.getD [])).length false N U ∧ d'.fuse = -1 ∧ look d'.S freshN = none ∧ Kb w w' F := by
  obtain ⟨o2, o3⟩ := h.opens
  have hlen := h.len
  refine (open_old hD hF hb.size (ht.below hb) hN hc (lsq cs m) (lsq_ne cs m) h.man h.up (fun n hn => ⟨h.lo n hn, by have := h.le n hn; omega⟩) (by omega) o2 h.files).mono ?_
  rintro e w' ⟨gl, v, H', rfl, hrec, hvn, hL2, hk, hs, hg, hc2⟩
  obtain ⟨_, _, hopn⟩ := opn_looks hc (lsq cs m) (lsq_ne cs m)
  obtain ⟨g1, g2⟩ := h.opened (lsq_ne cs m) hopn
  obtain ⟨H2, h4, h5, h6⟩ := hL2.trim
  rw [o3] at hrec
  exact ⟨gl, v, _, rfl, hrec.imp (Nat.le_refl _) (fun x hx => hx.1), ⟨H2, h4, h6, fun g hg hx => hvn g hg (h5 g hx), hrec.imp (Nat.le_refl _) (fun x hx => ⟨hx.1, fun h => hx.2 (h5 x h)⟩)⟩, ⟨⟨H2, h4, h6⟩, g1, hc2.liv, below_kb hb hk hF⟩, hc2.f, g2, hk⟩
end Go.Proofs.YtmlfeljhojmbbaaDoor

namespace Go.Proofs.YtmlfeljhojmbbaaDoor
open Go.RowKit Go.Maps Go.Sort
set_option linter.unusedSimpArgs false
set_option linter.unusedVariables false
set_option maxRecDepth 100000

theorem nodup_len : ∀ (l s : List (List UInt8)), l.Pairwise (· ≠ ·) → (∀ x ∈ l, x ∈ s) → l.length ≤ s.length
  | [], s, _, _ => Nat.zero_le _
  | x :: r, s, h, hs => by
    rw [List.pairwise_cons] at h
    have hx := hs x List.mem_cons_self
    have := nodup_len r (s.erase x) h.2 (fun y hy => (List.mem_erase_of_ne (fun e => h.1 y hy e.symm)).2 (hs y (List.mem_cons_of_mem _ hy)))
    rw [List.length_erase_of_mem hx] at this
    have h2 : 0 < s.length := List.length_pos_of_mem hx
    rw [List.length_cons]
    omega
section
variable {w0 w w' : World} {gl gd : Nat} {d : Ds} {cs : List (Nat × List (List UInt8))} {m j : Nat} {rm : List (List UInt8)} {dead : Bool} {N U : Nat}
theorem Lgd.few (h : Lgd d cs m rm j) (hk : Key7 d) : (lsD d).length ≤ 2 + m := by
  have h1 := nodup_len (lsD d) (manN :: freshN :: (lsq cs m).map seg) ((lsD_rising hk).imp fun hlt e => by subst e; exact List.lt_irrefl _ hlt) (fun s hs => by
    rcases h.files s (lsD_mem.1 hs) with rfl | rfl | ⟨n, hn, rfl⟩
    · simp
    · simp
    · exact List.mem_cons_of_mem _ (List.mem_cons_of_mem _ (List.mem_map_of_mem hn)))
  have h2 := h.len
  simp at h1
  omega
theorem Lw.keys (h : Lw w0 w gl gd d cs m rm j dead N U) : Key7 d := by
  obtain ⟨H, hL, _⟩ := h.go
  exact hL.keys
/-- tails of a log's disk -/
theorem lw_tails (h : Lw w0 w gl gd d cs m rm j dead N U) (hm : m ≤ 400) (hN : N ≤ 700000000) (A : Option Addr) (M c : Nat) (ks : List Int) (hk : Rd w A (ks.map (Value.int .i64))) (hM : ks.length = M) (hMb : M ≤ 9223372036854775807) (t : Nat) (ht : t < 18446744073709551616) :
    Calls Tryd.prog 20 #[gp gd, .slice A M c, .int .u64 (t : Int)] w fun e w' => ∃ B cb tl, e = .returned (.slice B tl.length cb) ∧ RdT w' B tl ∧ tl.length ≤ 1000000 ∧ (∀ ad, B = some ad → tl ≠ [] → ad.block < w'.heap.size) ∧ Below w.heap.size w w' := by
  obtain ⟨H, hL, _⟩ := h.go
  obtain ⟨F, hD, _⟩ := hL.disk2
  have hn := h.liv.n
  have hf := h.lgd.few h.keys
  exact tails_calls hD (by omega) (fun s hs => h.lgd.opens.2.2.2.1 s hs (by omega)) (by omega) A M c ks hk hM hMb t ht
/-- a crash of a log's disk -/
theorem lw_crash (h : Lw w0 w gl gd d cs m rm j dead N U) (hm : m ≤ 400) (B : Option Addr) (cb : Nat) (tl : List Tl) (hR : RdT w B tl) (hl : tl.length ≤ 1000000) (hb : ∀ ad, B = some ad → tl ≠ [] → ad.block < w.heap.size) :
    Calls Tryd.prog 19 #[gp gd, .slice B tl.length cb] w fun e w' => e = .returned (.int .i64 0) ∧ ∃ F d' i Bl, DD w' gd F d' ∧ (∀ x ∈ F, w0.heap.size ≤ x) ∧ Below w0.heap.size w0 w' ∧ Calm d' N U ∧ j ≤ i ∧ i ≤ rm.length ∧ Opb d' cs m Bl ∧ rdL (Bl.getD []) = rm.take i := by
  obtain ⟨H, hL, hlt⟩ := h.go
  obtain ⟨F, hD, hsub, _⟩ := hL.disk2
  refine (dd_crash hD B cb tl (by omega) hR hb).mono ?_
  rintro e w' ⟨rfl, F', hD', hk, hs⟩
  have hFz : ∀ x ∈ F, w0.heap.size ≤ x := fun x hx => hL.z x (hsub x hx).1
  obtain ⟨i, hi1, hi2, Bl, hop, hrd⟩ := h.lgd.crash (fun s b sy hl => (hL.lens hl).1) (by omega) tl
  exact ⟨rfl, F', dCrash d tl, i, Bl, hD', fun x hx => (hs x hx).elim (hFz x) (fun h2 => Nat.le_trans h.below.size h2), below_kb h.below hk hFz, crash_calm h.liv h.keys tl, hi1, hi2, hop, hrd⟩
/-- Open once more, seen by one that knows the log's blocks -/
theorem lw_again2 {H : List Nat} (h : Lw w0 w gl gd d cs m rm j dead N U) (hL : LD w gl gd w0.heap.size H d (lsq cs m) dead) (hf : d.fuse = -1) (hm : m ≤ 400) (hN : N ≤ 700000000) :
    Calls Tryd.prog 13 #[gp gd] w fun e w' => ∃ gl2 v d', e = .returned (.tuple #[gp gl2, v, .int .i64 0]) ∧ Recs w' w.heap.size (fun x => w.heap.size ≤ x) v (flat cs rm) ∧ Lw w0 w' gl gd d' cs m rm rm.length dead N U ∧ Lw w0 w' gl2 gd d' cs m rm rm.length false N U ∧ d'.fuse = -1 ∧ look d'.S freshN = none ∧
      OpnD d d' (lsq cs m) (lsq_ne cs m) ∧ Kb w w' H := by
  obtain ⟨F, hD, hsub, hst⟩ := hL.disk2
  obtain ⟨o1, o2, o3, o4, o5⟩ := h.lgd.opens
  have hlen := h.lgd.len
  have hc : Calm d N U := ⟨h.liv, hf, hL.keys⟩
  have htb := hL.tb
  refine (open_old hD (fun x hx => hL.z x (hsub x hx).1) h.below.size hL.tb hN hc (lsq cs m) (lsq_ne cs m) o1 h.lgd.up (fun n hn => ⟨h.lgd.lo n hn, by have := h.lgd.le n hn; omega⟩) (by omega) o2 (fun s hs => o4 s hs (by omega))).mono ?_
  rintro e w' ⟨gl2, v, H', rfl, hrec, hvn, hL2, hk, hs, hg, hc2⟩
  obtain ⟨_, _, hopn⟩ := opn_looks hc (lsq cs m) (lsq_ne cs m)
  obtain ⟨g1, g2⟩ := h.lgd.opened (lsq_ne cs m) hopn
  obtain ⟨F2, hD2, hsub2, _⟩ := hL2.disk2
  have hst2 := hst (w' := w') (d' := dOpn d (lsq cs m) (lsq_ne cs m)) ⟨F2, hD2, hk, fun x hx => hs x (hsub2 x hx).1⟩
  have hFz : ∀ x ∈ F, w0.heap.size ≤ x := fun x hx => hL.z x (hsub x hx).1
  obtain ⟨H2, h4, h5, h6⟩ := hL2.trim
  rw [o3] at hrec
  exact ⟨gl2, v, _, rfl, hrec.imp (Nat.le_refl _) (fun x hx => hx.1), h.step hL hst2 g1 hc2.liv, ⟨⟨H2, h4, h6⟩, g1, hc2.liv, below_kb h.below hk hFz⟩, hc2.f, g2, hopn, hk.mono fun x hx => (hsub x hx).1⟩
theorem opn_names {d d' : Ds} (h : Lgd d cs m rm j) (hl : lsq cs m ≠ []) (ho : OpnD d d' (lsq cs m) hl) (hfr : look d.S freshN = none) (hk : Key7 d) (hk' : Key7 d') : lsD d = lsD d' := by
  refine lsD_ext hk hk' fun s => ?_
  have hlast := ho.last
  rw [lsq_last] at hlast
  by_cases hs : s ∈ mineL (lsq cs m)
  · rcases List.mem_append.1 hs with h1 | h1
    · obtain ⟨n, hn, rfl⟩ := List.mem_map.1 h1
      by_cases hnm : n = m
      · rw [hnm, hlast]
        cases look d.S (seg m) <;> simp
      · rw [ho.closed n hn (by rw [lsq_last]; exact hnm)]
        cases look d.S (seg n) <;> simp
    · rw [List.mem_singleton] at h1
      rw [h1, ho.man]
  · constructor
    · exact fun _ => ho.none s hs
    · intro _
      cases hlk : look d.S s with
      | none => rfl
      | some p =>
        exfalso
        apply hs
        rcases h.files s (by rw [hlk]; simp) with rfl | rfl | ⟨n, hn, rfl⟩
        · exact List.mem_append_right _ (by simp)
        · rw [hfr] at hlk
          cases hlk
        · exact List.mem_append_left _ (List.mem_map_of_mem hn)
theorem bytes_le {d : Ds} (h : ∀ n, (cont d n).length ≤ 1048576) : ∀ l : List Nat, bytesN d l ≤ 1048576 * l.length
  | [] => Nat.le_refl _
  | n :: r => by
    have h1 := h n
    have h2 := bytes_le h r
    unfold bytesN at *
    rw [List.map_cons, List.sum_cons, List.length_cons]
    omega
end
end Go.Proofs.YtmlfeljhojmbbaaDoor

namespace Go.Proofs.YtmlfeljhojmbbaaDoor
open Go.RowKit Go.Maps Go.Sort
set_option linter.unusedSimpArgs false
set_option linter.unusedVariables false
set_option maxRecDepth 100000

section
variable {w0 w w' : World} {gl gd : Nat} {d : Ds} {cs : List (Nat × List (List UInt8))} {m j : Nat} {rm : List (List UInt8)} {dead : Bool} {N U : Nat}
theorem lw_fuse (h : Lw w0 w gl gd d cs m rm j dead N U) (x : Nat) (hx : x ≤ 9223372036854775807) :
    Calls Tryd.prog 24 #[gp gd, .int .i64 (x : Int)] w fun e w' => e = .returned (.int .i64 0) ∧ Lw w0 w' gl gd { d with fuse := (x : Int) } cs m rm j dead N U := by
  obtain ⟨H, hL, hlt⟩ := h.go
  obtain ⟨F, hD, hsub, hst⟩ := hL.disk2
  refine (dk_fuse hD (x : Int)).mono ?_
  rintro e w' ⟨rfl, hs⟩
  rw [if_neg (by omega)] at hs ⊢
  have h2 : LStp w w' gl gd w0.heap.size H { d with fuse := (x : Int) } (lsq cs m) dead := hst (d' := { d with fuse := (x : Int) }) hs
  exact ⟨rfl, h.step hL h2 (h.lgd.same fun s _ => rfl) ⟨h.liv.n, h.liv.u, h.liv.room, h.liv.short, by show (-1 : Int) ≤ x; omega, by show (x : Int) ≤ _; omega⟩⟩
theorem lw_crash2 {H : List Nat} (h : Lw w0 w gl gd d cs m rm j dead N U) (hL : LD w gl gd w0.heap.size H d (lsq cs m) dead) (hm : m ≤ 400) (B : Option Addr) (cb : Nat) (tl : List Tl) (hR : RdT w B tl) (hl : tl.length ≤ 1000000) (hb : ∀ ad, B = some ad → tl ≠ [] → ad.block < w.heap.size) :
    Calls Tryd.prog 19 #[gp gd, .slice B tl.length cb] w fun e w' => e = .returned (.int .i64 0) ∧ ∃ F d' i Bl, DD w' gd F d' ∧ (∀ x ∈ F, w0.heap.size ≤ x) ∧ Below w0.heap.size w0 w' ∧ Calm d' N U ∧ j ≤ i ∧ i ≤ rm.length ∧ Opb d' cs m Bl ∧ rdL (Bl.getD []) = rm.take i ∧ Kb w w' H ∧ ∀ x ∈ F, x ∈ H ∨ w.heap.size ≤ x := by
  obtain ⟨F, hD, hsub, _⟩ := hL.disk2
  refine (dd_crash hD B cb tl (by omega) hR hb).mono ?_
  rintro e w' ⟨rfl, F', hD', hk, hs⟩
  have hFz : ∀ x ∈ F, w0.heap.size ≤ x := fun x hx => hL.z x (hsub x hx).1
  obtain ⟨i, hi1, hi2, Bl, hop, hrd⟩ := h.lgd.crash (fun s b sy hl => (hL.lens hl).1) (by omega) tl
  exact ⟨rfl, F', dCrash d tl, i, Bl, hD', fun x hx => (hs x hx).elim (hFz x) (fun h2 => Nat.le_trans h.below.size h2), below_kb h.below hk hFz, crash_calm h.liv h.keys tl, hi1, hi2, hop, hrd, hk.mono fun x hx => (hsub x hx).1, fun x hx => (hs x hx).imp (fun h2 => (hsub x h2).1) id⟩
theorem flat_take (cs : List (Nat × List (List UInt8))) (rm : List (List UInt8)) (i : Nat) : flat cs (rm.take i) <+: flat cs rm := by
  unfold flat
  exact (List.prefix_append_right_inj _).2 (List.take_prefix _ _)
theorem flat_length (cs : List (Nat × List (List UInt8))) (rm : List (List UInt8)) : (flat cs rm).length = (cs.flatMap (·.2)).length + rm.length := by simp [flat]
end
/-- a log and a row of records beside it -/
structure Lr (w0 w : World) (gl gd : Nat) (d : Ds) (cs : List (Nat × List (List UInt8))) (m : Nat) (rm : List (List UInt8)) (j : Nat) (dead : Bool) (N U : Nat) (u : Value) (ws : List (List UInt8)) : Prop where
  lw : Lw w0 w gl gd d cs m rm j dead N U
  go : ∃ H, LD w gl gd w0.heap.size H d (lsq cs m) dead ∧ (∀ x ∈ H, x < w.heap.size) ∧ (∀ g, u.ownBlock = some g → g ∉ H) ∧ Recs w w0.heap.size (fun x => x < w0.heap.size) u ws
section
variable {w0 w w' : World} {gl gd : Nat} {d d' : Ds} {cs cs' : List (Nat × List (List UInt8))} {m m' j j' : Nat} {rm rm' : List (List UInt8)} {dead dead' : Bool} {N U N' U' : Nat} {u u' : Value} {ws : List (List UInt8)}
theorem Lr.new (h : Lw w0 w gl gd d cs m rm j dead N U) : Lr w0 w gl gd d cs m rm j dead N U (.slice none 0 0) [] := by
  obtain ⟨H, h1, h2⟩ := h.go
  exact ⟨h, H, h1, h2, (fun g hg => by cases hg), Recs.nil _ _ _⟩
theorem Lr.quiet (h : Lr w0 w gl gd d cs m rm j dead N U u ws) (hb : Below w.heap.size w w') : Lr w0 w' gl gd d cs m rm j dead N U u ws := by
  obtain ⟨H, h1, h2, h3, h4⟩ := h.go
  exact ⟨h.lw.quiet hb, H, h1.quiet hb, fun x hx => Nat.lt_of_lt_of_le (h2 x hx) hb.size, h3, h4.quiet hb⟩
theorem Lr.mono (h : Lr w0 w gl gd d cs m rm j dead N U u ws) (hN : N ≤ N') (hU : U ≤ U') : Lr w0 w gl gd d cs m rm j dead N' U' u ws := ⟨⟨h.lw.go, h.lw.lgd, h.lw.liv.mono hN hU, h.lw.below⟩, h.go⟩
/-- the log goes on, the row stands -/
theorem Lr.step {H : List Nat} (h : Lw w0 w gl gd d cs m rm j dead N U) (hL : LD w gl gd w0.heap.size H d (lsq cs m) dead) (hlt : ∀ x ∈ H, x < w.heap.size) (hu : ∀ g, u.ownBlock = some g → g ∉ H) (hr : Recs w w0.heap.size (fun x => x < w0.heap.size) u ws)
    (hst : LStp w w' gl gd w0.heap.size H d' (lsq cs' m') dead') (hg : Lgd d' cs' m' rm' j') (hv : Liv d' N' U') : Lr w0 w' gl gd d' cs' m' rm' j' dead' N' U' u ws := by
  have h1 := h.step hL hst hg hv
  obtain ⟨H', g1, g2, g3⟩ := hst
  obtain ⟨H2, g4, g5, g6⟩ := g1.trim
  refine ⟨h1, H2, g4, g6, fun g hg hx => ?_, hr.kept g2 hu (fun x hx _ hxH => ?_)⟩
  · rcases g3 g (g5 g hx) with h2 | h2
    · exact hu g hg h2
    · obtain ⟨vs, ho, _⟩ := hr
      have := ho.block_lt hg
      omega
  · have := hL.z x hxH
    omega
/-- the row takes one more record, out of an argument -/
theorem Lr.push (h : Lr w0 w gl gd d cs m rm j dead N U u ws) : ∃ vs, Own w 22 1 u ws.length vs ∧ ∀ (o : Obj) (w' : World) (u' : Value) (A : Option Addr) (c : Nat) (r : List UInt8), RdB w0 A r → (∀ a, A = some a → a.block < w0.heap.size) → r.length ≤ c →
    Appended (w.alloc o) w' 22 1 u u' ws.length 1 vs [.slice A r.length c] → Lr w0 w' gl gd d cs m rm j dead N U u' (ws ++ [r]) := by
  obtain ⟨H, h1, h2, h3, h4⟩ := h.go
  obtain ⟨vs, ho, hrw, hlo⟩ := h4
  refine ⟨vs, ho, fun o w' u' A c r hr hA hc hap => ?_⟩
  have hbl := h.lw.below
  have hkb := kb_appended hap
  have hL : ∀ q, q ∈ u.ownBlock.toList → u.ownBlock = some q := fun q hq => by simpa using hq
  have hld : LD w' gl gd w0.heap.size H d (lsq cs m) dead := h1.keep hkb (fun q hq => ⟨h3 q (hL q hq), hlo q (hL q hq)⟩)
  have hb' : Below w0.heap.size w0 w' := hkb.below hbl (fun q hq => hlo q (hL q hq)) hbl.size
  have hlt' : ∀ x ∈ H, x < w'.heap.size := fun x hx => Nat.lt_of_lt_of_le (h2 x hx) hkb.size
  refine ⟨⟨⟨H, hld, hlt'⟩, h.lw.lgd, h.lw.liv, hb'⟩, H, hld, hlt', fun g hg hx => ?_, Recs.append ho hrw hlo hbl.size hap hc (hr.keep hbl) (fun a ha => ⟨hA a ha, by have := hA a ha; have := hbl.size; omega, fun e => by have := hlo _ e; have := hA a ha; omega⟩)⟩
  rcases hap.lies with e | e
  · exact h3 g (e ▸ hg) hx
  · rw [hg] at e
    injection e with e
    rw [World.size_alloc] at e
    have := h2 g hx
    omega
end
theorem rd_take7 {w : World} {A : Option Addr} {vs : List Value} (h : Rd w A vs) (n : Nat) : Rd w A (vs.take n) := by
  intro hne
  have hne2 : vs ≠ [] := fun e => hne (by rw [e]; simp)
  obtain ⟨a, e, hc⟩ := h hne2
  refine ⟨a, e, fun j u hu => hc j u ?_⟩
  rw [List.getElem?_take] at hu
  split at hu
  · exact hu
  · cases hu
theorem rwV_take {w : World} {Q : Nat → Prop} {vs : List Value} {rs : List (List UInt8)} (h : RwV w Q vs rs) (n : Nat) : RwV w Q (vs.take n) (rs.take n) := by
  refine ⟨by rw [List.length_take, List.length_take, h.1], fun i hi => ?_⟩
  rw [List.length_take] at hi
  obtain ⟨A, c, h1, h2, h3, h4⟩ := h.2 i (by omega)
  rw [List.getElem_take]
  exact ⟨A, c, by rw [List.getElem?_take_of_lt (by omega)]; exact h1, h2, h3, h4⟩
end Go.Proofs.YtmlfeljhojmbbaaDoor
