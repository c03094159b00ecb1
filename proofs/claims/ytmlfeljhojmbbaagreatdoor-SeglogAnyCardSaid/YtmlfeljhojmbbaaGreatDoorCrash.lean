/- Walk: the disk's Crash. -/
import Derived.Test.YtmlfeljhojmbbaaGreatDoorBack
import Derived.Test.YtmlfeljhojmbbaaGreatDoorPcrc
import Derived.BigQuiet
namespace Go.Proofs.YtmlfeljhojmbbaaGreatDoor
open Go.RowKit Go.Maps Go.Shelf
set_option linter.unusedSimpArgs false
set_option linter.unusedVariables false
set_option maxRecDepth 100000
attribute [local go_sem] Oper.semAt_some

def zeroT : Tl := default
def tailD (t : Tl) : DataW Unit := .agg [.lit (.string t.name.data.toList), .lit (.int .i64 t.keep), .lit (.bool t.turn)]
theorem tailD_inj {t u : Tl} (h : tailD t = tailD u) : t = u := by
  obtain ⟨n, k, b, p1⟩ := t
  obtain ⟨m, l, c, p2⟩ := u
  unfold tailD at h
  injection h with h
  injection h with h1 h
  injection h with h2 h
  injection h with h3 _
  injection h1 with h1
  injection h1 with h1
  injection h2 with h2
  injection h2 with _ h2
  injection h3 with h3
  injection h3 with h3
  have e : n = m := ByteArray.ext (Array.ext' h1)
  simp only at h2 h3
  subst e
  subst h2
  subst h3
  rfl
theorem tailV_inj {t u : Tl} (h : tailV t = tailV u) : t = u := by
  obtain ⟨n, k, b, p1⟩ := t
  obtain ⟨m, l, c, p2⟩ := u
  simp [tailV] at h
  obtain ⟨rfl, rfl, rfl⟩ := h
  rfl
open Classical in
/-- how a tail reads -/
noncomputable def tailR (v : Value) : Option (DataW Unit × List MemPlace) := if h : ∃ t, v = tailV t then some (tailD (Classical.choose h), []) else none
theorem tailR_mk (t : Tl) : tailR (tailV t) = some (tailD t, []) := by
  have h : ∃ u, tailV t = tailV u := ⟨t, rfl⟩
  unfold tailR
  rw [dif_pos h]
  have e := tailV_inj (Classical.choose_spec h)
  rw [← e]
theorem tailR_inv {v : Value} {t : Tl} {ps : List MemPlace} (h : tailR v = some (tailD t, ps)) : v = tailV t := by
  unfold tailR at h
  split at h
  · rename_i hx
    injection h with h
    injection h with h _
    have e := Classical.choose_spec hx
    rw [tailD_inj h] at e
    exact e
  · cases h
/-- the same, but for one name -/
def atT (f : List UInt8 → Option Tl) (s : List UInt8) (o : Option Tl) : List UInt8 → Option Tl := fun x => if x = s then o else f x
theorem zero_tail (w : World) : (zeroValue 104).run Tryz.prog w = .ok (tailV zeroT) w := by kernel_rfl
/-- block b is a map from names to tails -/
def TM (w : World) (b n : Nat) (f : List UInt8 → Option Tl) : Prop :=
  ∃ D : DataW Unit, w.ownsMap Tryz.prog 9 tailR b n D ∧ ∀ s zd, D.atKey (.string s) zd = (f s).elim zd tailD
theorem TM.made (w : World) : TM (w.alloc (.map #[] 0)) w.heap.size 0 (fun _ => none) := ⟨.map [], World.ownsMap_made w _ _ tailR, fun s zd => rfl⟩
theorem TM.keep {w w' : World} {b n : Nat} {f : List UInt8 → Option Tl} (h : TM w b n f) (hb : w'.heap[b]? = w.heap[b]?) : TM w' b n f := by
  obtain ⟨D, ⟨es, clock, hh, r⟩, hf⟩ := h
  exact ⟨D, ⟨es, clock, hb.trans hh, r⟩, hf⟩
theorem TM.lt {w : World} {b n : Nat} {f : List UInt8 → Option Tl} (h : TM w b n f) : b < w.heap.size := by obtain ⟨D, h, _⟩ := h; exact h.lt
theorem TM.look {w : World} {b n : Nat} {f : List UInt8 → Option Tl} (h : TM w b n f) (s : ByteArray) (hs : s.size ≤ maxLen) :
    (Instr.lookup 99 (.map (some b)) (.string s) false).run Tryz.prog w = .ok (tailV ((f s.data.toList).getD zeroT)) w := by
  obtain ⟨D, h, hf⟩ := h
  obtain ⟨v, ps, hrun, hv⟩ := h.lookup name_keyed Tryz.underlying99 (zero_tail w) (zd := tailD zeroT) (zp := []) (tailR_mk _) (WideMaps.keyOf_string_mk Tryz.underlying9 hs)
  rw [hf] at hv
  have e : (f s.data.toList).elim (tailD zeroT) tailD = tailD ((f s.data.toList).getD zeroT) := by cases f s.data.toList <;> rfl
  rw [e] at hv
  rw [hrun, tailR_inv hv]
theorem TM.update {w : World} {b n : Nat} {f : List UInt8 → Option Tl} (h : TM w b n f) (hn : n < maxLen) (s : ByteArray) (hs : s.size ≤ maxLen) (t : Tl) :
    ∃ w', (Instr.mapUpdate 99 (.map (some b)) (.string s) (tailV t)).run Tryz.prog w = .ok () w' ∧ TM w' b (n + 1) (atT f s.data.toList (some t)) ∧ w.grownBy w' (some b) := by
  obtain ⟨D, h, hf⟩ := h
  obtain ⟨w', hrun, h', hg'⟩ := h.update name_keyed Tryz.underlying99 hn (WideMaps.keyOf_string_mk Tryz.underlying9 hs) (tailR_mk t)
  refine ⟨w', hrun, ⟨_, h', fun x zd => ?_⟩, hg'⟩
  by_cases e : x = s.data.toList
  · subst e
    have e1 : atT f s.data.toList (some t) s.data.toList = some t := if_pos rfl
    rw [e1]
    exact atKey_put_same h.isMap (show WideAt.IsKeyLit (.string s.data.toList) from True.intro) _ _
  · have e1 : atT f s.data.toList (some t) x = f x := if_neg e
    rw [e1, ← hf x zd]
    exact atKey_put_other (fun e2 => e (by injection e2)) _ _
/-- a slice that is cut, its capacity too -/
def cutV (v : Value) (k : Nat) : Value :=
  match v with
  | .slice A _ _ => .slice A k k
  | v => v
theorem cutV_own {v : Value} {k g : Nat} (h : (cutV v k).ownBlock = some g) : v.ownBlock = some g := by
  cases v with
  | slice A l c =>
    cases A with
    | none => cases h
    | some ad => exact h
  | _ => exact h
def crashN (t : Tl) (len syn : Nat) : Nat := syn + min t.keep.toNat (len - syn)
def crashB (t : Tl) (b : List UInt8) (syn : Nat) : List UInt8 :=
  let k := crashN t b.length syn
  if t.turn = true ∧ syn < k then (b.take k).set (k - 1) ((b.getD (k - 1) 0) ^^^ 1) else b.take k
/-- a file behind a crash -/
def crashE (T : List UInt8 → Tl) (e : Ent) : Ent := ⟨e.key, e.g, cutV e.v (crashN (T e.key) e.b.length e.syn), crashB (T e.key) e.b e.syn, crashN (T e.key) e.b.length e.syn⟩
def mid (T : List UInt8 → Tl) (left : Lit → Bool) (es : List Ent) : List Ent := es.map fun e => if left (.string e.key) then e else crashE T e
theorem mid_start {T : List UInt8 → Tl} {left : Lit → Bool} {es : List Ent} (h : ∀ e ∈ es, left (.string e.key) = true) : mid T left es = es := by
  unfold mid
  conv => rhs; rw [← List.map_id es]
  refine List.map_congr_left fun e he => ?_
  simp [h e he]
theorem mid_end {T : List UInt8 → Tl} {left : Lit → Bool} {es : List Ent} (h : ∀ k, left k = false) : mid T left es = es.map (crashE T) := by
  unfold mid
  refine List.map_congr_left fun e he => ?_
  simp [h]
theorem mid_look {T : List UInt8 → Tl} {left : Lit → Bool} {es : List Ent} {s : List UInt8} {e : Ent} (h : lookE es s = some e) (hl : left (.string s) = true) : lookE (mid T left es) s = some e := by
  unfold lookE mid at *
  induction es with
  | nil => cases h
  | cons y r ih =>
    simp only [List.map_cons, List.find?_cons] at *
    have hk : ((if left (.string y.key) = true then y else crashE T y).key) = y.key := by
      split <;> rfl
    rw [hk]
    by_cases hy : y.key = s
    · have hy' : (y.key == s) = true := by simpa using hy
      rw [hy'] at h ⊢
      simp only at h ⊢
      rw [hy, hl]
      simpa using h
    · have hy' : (y.key == s) = false := by simpa using hy
      rw [hy'] at h ⊢
      exact ih h
theorem mid_step {T : List UInt8 → Tl} {left : Lit → Bool} {es : List Ent} (hp : es.Pairwise fun a b => a.key ≠ b.key) {s : List UInt8} {e : Ent} (h : lookE es s = some e) :
    mid T (fun z => left z && !z.sameKey (.string s)) es = setE (mid T left es) (crashE T e) := by
  obtain ⟨hm, hk⟩ := lookE_mem h
  unfold mid setE
  rw [List.map_map]
  refine List.map_congr_left fun y hy => ?_
  simp only [Function.comp, sameKey_string]
  have hke : (crashE T e).key = s := hk
  have hk2 : ((if left (.string y.key) = true then y else crashE T y).key) = y.key := by
    split <;> rfl
  by_cases hys : y.key = s
  · have : y = e := uniq hp hy hm (hys.trans hk.symm)
    subst this
    rw [if_pos (show ((if left (.string y.key) = true then y else crashE T y).key == (crashE T y).key) = true by rw [hk2, hke]; simpa using hys)]
    simp [hys]
  · have hne : ¬ ((if left (.string y.key) = true then y else crashE T y).key == (crashE T e).key) = true := by rw [hk2, hke]; simpa using hys
    rw [if_neg hne]
    simp [hys]
theorem mid_foot {T : List UInt8 → Tl} {left : Lit → Bool} {es : List Ent} {gd gm : Nat} : ∀ y ∈ foot gd gm (mid T left es), y ∈ foot gd gm es := by
  intro y hy
  simp only [foot, List.mem_cons, List.mem_flatMap, mid, List.mem_map] at hy
  rcases hy with rfl | rfl | ⟨z, ⟨e, he, rfl⟩, hy⟩
  · simp [foot]
  · simp [foot]
  · by_cases hl : left (.string e.key) = true
    · simp only [hl, if_true] at hy
      rcases hy with rfl | hy
      · exact foot_ent he
      · exact foot_own he (by simpa using hy)
    · simp only [hl] at hy
      rcases hy with rfl | hy
      · exact foot_ent (e := e) he
      · exact foot_own he (cutV_own (k := crashN (T e.key) e.b.length e.syn) (by simpa [crashE] using hy))
theorem grownBy_setCell_at (w : World) (p : Addr) (u : Value) : w.grownBy (w.setCell p u) (some p.block) := ⟨rfl, rfl, rfl, by simp, fun b hb hne => Below.heap_setCell w p u b (fun e => hne (by rw [e]))⟩
/-- files behind a crash -/
def crashF (T : List UInt8 → Tl) (S : List Fl) : List Fl := S.map fun x => (x.1, crashB (T x.1) x.2.1 x.2.2, crashN (T x.1) x.2.1.length x.2.2)
theorem fls_crash (T : List UInt8 → Tl) (es : List Ent) : fls (es.map (crashE T)) = crashF T (fls es) := by
  unfold fls crashF
  rw [List.map_map, List.map_map]
  rfl
theorem crash_any {wb wc : World} {gd gm n : Nat} {es : List Ent} {room short fuse : Int} (h : DiskAt wb gd gm n es room short fuse) {e : Ent} (he : lookE es e.key = some e) {A : Option Addr} {K : Nat} {b' : List UInt8}
    (hk : Kb wb wc (e.g :: e.v.ownBlock.toList)) (hb : Blk wc e.g 106 #[.slice A K K, .int .i64 (K : Int)]) (ho : Own wc 5 1 (.slice A K K) K (bys b')) (hlen : b'.length = K) (hK : K ≤ e.b.length)
    (hown : ∀ g, (Value.slice A K K).ownBlock = some g → e.v.ownBlock = some g) : DiskAt wc gd gm n (setE es ⟨e.key, e.g, .slice A K K, b', K⟩) room short fuse ∧ Kb wb wc (foot gd gm es) := by
  obtain ⟨hm, _⟩ := lookE_mem he
  refine ⟨h.replace (x := ⟨e.key, e.g, .slice A K K, b', K⟩) (e := e) he rfl hk hb (ho.cast hlen.symm rfl) (fun g hg => .inl (hown g hg)) ⟨by simp [hlen], ?_⟩ ?_, hk.mono fun y hy => ?_⟩
  · have := (h.len e hm).2
    simp only [hlen]
    omega
  · have := used_set h.keys (x := ⟨e.key, e.g, .slice A K K, b', K⟩) (e := e) he
    have h2 := h.sum
    simp only [hlen] at this
    omega
  · rcases List.mem_cons.1 hy with rfl | hy
    · exact foot_ent hm
    · exact foot_own hm (by simpa using hy)
theorem crash_num (t : Tl) (NE SY : Nat) (h : SY ≤ NE) (hn : NE ≤ 1048576) : ((SY : Int) + if (NE : Int) - (SY : Int) < (if t.keep < 0 then 0 else t.keep) then (NE : Int) - (SY : Int) else if t.keep < 0 then 0 else t.keep) = ((crashN t NE SY : Nat) : Int) ∧ SY ≤ crashN t NE SY ∧ crashN t NE SY ≤ NE := by
  unfold crashN
  refine ⟨?_, by omega, by omega⟩
  by_cases hk : t.keep < 0
  · simp only [hk, if_true]
    split <;> omega
  · simp only [hk, if_false]
    split <;> omega
theorem xor_one (x : UInt8) : bits .xor .u8 (x.toNat : Int) 1 = ((x ^^^ 1).toNat : Int) := Pcrc.xor_u8 x 1
section
variable {w : World} {gd gm n : Nat} {es : List Ent} {room short fuse : Int}
set_option maxHeartbeats 2000000 in
theorem crash_calls (hD : DiskAt w gd gm n es room short fuse) (A : Option Addr) (cap : Nat) (tl : List Tl) (hlen : tl.length < 9000000000000) (hR : RdT w A tl) (hRb : ∀ ad, A = some ad → tl ≠ [] → ad.block < w.heap.size) :
    Calls Tryz.prog 16 #[gp gd, .slice A tl.length cap] w fun e w' => e = .returned (.int .i64 0) ∧ After w w' gd gm es n (crashF (fun s => (tailOf tl s).getD zeroT) (fls es)) room (-1) (-1) := by
  refine (callsIn_wide (n := 6)).1 ?_
  have hM := Shut.mk (made_calls hD)
  have hmm := @run_makeMap Tryz.prog
  have hfm : Fence.wide.fn 54 := trivial
  have hfb : Fence.wide.fn 61 := trivial
  refine callsIn_of_wp_marks Tryz.func16 rfl trivial ?_ rfl
  simp only [Tryz.ntmps16, List.size_toArray, List.length_cons, List.length_nil, Nat.reduceAdd, Nat.reduceSub, Array.replicate_succ, Array.replicate_zero, List.push_toArray, List.append_toArray, List.nil_append, List.cons_append]
  gi_wp2_with (first
    | (gi_at_call 54; refine (callsIn_wide.2 hM.out).mono ?_; rintro e w' ⟨rfl, rfl⟩)
    | (gi_at_call 61; refine (back_in _ _ _ _ _).mono ?_; rintro e w' ⟨rfl, rfl⟩))
  have hT0 := ((TM.made w).keep (w' := ((w.alloc (Obj.map #[] 0)).alloc (.cells #[.map (some w.heap.size)] 99)).alloc (.cells #[.slice A tl.length cap] 28)) ((Below.heap_alloc _ _ _ (by simp; omega)).trans (Below.heap_alloc _ _ _ (by simp))))
  have hB0 := ((Boxed.new (w.alloc (Obj.map #[] 0)) 99 (.map (some w.heap.size))).alloc (.cells #[.slice A tl.length cap] 28))
  have hS0 := Boxed.new ((w.alloc (Obj.map #[] 0)).alloc (.cells #[.map (some w.heap.size)] 99)) 28 (.slice A tl.length cap)
  simp only [World.size_alloc] at hB0 hS0
  have hL0 : Below w.heap.size w (((w.alloc (Obj.map #[] 0)).alloc (.cells #[.map (some w.heap.size)] 99)).alloc (.cells #[.slice A tl.length cap] 28)) := (((Below.refl _ w).alloc (Nat.le_refl _) _).alloc (by simp) _).alloc (by simp; omega) _
  have hsz : (((w.alloc (Obj.map #[] 0)).alloc (.cells #[.map (some w.heap.size)] 99)).alloc (.cells #[.slice A tl.length cap] 28)).heap.size = w.heap.size + 3 := by simp
  obtain ⟨GB, hGB⟩ : ∃ GB, GB = w.heap.size + 1 := ⟨_, rfl⟩
  obtain ⟨BS, hBS⟩ : ∃ BS, BS = w.heap.size + 1 + 1 := ⟨_, rfl⟩
  obtain ⟨W0, hW0⟩ : ∃ W0, ((w.alloc (Obj.map #[] 0)).alloc (.cells #[.map (some w.heap.size)] 99)).alloc (.cells #[.slice A tl.length cap] 28) = W0 := ⟨_, rfl⟩
  obtain ⟨N, hN⟩ : ∃ N, N = tl.length := ⟨_, rfl⟩
  rw [hW0] at hT0 hB0 hS0 hL0 hsz ⊢
  rw [← hBS] at hS0 ⊢
  rw [← hGB] at hB0 ⊢
  have HSTOP := back_stops 5 (by omega) BS w.heap.size A cap tl (by omega) W0 (by omega) (by omega) hS0.cell (hR.below hL0 hRb) hRb
  rw [← hN] at hlen hS0 HSTOP ⊢
  have h1b : w.heap.size < GB := by omega
  have h2b : GB < BS := by omega
  have h3b : BS < W0.heap.size := by omega
  have HN := Shut.mk hN
  clear hW0 hGB hBS hN
  refine wpIn_rangeFunc_ownH (n := 6) rfl (by omega) (gf := 94) (lb := #[.pointer (some ⟨BS, 0, none⟩)]) rfl trivial (enters_of Tryz.func94 (by kernel_rfl) rfl)
    HSTOP (fun h k => Kt.trans h k) (fun W l o o' hl ho h1 h2 => ?kb) (Below.refl _ _) (fun _ => rfl)
    (fun pre W => ((TM W w.heap.size pre.length (lastT pre) ∧ Boxed W GB 99 (.map (some w.heap.size))) ∧ Boxed W BS 28 (.slice A N cap)) ∧ Below w.heap.size w W)
    (fun _ _ _ => False)
    (OwnFrom.and (OwnFrom.and (OwnFrom.and ?otm (Own.from (boxed_own _ _ _) _)) (Own.from (boxed_own _ _ _) _)) (ownFrom_below (Nat.le_refl _) (by omega)))
    (fun _ _ _ _ _ hs _ _ => hs)
    ⟨⟨⟨hT0, hB0⟩, hS0⟩, hL0⟩
    (fun x a' W => ∃ Bx, BS < Bx ∧ Blk W Bx 104 #[.string x.2.name, .int .i64 x.2.keep, .bool x.2.turn] ∧ a' = { tmps := #[gp gd, .slice A N cap, undef, undef, .int .i64 0, .pointer (some ⟨GB, 0, none⟩), undef, .pointer (some ⟨Bx, 0, none⟩), undef, undef, undef, undef, gp gd, .bool true, .bool false, .map (some w.heap.size), .slice A N cap, .func (.func 94) #[] #[.pointer (some ⟨BS, 0, none⟩)], .int .i64 x.1, tailV x.2, undef, undef, undef, undef, undef, undef, undef, undef, undef, undef, undef, undef, undef, undef, undef, undef, undef, undef, undef, undef, undef, undef, undef, undef, undef, undef, undef, undef, undef, undef, undef, undef, undef, undef, undef, undef, undef, undef, undef, undef, undef, undef, undef, undef, undef, undef, undef, undef, undef, undef, undef, undef, undef, undef, undef, undef, undef, undef, undef, undef, undef, undef, undef, undef, undef, undef, undef, undef, undef, undef, undef, undef, undef, undef, undef, undef], defers := [] })
    (fun x a' _ X Y row hs hg hr => ?oax)
    ?assign ?body ?done ?stop
  case kb =>
    have hlt := (Array.getElem?_eq_some_iff.1 ho).1
    have hg := grownBy_putObj' W l o'
    exact ⟨(Below.refl _ W).grown hg (by omega) (fun k hk => by cases hk; omega), hg.block BS (by omega) (fun e => by cases e; omega)⟩
  case otm => exact fun s A B row hs hg hr => hs.keep (hg.block _ hs.lt (fun e => by have := (hr _ e.symm).1; omega))
  case oax =>
    obtain ⟨Bx, g1, g2, g3⟩ := hs
    refine ⟨Bx, g1, (hg.block Bx g2.lt (fun e => ?_)).trans g2, g3⟩
    obtain ⟨o, ho, hc⟩ := (hr Bx e.symm).2
    unfold Blk at g2
    rw [g2] at ho
    cases ho
    cases hc
  case assign =>
    rintro l pre x W K ⟨⟨⟨hT, hB⟩, hS⟩, hL⟩ hK
    gi_wp2
    exact hK _ _ ((KeepsOthers.alloc _ _).from _) ⟨(Below.refl _ W).alloc hL.size _, Below.heap_alloc W _ BS hS.lt⟩ ⟨⟨⟨hT.keep (Below.heap_alloc _ _ _ hT.lt), hB.alloc _⟩, hS.alloc _⟩, hL.alloc hL.size _⟩ ⟨W.heap.size, hS.lt, Blk.new W _ _, rfl⟩
  case body =>
    rintro l pre x a' W hl ⟨r, hr⟩ ⟨⟨⟨hT, hB⟩, hS⟩, hL⟩ ⟨Bx, hBx, hX, rfl⟩ hlt
    have c0 : W.cell? ⟨Bx, 0, none⟩ = some (.string x.2.name) := hX.cell 0
    have c1 : W.cell? ⟨Bx, 1, none⟩ = some (.int .i64 x.2.keep) := hX.cell 1
    have c2 : W.cell? ⟨Bx, 2, none⟩ = some (.bool x.2.turn) := hX.cell 2
    have cB := hB.cell
    obtain ⟨w1, hup, hT1, hg1⟩ := hT.update (by unfold maxLen; have := HN.out; omega) x.2.name x.2.sz x.2
    gi_wp2
    refine ⟨KeepsFrom.of_grownBy hg1 (fun j e => by cases e; omega), ⟨(Below.refl _ W).grown hg1 hL.size (fun k hk => by cases hk; exact Nat.le_refl _), hg1.block BS hS.lt (fun e => by cases e; omega)⟩, ⟨⟨⟨?_, hB.kept hg1 (fun e => by cases e; omega)⟩, hS.kept hg1 (fun e => by cases e; omega)⟩, hL.grown hg1 hL.size (fun k hk => by cases hk; exact Nat.le_refl _)⟩⟩
    have e : lastT (pre ++ [x]) = atT (lastT pre) x.2.name.data.toList (some x.2) := by
      funext s
      rw [lastT_snoc]
      rfl
    rw [e, List.length_append]
    exact hT1
  case done =>
    rintro D xs W hDD rfl ⟨⟨⟨hT, hB⟩, hS⟩, hL⟩ hK
    rename_i K0 hK0
    show K0 _ _
    refine hK0 _ _ ?_
    refine wpIn_wide.2 ?_
    have hD1 := hD.below hL
    have hT : TM W w.heap.size N (tailOf tl) := by
      have h := hT
      have e : lastT (backs tl N) = tailOf tl := by
        funext s
        rw [HN.out]
        exact lastT_backs tl s
      rw [backs_length, e] at h
      exact h
    have HFL := Shut.mk (fun y (hy : y ∈ foot gd gm es) => hD.lt hy)
    have HT := Shut.mk hT
    have HB := Shut.mk hB
    have HL := Shut.mk hL
    have HD1 := Shut.mk hD1
    have HKD := Shut.mk hK
    have q0 : W.cell? ⟨gd, 0, none⟩ = some (.map (some gm)) := hD1.blk.cell 0
    obtain ⟨T, hTT⟩ : ∃ T : List UInt8 → Tl, T = fun s => (tailOf tl s).getD zeroT := ⟨_, rfl⟩
    have HTT := Shut.mk hTT
    obtain ⟨DD, hown, hfD⟩ := hD1.map
    have HFD := Shut.mk hfD
    have HST := Shut.mk (mid_start (T := T) (left := Maps.has DD) (es := es) fun e he => has_of hfD (g := e.g) (by unfold ef; rw [lookE_of_mem hD1.keys he]; rfl))
    clear hT hB hS hL hK hD1 hfD hTT hT0 hB0 hS0 hL0 HSTOP hD hR hRb hM hmm hK0
    go_wp2_with (first
      | (at_range; refine wpList_range_own _ rfl _ 71 rfl 9 98 name_keyed Tryz.underlying71 _ gm n DD rfl hown ?_; intro w0 hrg0 hg0 hs0)
      | go_in)
    go_frame
    clear hown q0
    have hb0 : Below W.heap.size W w0 := (Below.refl _ W).grown hg0 (Nat.le_refl _) (fun k hk => by cases hk)
    go_loopw [8, 9] (fun _ _ wr => ∃ left cnt, wr.ranges Tryz.prog 9 ptrElem gm W.heap.size n DD left cnt ∧ DiskAt wr gd gm n (mid T left es) room short fuse ∧ Kb W wr (foot gd gm es)) (fun _ _ wr => wr.rangeLeft gm W.heap.size)
    case atStart => exact ⟨_, _, hrg0, by rw [HST.out]; exact HD1.out.below hb0, Kb.of_below hb0 _⟩
    case round =>
      obtain ⟨left, cnt, hrg, hDr, hKr⟩ := hrel
      have HDR := Shut.mk hDr
      have HKR := Shut.mk hKr
      clear hDr hKr hrg0 hg0 hs0 hb0
      go_wp2_with (first
        | (at_next; refine wpList_next_ranges _ rfl _ rfl 9 name_keyed ptrElem Value.string ptr (fun key kl h => by obtain ⟨s, h1, _⟩ := WideMaps.string_of_keyOf Tryz.underlying9 h; exact ⟨s, h1⟩) (fun v y h => by obtain ⟨o, h1, _⟩ := ptr_elem_inv h; exact ⟨o, h1⟩) gm W.heap.size n _ _ _ rfl hrg ?_ ?_)
        | go_in)
      · intro _ hl0
        have hDr := HDR.out
        rw [mid_end hl0] at hDr
        have f2 := hDr.blk.free 2
        have q2 : wr.cell? ⟨gd, 2, none⟩ = some (.int .i64 short) := hDr.blk.cell 2
        have hD5 := hDr.setd 2 (.int .i64 (-1)) (room' := room) (short' := -1) (fuse' := fuse) rfl
        have f3 := hD5.blk.free 3
        have q3 : (wr.setCell ⟨gd, 2, none⟩ (.int .i64 (-1))).cell? ⟨gd, 3, none⟩ = some (.int .i64 fuse) := hD5.blk.cell 3
        have HD6 := Shut.mk (hD5.setd 3 (.int .i64 (-1)) (room' := room) (short' := -1) (fuse' := -1) rfl)
        have hnD : ∀ x ∈ foot gd gm es, x ≠ D := fun x hx e2 => by have := HFL.out x hx; omega
        have hgdD : D ≠ gd := fun e2 => hnD gd (by simp [foot]) e2.symm
        have hKr : wr.heap[D]? = some (.deferred (some [])) := (HKR.out.block D (Array.getElem?_eq_some_iff.1 HKD.out).1 (fun hc => hnD D hc rfl)).trans HKD.out
        have HK6 := Shut.mk (show ((wr.setCell ⟨gd, 2, none⟩ (.int .i64 (-1))).setCell ⟨gd, 3, none⟩ (.int .i64 (-1))).heap[D]? = some (.deferred (some [])) from (Below.heap_setCell _ ⟨gd, 3, none⟩ _ D hgdD).trans ((Below.heap_setCell wr ⟨gd, 2, none⟩ _ D hgdD).trans hKr))
        have HKB6 := Shut.mk (show Kb w ((wr.setCell ⟨gd, 2, none⟩ (.int .i64 (-1))).setCell ⟨gd, 3, none⟩ (.int .i64 (-1))) (foot gd gm es) from ((((Kb.of_below HL.out (foot gd gm es)).trans HKR.out fun x hx => .inl hx).setCell (p := ⟨gd, 2, none⟩) (by simp [foot]) _).setCell (p := ⟨gd, 3, none⟩) (by simp [foot]) _))
        clear hDr hD5 hKr
        go_wp2_with fail
        refine ⟨by simp, .inl ⟨_, _, rfl, run_takeDeferred HK6.out, ?_⟩⟩
        refine ⟨_, results_tmp rfl _ _ _, rfl, ?_⟩
        have hg := grownBy_putObj' ((wr.setCell ⟨gd, 2, none⟩ (.int .i64 (-1))).setCell ⟨gd, 3, none⟩ (.int .i64 (-1))) D (.deferred none)
        have hf9 : ∀ y ∈ foot gd gm (es.map (crashE T)), y ∈ foot gd gm es := fun y hy => by
          rw [← mid_end (T := T) (left := fun _ => false) (fun _ => rfl)] at hy
          exact mid_foot y hy
        refine ⟨⟨es.map (crashE T), HD6.out.keep (L := [D]) (Kb.of_grown hg (fun r hr => by cases hr; simp)) (fun x hx hc => hnD x (hf9 x hx) (by simpa using hc)), by rw [fls_crash, HTT.out], fun y hy => .inl (hf9 y hy)⟩, HKB6.out.grown_new hg (by have := HL.out.size; omega)⟩
      · intro s o kl y ps w1 cnt1 hkey hlx hRy hat hrg1 hlt hg1 hs1 hen
        obtain ⟨s', hs', rfl, hsz'⟩ := WideMaps.string_of_keyOf Tryz.underlying9 hkey
        cases hs'
        obtain ⟨o', ho', hy⟩ := ptr_elem_inv hRy
        obtain ⟨rfl, rfl⟩ := Prod.mk.inj hy
        have ho : o' = o := by cases o <;> cases o' <;> simp_all [ptr]
        subst ho
        obtain ⟨g, hg, rfl⟩ := comes HFD.out hat
        unfold ef at hg
        cases hl : lookE es s.data.toList with
        | none => rw [hl] at hg; cases hg
        | some e =>
          rw [hl] at hg
          injection hg with hg
          subst hg
          have HML := Shut.mk (mid_look (T := T) hl hlx)
          have HMS := Shut.mk (mid_step (T := T) (left := left) HD1.out.keys hl)
          obtain ⟨hme, hke⟩ := lookE_mem HML.out
          have hD2 : DiskAt w1 gd gm n (mid T left es) room short fuse := HDR.out.keep (L := [W.heap.size]) (Kb.of_grown hg1 (fun r hr => by cases hr; simp)) (fun x hx hc => by simp at hc; have := HFL.out x (mid_foot x hx); have := HL.out.size; omega)
          have hk2 : Kb W w1 (foot gd gm es) := HKR.out.grown_new hg1 (Nat.le_refl _)
          have hb := hD2.file e hme
          obtain ⟨Ae, ce, hve, _, hce, _⟩ := (hD2.own e hme).form
          have HVE := Shut.mk hve
          rw [hve] at hb
          obtain ⟨NE, hNE⟩ : ∃ NE, NE = e.b.length := ⟨_, rfl⟩
          rw [← hNE] at hb hce
          have HNE := Shut.mk hNE
          have hT2 : TM w1 w.heap.size N (tailOf tl) := HT.out.keep (hk2.block _ HT.out.lt (fun hc => Nat.lt_irrefl _ (HFL.out _ hc)))
          have hlk := hT2.look s hsz'
          have hTs : (tailOf tl s.data.toList).getD zeroT = T s.data.toList := by rw [HTT.out]
          rw [hTs] at hlk
          have hB2 : Boxed w1 GB 99 (.map (some w.heap.size)) := (hk2.block GB HB.out.lt (fun hc => by have := HFL.out _ hc; omega)).trans HB.out
          have cB := hB2.cell
          obtain ⟨t, ht⟩ : ∃ t, t = T s.data.toList := ⟨_, rfl⟩
          rw [← ht] at hlk
          have HTS := Shut.mk ht
          have hen' : (Instr.entry (.pointer (some ⟨W.heap.size, 0, none⟩))).run Tryz.prog w1 = .ok (.tuple #[.string s, gp e.g]) w1 := hen
          have hba := hb.alloc (.cells #[.string t.name, .int .i64 t.keep, .bool t.turn] 104)
          have HXA := Shut.mk (Blk.new w1 104 #[.string t.name, .int .i64 t.keep, .bool t.turn])
          have HBA := Shut.mk hba
          have HD2 := Shut.mk hD2
          have HK2 := Shut.mk hk2
          have HRG1 := Shut.mk hrg1
          have HME := Shut.mk hme
          have HKE := Shut.mk hke
          have HLT := Shut.mk hlt
          have HLE := Shut.mk hrg.left_eq
          have HSY := Shut.mk ((hD2.len e hme))
          clear hen hrg hat hRy hb hve hl hD2 hk2 hT2 hTs hB2 hrg1 hme hke hba hg1 hlt hNE ht
          go_wp2_with fail
          have HGA := Shut.mk ((Below.refl _ w1).alloc (Nat.le_refl _) (.cells #[.string t.name, .int .i64 t.keep, .bool t.turn] 104))
          have HRA := Shut.mk (HRG1.out.alloc (.cells #[.string t.name, .int .i64 t.keep, .bool t.turn] 104))
          obtain ⟨BX, hBX⟩ : ∃ BX, BX = wr.heap.size := ⟨_, rfl⟩
          obtain ⟨XG, hXG⟩ : ∃ XG, XG = e.g := ⟨_, rfl⟩
          obtain ⟨SY, hSY⟩ : ∃ SY, SY = e.syn := ⟨_, rfl⟩
          have hba := HBA.out
          have hxa := HXA.out
          rw [← hXG, ← hSY] at hba
          rw [hs1, ← hBX] at hxa
          rw [← hBX, ← hXG]
          generalize w1.alloc (.cells #[.string t.name, .int .i64 t.keep, .bool t.turn] 104) = wa at hba hxa HGA HRA ⊢
          have s0 : wa.cell? ⟨XG, 0, none⟩ = some (.slice Ae NE ce) := hba.cell 0
          have s1 : wa.cell? ⟨XG, 1, none⟩ = some (.int .i64 (SY : Int)) := hba.cell 1
          have t1 : wa.cell? ⟨BX, 1, none⟩ = some (.int .i64 t.keep) := hxa.cell 1
          have t2 : wa.cell? ⟨BX, 2, none⟩ = some (.bool t.turn) := hxa.cell 2
          have HBA := Shut.mk hba
          have hsy : SY ≤ NE := by rw [hSY, HNE.out]; exact HSY.out.1
          have hne1 : NE ≤ 1048576 := by rw [HNE.out]; exact HSY.out.2
          have HBX := Shut.mk hBX
          have HXG := Shut.mk hXG
          have HSYE := Shut.mk hSY
          obtain ⟨kp, hkp⟩ : ∃ kp, kp = t.keep := ⟨_, rfl⟩
          obtain ⟨tn, htn⟩ : ∃ tn, tn = t.turn := ⟨_, rfl⟩
          rw [← hkp] at t1
          rw [← htn] at t2
          have HKP := Shut.mk hkp
          have HTN := Shut.mk htn
          clear hba hxa hBX hXG hSY hkp htn cB hlk hen'
          go_quiet (fail)
          obtain ⟨hKe, hK1, hK2⟩ := crash_num t NE SY hsy hne1
          rw [← HKP.out] at hKe
          rw [hKe]
          obtain ⟨K, hKK⟩ : ∃ K, K = crashN t NE SY := ⟨_, rfl⟩
          rw [← hKK] at hK1 hK2 ⊢
          have HKK := Shut.mk hKK
          clear hKK hKe
          have HBB := Shut.mk (HBA.out.drewN nq)
          have HOB := Shut.mk (((HD2.out.own e HME.out).below HGA.out (fun g hg => (HD2.out.own e HME.out).block_lt hg)).drewN nq)
          have HDB := Shut.mk ((HD2.out.below HGA.out).drewN nq)
          have HKB := Shut.mk ((HK2.out.below_ HGA.out).drewN nq)
          have HRB := Shut.mk (show (wa.drewN nq).ranges Tryz.prog 9 ptrElem gm W.heap.size n DD (fun z => left z && !z.sameKey (.string s.data.toList)) cnt1 from HRA.out)
          have t2 : (wa.drewN nq).cell? ⟨BX, 2, none⟩ = some (.bool tn) := t2
          have hBXl := World.block_lt_of_cell? _ _ t2
          generalize wa.drewN nq = wb at HBB HOB HDB HKB HRB t2 hBXl ⊢
          clear s0 s1 t1
          have hBXG : BX ≠ XG := by
            intro e2
            rw [e2] at t2
            have := HBB.out.cell 2
            rw [this] at t2
            simp at t2
          have b1 := HBB.out.set_ 0 (.slice Ae K K)
          have r0 : wb.cell? ⟨XG, 0, none⟩ = some (.slice Ae NE ce) := HBB.out.cell 0
          have f0 := HBB.out.free 0
          have r1 : (wb.setCell ⟨XG, 0, none⟩ (.slice Ae K K)).cell? ⟨XG, 1, none⟩ = some (.int .i64 (SY : Int)) := b1.cell 1
          have f1 := b1.free 1
          have hkce : K ≤ ce := by omega
          have HEL := Shut.mk (show lookE (mid T left es) e.key = some e by rw [HKE.out]; exact HML.out)
          have HOW := Shut.mk (show ∀ g, (Value.slice Ae K K).ownBlock = some g → e.v.ownBlock = some g from fun g hg => by
            rw [HVE.out]
            cases Ae with
            | none => cases hg
            | some ad => exact hg)
          have HNB := Shut.mk (fun g hg => blk_own_ne HBB.out (by decide) HOB.out g hg)
          have HO0 := Shut.mk (show Own wb 5 1 (.slice Ae K K) K ((bys e.b).take K) by
            have h := HOB.out
            rw [HVE.out, ← HNE.out] at h
            exact h.cut hK2)
          have hgx : gm ≠ XG := by
            rw [HXG.out]
            exact fun e2 => (HDB.out.file_ne HME.out).2 e2.symm
          have hwx : W.heap.size ≠ XG := by
            have h1 := HDB.out.file e HME.out
            have h2 := HFL.out e.g (mid_foot _ (foot_ent HME.out))
            have h3 := HL.out.size
            have h4 := HXG.out
            omega
          have t2' : ∀ (u : Value), (wb.setCell ⟨XG, 0, none⟩ u).cell? ⟨BX, 2, none⟩ = some (.bool tn) := by
            intro u
            have h := t2
            unfold World.cell? at h ⊢
            rw [Below.heap_setCell wb ⟨XG, 0, none⟩ u BX hBXG]
            exact h
          have t3 := t2' (.slice Ae K K)
          have HGX := Shut.mk hgx
          have HWX := Shut.mk hwx
          clear t2 t2' hgx hwx hBXl hBXG
          cases htn : tn with
          | false =>
            rw [htn] at t3 HTN
            go_wp2_with fail
            have b2 := b1.set_ 1 (.int .i64 (K : Int))
            obtain ⟨hD9, hK9⟩ := crash_any HDB.out (e := e) (A := Ae) (K := K) (b' := (e.b.take K)) HEL.out (((Kb.refl wb _).setCell (by simp [HXG.out]) _).setCell (by simp [HXG.out]) _) (HXG.out ▸ b2) (((HO0.out.keep (w' := wb.setCell ⟨XG, 0, none⟩ (.slice Ae K K)) fun g hg => Below.heap_setCell wb _ _ g (HNB.out g (HOW.out g hg))).keep (w' := (wb.setCell ⟨XG, 0, none⟩ (.slice Ae K K)).setCell ⟨XG, 1, none⟩ (.int .i64 (K : Int))) fun g hg => Below.heap_setCell _ _ _ g (HNB.out g (HOW.out g hg))).cast rfl (bys_take e.b K).symm) (by rw [List.length_take]; have := HNE.out; omega) (by have := HNE.out; omega) HOW.out
            have HX := Shut.mk (show mid T (fun z => left z && !z.sameKey (.string s.data.toList)) es = setE (mid T left es) ⟨e.key, e.g, .slice Ae K K, (e.b.take K), K⟩ by
              rw [HMS.out]
              congr 1
              have e1 : T e.key = t := by rw [HKE.out, HTS.out]
              have e2 : crashN t e.b.length e.syn = K := by rw [HKK.out, HNE.out, HSYE.out]
              have e3 : crashB t e.b e.syn = (e.b.take K) := by
                unfold crashB
                rw [e2, ← HTN.out, ← HSYE.out]
                rw [if_neg (by simp)]
              unfold crashE
              rw [e1, e2, e3, HVE.out]
              rfl)
            rw [← HX.out] at hD9
            go_roundw
            case rel => exact ⟨_, cnt1, ((HRB.out.kept (grownBy_setCell' wb XG (.slice Ae K K)) (fun e2 => HGX.out (by injection e2)) (fun e2 => HWX.out (by injection e2))).kept (grownBy_setCell_at _ ⟨XG, 1, none⟩ (.int .i64 (K : Int))) (fun e2 => HGX.out (by injection e2)) (fun e2 => HWX.out (by injection e2))), hD9, HKB.out.trans hK9 (fun y hy => .inl (mid_foot _ hy))⟩
            case measure => rw [(((HRB.out.kept (grownBy_setCell' wb XG (.slice Ae K K)) (fun e2 => HGX.out (by injection e2)) (fun e2 => HWX.out (by injection e2))).kept (grownBy_setCell_at _ ⟨XG, 1, none⟩ (.int .i64 (K : Int))) (fun e2 => HGX.out (by injection e2)) (fun e2 => HWX.out (by injection e2))) : World.ranges _ _ _ _ _ _ _ _ _ _).left_eq, HLE.out]; exact HLT.out
          | true =>
            rw [htn] at t3 HTN
            by_cases hgt : SY < K
            · have hgtI : (K : Int) > (SY : Int) := by omega
              obtain ⟨ag, cag, hag, _⟩ := HO0.out.head (by omega)
              have hag1 : Ae = some ⟨ag, 0, none⟩ := by injection hag
              clear hag
              subst hag1
              obtain ⟨m, hm⟩ : ∃ m, K = m + 1 := ⟨K - 1, by omega⟩
              subst hm
              have hagx : ag ≠ XG := HNB.out ag (HOW.out ag rfl)
              have o1 := HO0.out.keep (w' := wb.setCell ⟨XG, 0, none⟩ (.slice (some ⟨ag, 0, none⟩) (m + 1) (m + 1))) fun g hg => Below.heap_setCell wb _ _ g (HNB.out g (HOW.out g hg))
              rw [← bys_take] at o1
              have hml : m < (e.b.take (m + 1)).length := by rw [List.length_take]; have := HNE.out; omega
              have hgd : (e.b.take (m + 1)).getD m 0 = e.b.getD m 0 := by
                rw [List.getD_eq_getElem?_getD, List.getD_eq_getElem?_getD, List.getElem?_take, if_pos (by omega)]
              have c1 := o1.cell m (bys_get (e.b.take (m + 1)) m hml)
              rw [hgd] at c1
              have fz := o1.free m
              have z0 : (wb.setCell ⟨XG, 0, none⟩ (.slice (some ⟨ag, 0, none⟩) (m + 1) (m + 1))).cell? ⟨XG, 0, none⟩ = some (.slice (some ⟨ag, 0, none⟩) (m + 1) (m + 1)) := b1.cell 0
              obtain ⟨x, hx⟩ : ∃ x, x = e.b.getD m 0 := ⟨_, rfl⟩
              rw [← hx] at c1
              have HXX := Shut.mk hx
              have o2 := o1.set m (.int .u8 ((x ^^^ 1).toNat : Int))
              have b2 := b1.far (p := ⟨ag, m, none⟩) (fun e2 => hagx e2.symm) (.int .u8 ((x ^^^ 1).toNat : Int))
              have z1 : ((wb.setCell ⟨XG, 0, none⟩ (.slice (some ⟨ag, 0, none⟩) (m + 1) (m + 1))).setCell ⟨ag, m, none⟩ (.int .u8 ((x ^^^ 1).toNat : Int))).cell? ⟨XG, 1, none⟩ = some (.int .i64 (SY : Int)) := b2.cell 1
              have hxo := xor_one x
              have HGA2 := Shut.mk (show gm ≠ ag from fun e2 => (HDB.out.own_ne HME.out (HOW.out ag rfl)).2.1 e2.symm)
              have HWA2 := Shut.mk (show W.heap.size ≠ ag by have h2 := HFL.out ag (mid_foot _ (foot_own HME.out (HOW.out ag rfl))); have h3 := HL.out.size; omega)
              clear hx hgd hml
              have O2 := Shut.mk o2
              have B2 := Shut.mk b2
              clear o1 o2 b2
              go_wp2_with fail
              have b3 := B2.out.set_ 1 (.int .i64 ((m + 1 : Nat) : Int))
              obtain ⟨hD9, hK9⟩ := crash_any HDB.out (e := e) (A := some ⟨ag, 0, none⟩) (K := m + 1) (b' := ((e.b.take (m + 1)).set m (x ^^^ 1))) HEL.out ((((Kb.refl wb _).setCell (by simp [HXG.out]) _).setCell (p := ⟨ag, m, none⟩) (by have := HOW.out ag rfl; simp [this]) _).setCell (by simp [HXG.out]) _) (HXG.out ▸ b3) ((O2.out.keep (w' := ((wb.setCell ⟨XG, 0, none⟩ (.slice (some ⟨ag, 0, none⟩) (m + 1) (m + 1))).setCell ⟨ag, m, none⟩ (.int .u8 ((x ^^^ 1).toNat : Int))).setCell ⟨XG, 1, none⟩ (.int .i64 ((m + 1 : Nat) : Int))) fun g hg => Below.heap_setCell _ _ _ g (HNB.out g (HOW.out g hg))).cast rfl (bys_set _ _ _).symm) (by rw [List.length_set, List.length_take]; have := HNE.out; omega) (by have := HNE.out; omega) HOW.out
              have HX := Shut.mk (show mid T (fun z => left z && !z.sameKey (.string s.data.toList)) es = setE (mid T left es) ⟨e.key, e.g, .slice (some ⟨ag, 0, none⟩) (m + 1) (m + 1), ((e.b.take (m + 1)).set m (x ^^^ 1)), m + 1⟩ by
                rw [HMS.out]
                congr 1
                have e1 : T e.key = t := by rw [HKE.out, HTS.out]
                have e2 : crashN t e.b.length e.syn = m + 1 := by rw [HKK.out, HNE.out, HSYE.out]
                have e3 : crashB t e.b e.syn = ((e.b.take (m + 1)).set m (x ^^^ 1)) := by
                  unfold crashB
                  rw [e2, ← HTN.out, ← HSYE.out]
                  rw [if_pos ⟨rfl, hgt⟩, HXX.out]
                  rfl
                unfold crashE
                rw [e1, e2, e3, HVE.out]
                rfl)
              rw [← HX.out] at hD9
              go_roundw
              case rel => exact ⟨_, cnt1, (((HRB.out.kept (grownBy_setCell' wb XG (.slice (some ⟨ag, 0, none⟩) (m + 1) (m + 1))) (fun e2 => HGX.out (by injection e2)) (fun e2 => HWX.out (by injection e2))).kept (grownBy_setCell_at _ ⟨ag, m, none⟩ (.int .u8 ((x ^^^ 1).toNat : Int))) (fun e2 => HGA2.out (by injection e2)) (fun e2 => HWA2.out (by injection e2))).kept (grownBy_setCell_at _ ⟨XG, 1, none⟩ (.int .i64 ((m + 1 : Nat) : Int))) (fun e2 => HGX.out (by injection e2)) (fun e2 => HWX.out (by injection e2))), hD9, HKB.out.trans hK9 (fun y hy => .inl (mid_foot _ hy))⟩
              case measure => exact Nat.lt_of_le_of_lt (Nat.le_of_eq (World.ranges.left_eq (((HRB.out.kept (grownBy_setCell' wb XG (.slice (some ⟨ag, 0, none⟩) (m + 1) (m + 1))) (fun e2 => HGX.out (by injection e2)) (fun e2 => HWX.out (by injection e2))).kept (grownBy_setCell_at _ ⟨ag, m, none⟩ (.int .u8 ((x ^^^ 1).toNat : Int))) (fun e2 => HGA2.out (by injection e2)) (fun e2 => HWA2.out (by injection e2))).kept (grownBy_setCell_at _ ⟨XG, 1, none⟩ (.int .i64 ((m + 1 : Nat) : Int))) (fun e2 => HGX.out (by injection e2)) (fun e2 => HWX.out (by injection e2))))) (by rw [HLE.out]; exact HLT.out)
            · have hgtI : ¬ (K : Int) > (SY : Int) := by omega
              go_wp2_with fail
              have b2 := b1.set_ 1 (.int .i64 (K : Int))
              obtain ⟨hD9, hK9⟩ := crash_any HDB.out (e := e) (A := Ae) (K := K) (b' := (e.b.take K)) HEL.out (((Kb.refl wb _).setCell (by simp [HXG.out]) _).setCell (by simp [HXG.out]) _) (HXG.out ▸ b2) (((HO0.out.keep (w' := wb.setCell ⟨XG, 0, none⟩ (.slice Ae K K)) fun g hg => Below.heap_setCell wb _ _ g (HNB.out g (HOW.out g hg))).keep (w' := (wb.setCell ⟨XG, 0, none⟩ (.slice Ae K K)).setCell ⟨XG, 1, none⟩ (.int .i64 (K : Int))) fun g hg => Below.heap_setCell _ _ _ g (HNB.out g (HOW.out g hg))).cast rfl (bys_take e.b K).symm) (by rw [List.length_take]; have := HNE.out; omega) (by have := HNE.out; omega) HOW.out
              have HX := Shut.mk (show mid T (fun z => left z && !z.sameKey (.string s.data.toList)) es = setE (mid T left es) ⟨e.key, e.g, .slice Ae K K, (e.b.take K), K⟩ by
                rw [HMS.out]
                congr 1
                have e1 : T e.key = t := by rw [HKE.out, HTS.out]
                have e2 : crashN t e.b.length e.syn = K := by rw [HKK.out, HNE.out, HSYE.out]
                have e3 : crashB t e.b e.syn = (e.b.take K) := by
                  unfold crashB
                  rw [e2, ← HTN.out, ← HSYE.out]
                  rw [if_neg (by simp; omega)]
                unfold crashE
                rw [e1, e2, e3, HVE.out]
                rfl)
              rw [← HX.out] at hD9
              go_roundw
              case rel => exact ⟨_, cnt1, ((HRB.out.kept (grownBy_setCell' wb XG (.slice Ae K K)) (fun e2 => HGX.out (by injection e2)) (fun e2 => HWX.out (by injection e2))).kept (grownBy_setCell_at _ ⟨XG, 1, none⟩ (.int .i64 (K : Int))) (fun e2 => HGX.out (by injection e2)) (fun e2 => HWX.out (by injection e2))), hD9, HKB.out.trans hK9 (fun y hy => .inl (mid_foot _ hy))⟩
              case measure => rw [(((HRB.out.kept (grownBy_setCell' wb XG (.slice Ae K K)) (fun e2 => HGX.out (by injection e2)) (fun e2 => HWX.out (by injection e2))).kept (grownBy_setCell_at _ ⟨XG, 1, none⟩ (.int .i64 (K : Int))) (fun e2 => HGX.out (by injection e2)) (fun e2 => HWX.out (by injection e2))) : World.ranges _ _ _ _ _ _ _ _ _ _).left_eq, HLE.out]; exact HLT.out
  case stop =>
    rintro D c pre W _ _ h _
    exact h.elim
end
end Go.Proofs.YtmlfeljhojmbbaaGreatDoor
