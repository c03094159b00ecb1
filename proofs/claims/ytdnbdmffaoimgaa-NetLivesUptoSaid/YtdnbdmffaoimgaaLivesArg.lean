/- Opening a law's argument that is a list of calls of a net, and what the bound on bulk gives; the law NetLives over it. -/
import Derived.Test.YtdnbdmffaoimgaaLivesW
import Derived.Test.YtdnbdmffaoimgaaBulk
import Derived.Lib.SmallJoins
namespace Go.Proofs.Ytdnbdmffaoimgaa
open Go.ChangeShapes Go.WideShapes Go.ChangeAt Go.RowKit Go.Joins Go.Deep
set_option linter.unusedVariables false
set_option maxRecDepth 100000

section
variable {H : Type} {enc : TypeId × Value → H} {P : Program} {w : World} {base : Nat} {spare : Nat → Bool} {held : Bool}
theorem list3 {α : Type} {cs : List α} (h : cs.length = 3) : ∃ c0 c1 c2, cs = [c0, c1, c2] := by
  match cs, h with
  | [c0, c1, c2], _ => exact ⟨c0, c1, c2, rfl⟩
theorem trod3 {t : TypeId} {f0 f1 f2 : Field} {fuel : Nat} {c0 c1 c2 : Value} {x : DataW H × List MemPlace} (ht : P.underlying t = some (.struct #[f0, f1, f2])) (hone : oneCellFields P #[f0, f1, f2] = true)
    (h : DataW.trod enc P w base spare held fuel t [c0, c1, c2] = some x) :
    ∃ y0 y1 y2 n, DataW.trod enc P w base spare held n f0.type [c0] = some y0 ∧ DataW.trod enc P w base spare held n f1.type [c1] = some y1 ∧ DataW.trod enc P w base spare held n f2.type [c2] = some y2 ∧ x.1 = .agg [y0.1, y1.1, y2.1] := by
  obtain ⟨xs, n, _, rfl, hl, hlen, hf⟩ := DataW.trod_struct ht h
  obtain ⟨o0, k0⟩ := hone_of hone 0 f0 rfl
  obtain ⟨o1, k1⟩ := hone_of hone 1 f1 rfl
  obtain ⟨o2, k2⟩ := hone_of hone 2 f2 rfl
  obtain ⟨y0, y1, y2, rfl⟩ := list3 hlen
  exact ⟨y0, y1, y2, n, by simpa [o0, k0] using hf 0 f0 rfl, by simpa [o1, k1] using hf 1 f1 rfl, by simpa [o2, k2] using hf 2 f2 rfl, rfl⟩
end
theorem bulk_sum {H : Type} (f : Nat → Nat) (D : Nat → DataW H) : ∀ l : List Nat, (∀ i ∈ l, f i ≤ Rows.uptoBulk (D i)) → (l.map f).sum ≤ Rows.uptoBulkAll (l.map D)
  | [], _ => by simp
  | x :: r, h => by
    have h1 := h x (List.mem_cons_self ..)
    have h2 := bulk_sum f D r (fun i hi => h i (List.mem_cons_of_mem _ hi))
    simp only [List.map_cons, List.sum_cons, Rows.uptoBulkAll]
    omega
def ArgD (w : World) (v : Value) (ds : List Dox) : Prop :=
  ∃ Al cl, v = .slice Al ds.length cl ∧ RdDo w Al ds ∧ ds.length ≤ cl ∧ cl ≤ maxLen ∧ tot ds ds.length ≤ 1048576
theorem do_cells {H : Type} {enc : TypeId × Value → H} {W : World} {base : Nat} {spare : Nat → Bool} {held : Bool} {fuel : Nat} {c0 c1 c2 : Value} {d : DataW H} {ps : List MemPlace}
    (h : DataW.trod enc Try.prog W base spare held fuel 43 [c0, c1, c2] = some (d, ps)) :
    ∃ (x y : Int) (B : Option Addr) (l : List UInt8) (c : Nat), c0 = .int .i64 x ∧ c1 = .int .i64 y ∧ c2 = .slice B l.length c ∧ RdB W B l ∧ -9223372036854775808 ≤ y ∧ y ≤ 9223372036854775807 ∧ l.length ≤ Rows.uptoBulk d := by
  obtain ⟨y0, y1, y2, n, h0, h1, h2, hx⟩ := trod3 Try.underlying43 (by kernel_rfl) h
  obtain ⟨x, e0, _, _⟩ := DataW.trod_int Try.underlying3 h0
  obtain ⟨y, e1, _, hw⟩ := DataW.trod_int Try.underlying3 h1
  obtain ⟨B, l, c, e2, hr, hl⟩ := bytes_cell Try.underlying29 Try.underlying5 (by kernel_rfl) (h2.trans (by rfl))
  simp at e0 e1
  have hb : -9223372036854775808 ≤ y ∧ y ≤ 9223372036854775807 := by
    simp [Lit.wf, IntKind.min, IntKind.max, IntKind.signed, IntKind.bits] at hw
    omega
  refine ⟨x, y, B, l, c, e0, e1, e2, hr, hb.1, hb.2, ?_⟩
  simp only at hx
  rw [hx]
  simp only [Rows.uptoBulk, Rows.uptoBulkAll]
  omega
theorem open_dos {H : Type} {enc : TypeId × Value → H} {W : World} {base base' : Nat} {spare : Nat → Bool} {held : Bool} {r : Reach} {v : Value} {d : DataW H} {ps : List MemPlace} {ts : List TypeId} {ds : List (DataW H)} {j : Nat} {t : TypeId}
    (hk : Rows.uptoSmall H ds = true) (hsz : (DataW.weightsEach Try.prog ts ds).all (· ≤ reachBytes) = true) (ht : ts[j]? = some t) (hd : ds[j]? = some d)
    (hv : Value.okWide Try.prog W r base' 49 v) (h : DataW.Trod enc Try.prog W base spare held 49 v d ps) (lt : ∀ x ∈ ps, x.block < W.heap.size) : ∃ ds, ArgD W v ds := by
  obtain ⟨a, len, cap, rfl⟩ := okWide_slice Try.underlying49 hv
  obtain ⟨fuel, hf⟩ := h
  have hb : Rows.uptoBulkAll ds ≤ 1048576 := of_decide_eq_true hk
  have hbd : Rows.uptoBulk d ≤ 1048576 := Nat.le_trans (bulk_part (List.mem_of_getElem? hd)) hb
  rcases Go.Deep.open_slice Try.underlying49 hf with ⟨hcs, _⟩ | ⟨x, l, c, m, n, D, Pl, hcs, _, hl, hm, hmm, hx, hV⟩
  · simp [Value.cells] at hcs
    obtain ⟨rfl, rfl, rfl⟩ := hcs
    exact ⟨[], none, 0, rfl, fun k d hk => by simp at hk, Nat.le_refl _, by simp [maxLen], by simp [tot]⟩
  · simp [Value.cells] at hcs
    obtain ⟨rfl, rfl, rfl⟩ := hcs
    obtain ⟨hx, _⟩ := Prod.mk.inj hx
    subst hx
    have hle : len ≤ m := by rw [hmm]; split <;> omega
    have hC : (Try.prog).cellsOf 43 = 3 := by kernel_rfl
    obtain ⟨f, hfp⟩ := Go.Deep.choose_lt (α := Dox) (n := len) (p := fun i d => ∃ (B : Option Addr) (c : Nat), W.cell? (x.add (i * 3)) = some (.int .i64 d.1) ∧ W.cell? ⟨(x.add (i * 3)).block, (x.add (i * 3)).off + 1, none⟩ = some (.int .i64 d.2.1) ∧
        W.cell? ⟨(x.add (i * 3)).block, (x.add (i * 3)).off + 2, none⟩ = some (.slice B d.2.2.length c) ∧ RdB W B d.2.2 ∧ -9223372036854775808 ≤ d.2.1 ∧ d.2.1 ≤ 9223372036854775807 ∧ d.2.2.length ≤ Rows.uptoBulk (D i)) (fun i hi => by
      obtain ⟨cs, h1, h2⟩ := hV i (by omega)
      rw [hC] at h1
      obtain ⟨_, hlen, hc⟩ := World.cells?_some h1
      obtain ⟨c0, c1, c2, rfl⟩ := list3 hlen
      obtain ⟨a, b, B, l, c, rfl, rfl, rfl, h3, h4, h5, h6⟩ := do_cells h2
      refine ⟨(a, b, l), B, c, ?_, ?_, ?_, h3, h4, h5, h6⟩
      · simpa [Addr.add] using hc 0 (by omega)
      · simpa [Addr.add] using hc 1 (by omega)
      · simpa [Addr.add] using hc 2 (by omega))
    have hlen : ((List.range len).map f).length = len := by simp
    have hsum := bulk_sum (fun i => (f i).2.2.length) D (List.range len) (fun i hi => (hfp i (List.mem_range.1 hi)).choose_spec.choose_spec.2.2.2.2.2.2)
    simp only [Rows.uptoBulk] at hbd
    refine ⟨(List.range len).map f, some x, cap, by rw [hlen], fun k d hk => ?_, by rw [hlen]; exact hl, hm, ?_⟩
    · have hkl : k < len := by have := (List.getElem?_eq_some_iff.1 hk).1; rwa [hlen] at this
      rw [List.getElem?_map, List.getElem?_range hkl] at hk
      have hk' : f k = d := Option.some.inj hk
      obtain ⟨B, c, h1, h2, h3, h4, h5, h6, _⟩ := hfp k hkl
      rw [hk'] at h1 h2 h3 h4 h5 h6
      exact ⟨x, B, c, rfl, h1, h2, h3, h4, h5, h6⟩
    · unfold tot
      rw [List.take_length, List.map_map]
      exact Nat.le_trans hsum (by omega)
theorem netLives_walk (v : Value) (ds : List Dox) (w : World) (hx : ArgD w v ds) :
    Calls Try.prog 6 #[v] w fun e w' => e = .returned (.bool true) ∧ Below w.heap.size w w' := by
  obtain ⟨Al, cl, rfl, h1, h2, h3, h4⟩ := hx
  exact netLives_run Al ds cl w h1 h2 h3 h4
end Go.Proofs.Ytdnbdmffaoimgaa
