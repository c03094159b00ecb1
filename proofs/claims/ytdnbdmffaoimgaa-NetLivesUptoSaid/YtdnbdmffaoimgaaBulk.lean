/- Opening a law's argument that is a list of slices of bytes, and what the bound on bulk gives. -/
import Derived.Test.YtdnbdmffaoimgaaRows
import Derived.Test.YtdnbdmffaoimgaaOpen
import Derived.Test.YtdnbdmffaoimgaaCarries
import Derived.Deep.Slices
namespace Go.Proofs.Ytdnbdmffaoimgaa
open Go.ChangeShapes Go.WideShapes Go.ChangeAt Go.RowKit
set_option linter.unusedVariables false

theorem bulk_part {H : Type} {d : DataW H} : ∀ {l : List (DataW H)}, d ∈ l → Rows.uptoBulk d ≤ Rows.uptoBulkAll l
  | [], h => by cases h
  | x :: r, h => by
    simp only [Rows.uptoBulkAll]
    rcases List.mem_cons.1 h with e | e
    · subst e; omega
    · have := bulk_part e; omega
theorem bulk_one {H : Type} (d : DataW H) : 1 ≤ Rows.uptoBulk d := by
  cases d <;> first | (simp [Rows.uptoBulk]; done) | (rename_i l; cases l <;> simp [Rows.uptoBulk])
theorem bulk_len {H : Type} : ∀ l : List (DataW H), l.length ≤ Rows.uptoBulkAll l
  | [] => by simp [Rows.uptoBulkAll]
  | x :: r => by have := bulk_one x; have := bulk_len r; simp only [Rows.uptoBulkAll, List.length_cons]; omega
theorem bulk_flat {H : Type} (f : Nat → List UInt8) (D : Nat → DataW H) : ∀ l : List Nat, (∀ i ∈ l, (f i).length ≤ Rows.uptoBulk (D i)) → ((l.map f).flatten).length ≤ Rows.uptoBulkAll (l.map D)
  | [], _ => by simp
  | x :: r, h => by
    have h1 := h x (List.mem_cons_self ..)
    have h2 := bulk_flat f D r (fun i hi => h i (List.mem_cons_of_mem _ hi))
    simp only [List.map_cons, List.flatten_cons, List.length_append, Rows.uptoBulkAll]
    omega
theorem bytes_cell {H : Type} {enc : TypeId × Value → H} {P : Program} {W : World} {base : Nat} {spare : Nat → Bool} {held : Bool} {t e : TypeId} {v : Value} {d : DataW H} {ps : List MemPlace} {n : Nat}
    (hu : P.underlying t = some (.slice e)) (he : P.underlying e = some (.int .u8)) (hc : P.cellsOf e = 1) (h : DataW.trod enc P W base spare held n t [v] = some (d, ps)) :
    ∃ (A : Option Addr) (l : List UInt8) (c : Nat), v = .slice A l.length c ∧ RdB W A l ∧ l.length ≤ Rows.uptoBulk d := by
  rcases open_ints hu he hc h with ⟨hcs, _⟩ | ⟨x, l, c, zs, hcs, _, hl, hm, hz, hx, hcell, hwz⟩
  · obtain rfl : v = .slice none 0 0 := by simpa using hcs
    exact ⟨none, [], 0, rfl, fun k hk => by simp at hk, Nat.zero_le _⟩
  · obtain rfl : v = .slice (some x) l c := by simpa using hcs
    obtain ⟨hx, _⟩ := Prod.mk.inj hx
    subst hx
    have hl2 : l ≤ zs.length := by
      rw [hz]
      split
      · exact hl
      · exact Nat.le_refl _
    obtain ⟨bs, hbl, hbr⟩ := rdB_ints hl2 hcell hwz
    subst hbl
    refine ⟨some x, bs, c, rfl, hbr, ?_⟩
    have h1 := bulk_len (lits (H := H) .u8 (zs.take bs.length))
    have h2 : (lits (H := H) .u8 (zs.take bs.length)).length = bs.length := by
      simp [lits]
      omega
    simp only [Rows.uptoBulk]
    omega
def ArgL (w : World) (v : Value) (ls : List (List UInt8)) : Prop :=
  ∃ Al cl, v = .slice Al ls.length cl ∧ RdL w Al ls ∧ ls.length ≤ cl ∧ cl ≤ maxLen ∧ ls.flatten.length ≤ 1048576 ∧ ls.length ≤ 1048576
theorem open_rows {H : Type} {enc : TypeId × Value → H} {W : World} {base base' : Nat} {spare : Nat → Bool} {held : Bool} {r : Reach} {v : Value} {d : DataW H} {ps : List MemPlace} {ts : List TypeId} {ds : List (DataW H)} {j : Nat} {t : TypeId}
    (hk : Rows.uptoSmall H ds = true) (hsz : (DataW.weightsEach Try.prog ts ds).all (· ≤ reachBytes) = true) (ht : ts[j]? = some t) (hd : ds[j]? = some d)
    (hv : Value.okWide Try.prog W r base' 22 v) (h : DataW.Trod enc Try.prog W base spare held 22 v d ps) (lt : ∀ x ∈ ps, x.block < W.heap.size) : ∃ ls, ArgL W v ls := by
  obtain ⟨a, len, cap, rfl⟩ := okWide_slice Try.underlying22 hv
  obtain ⟨fuel, hf⟩ := h
  have hb : Rows.uptoBulkAll ds ≤ 1048576 := of_decide_eq_true hk
  have hbd : Rows.uptoBulk d ≤ 1048576 := Nat.le_trans (bulk_part (List.mem_of_getElem? hd)) hb
  rcases Go.Deep.open_slice1 Try.underlying22 (by kernel_rfl) hf with ⟨hcs, _⟩ | ⟨x, l, c, m, n, V, D, Pl, hcs, _, hl, hm, hmm, hx, hV⟩
  · simp [Value.cells] at hcs
    obtain ⟨rfl, rfl, rfl⟩ := hcs
    exact ⟨[], none, 0, rfl, fun k hk => by simp at hk, Nat.le_refl _, by simp [maxLen], by simp, by simp⟩
  · simp [Value.cells] at hcs
    obtain ⟨rfl, rfl, rfl⟩ := hcs
    obtain ⟨hx, _⟩ := Prod.mk.inj hx
    subst hx
    have hle : len ≤ m := by rw [hmm]; split <;> omega
    obtain ⟨f, hfp⟩ := Go.Deep.choose_lt (α := List UInt8) (n := len) (p := fun i l => ∃ A c, V i = .slice A l.length c ∧ RdB W A l ∧ l.length ≤ Rows.uptoBulk (D i)) (fun i hi => by
      obtain ⟨A, l, c, h1, h2, h3⟩ := bytes_cell Try.underlying29 Try.underlying5 (by kernel_rfl) (hV i (by omega)).2
      exact ⟨l, A, c, h1, h2, h3⟩)
    have hlen : ((List.range len).map f).length = len := by simp
    have hflat := bulk_flat f D (List.range len) (fun i hi => (hfp i (List.mem_range.1 hi)).choose_spec.choose_spec.2.2)
    have hbl := bulk_len ((List.range len).map D)
    simp only [Rows.uptoBulk, List.length_map, List.length_range] at hbd hbl
    refine ⟨(List.range len).map f, some x, cap, by rw [hlen], fun k hk => ?_, by rw [hlen]; exact hl, hm, by omega, by rw [hlen]; omega⟩
    rw [hlen] at hk
    obtain ⟨A, c', h1, h2, _⟩ := hfp k hk
    have e : ((List.range len).map f).getD k [] = f k := by simp [List.getD_eq_getElem?_getD, hk]
    rw [e]
    exact ⟨x, A, c', rfl, by rw [← h1]; exact (hV k (by omega)).1, h2⟩
theorem netCarries_walk (a0 : Int) (v : Value) (ls : List (List UInt8)) (tk : Int) (w : World) (h0 : -9223372036854775808 ≤ a0) (h0' : a0 ≤ 9223372036854775807) (hx : ArgL w v ls) (t0 : 0 ≤ tk) (t1 : tk ≤ 18446744073709551615) :
    Calls Try.prog 3 #[.int .i64 a0, v, .int .u64 tk] w fun e w' => e = .returned (.bool true) ∧ Below w.heap.size w w' := by
  obtain ⟨Al, cl, rfl, h1, h2, h3, h4, h5⟩ := hx
  exact netCarries_run a0 Al ls cl tk w h0 h0' h1 h2 h3 h4 h5 t0 t1
end Go.Proofs.Ytdnbdmffaoimgaa
