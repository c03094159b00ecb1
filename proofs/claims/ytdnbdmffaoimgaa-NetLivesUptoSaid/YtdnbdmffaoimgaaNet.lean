/- Walks: the net's functions. -/
import Derived.Test.YtdnbdmffaoimgaaMap
import Derived.Test.YtdnbdmffaoimgaaBlk
import Derived.Test.YtdnbdmffaoimgaaKb
import Derived.Test.YtdnbdmffaoimgaaClone
import Derived.Test.YtdnbdmffaoimgaaMake
import Derived.WalkKit
namespace Go.Proofs.Ytdnbdmffaoimgaa
open Go.RowKit Go.Maps
set_option linter.unusedSimpArgs false
set_option linter.unusedVariables false
set_option maxRecDepth 100000

/-- a net: its block gn, its map gm, the last number -/
structure NetAt (w : World) (gn gm last n : Nat) (f : Lit → Option Nat) : Prop where
  blk : Blk w gn 46 #[.map (some gm), .int .i64 (last : Int)]
  map : PM w Try.prog 3 gm n f
theorem NetAt.ne {w : World} {gn gm last n : Nat} {f : Lit → Option Nat} (h : NetAt w gn gm last n f) : gm ≠ gn := by
  intro e
  obtain ⟨D, ⟨es, clock, hh, _⟩, _⟩ := h.map
  have hb := h.blk
  unfold Blk at hb
  rw [e, hb] at hh
  cases hh
def kint (a : Int) : Lit := .int .i64 a
theorem kint_key (a : Int) : WideAt.IsKeyLit (kint a) := by first | trivial | exact True.intro | (unfold kint; simp [WideAt.IsKeyLit])
theorem net_keyed : Keyed Try.prog 3 := int_keyed Try.underlying3
theorem key_int (a : Int) (h1 : -9223372036854775808 ≤ a) (h2 : a ≤ 9223372036854775807) : keyOf Try.prog 3 (.int .i64 a) = some (kint a) :=
  keyOf_int_mk Try.underlying3 (by simp [Lit.wf, IntKind.min, IntKind.max, IntKind.signed, IntKind.bits]; omega)
theorem zero_conn (w : World) : (zeroValue 55).run Try.prog w = .ok (.pointer none) w := by kernel_rfl

theorem new_calls (w : World) : Calls Try.prog 7 #[] w fun e w' => ∃ gn gm, e = .returned (.pointer (some ⟨gn, 0, none⟩)) ∧ NetAt w' gn gm 0 0 (fun _ => none) ∧ Below w.heap.size w w' ∧ w.heap.size ≤ gn ∧ w.heap.size ≤ gm := by
  have hmm := @run_makeMap Try.prog
  go_enter Try.func7, Try.ntmps7
  go_wp2_with fail
  go_ret
  refine ⟨_, w.heap.size, rfl, ⟨?_, (PM.made w _ _).alloc _⟩, ((Below.refl _ w).alloc (Nat.le_refl _) _).alloc (by simp) _, by simp, Nat.le_refl _⟩
  have h := Blk.new (w.alloc (.map #[] 0)) 46 #[.map (some w.heap.size), .int .i64 0]
  rwa [World.size_alloc] at h
/-- of: the connection at a number -/
theorem of_calls (gn gm last n : Nat) (f : Lit → Option Nat) (a : Int) (w : World) (hN : NetAt w gn gm last n f) (h1 : -9223372036854775808 ≤ a) (h2 : a ≤ 9223372036854775807) :
    Calls Try.prog 22 #[.pointer (some ⟨gn, 0, none⟩), .int .i64 a] w fun e w' => e = .returned (match f (kint a) with | none => .tuple #[.pointer none, .int .i64 150] | some g => .tuple #[.pointer (some ⟨g, 0, none⟩), .int .i64 0]) ∧ w = w' := by
  have q0 : w.cell? ⟨gn, 0, none⟩ = some (.map (some gm)) := hN.blk.cell 0
  have q1 : w.cell? ⟨gn, 1, none⟩ = some (.int .i64 (last : Int)) := hN.blk.cell 1
  have hmn := fun w : World => run_eql_map_nil (P := Try.prog) w 44 3 55 (some gm) Try.underlying44
  have hlk := hN.map.look net_keyed Try.underlying44 (zero_conn w) (key_int a h1 h2) (kint_key a)
  cases hf : f (kint a) with
  | none =>
    rw [hf] at hlk
    have hlk' : (Instr.lookup 44 (.map (some gm)) (.int .i64 a) false).run Try.prog w = .ok (.pointer none) w := hlk
    clear hlk
    go_enter Try.func22, Try.ntmps22
    go_wp2_with fail
    go_ret2
    exact ⟨rfl, rfl⟩
  | some g =>
    rw [hf] at hlk
    have hlk' : (Instr.lookup 44 (.map (some gm)) (.int .i64 a) false).run Try.prog w = .ok (.pointer (some ⟨g, 0, none⟩)) w := hlk
    clear hlk
    go_enter Try.func22, Try.ntmps22
    go_wp2_with fail
    go_ret2
    exact ⟨rfl, rfl⟩
theorem dial_calls (gn gm last n : Nat) (f : Lit → Option Nat) (a : Int) (w : World) (hN : NetAt w gn gm last n f) (h1 : 0 ≤ a) (h2 : a ≤ 4294967295) (hl : last < 1000000000) (hn : n < 1000000000) :
    Calls Try.prog 8 #[.pointer (some ⟨gn, 0, none⟩), .int .i64 a] w fun e w' => ∃ gc, e = .returned (.tuple #[.int .i64 ((last : Int) + 1), .int .i64 0]) ∧ w.heap.size ≤ gc ∧
      NetAt w' gn gm (last + 1) (n + 1) (turned f (kint ((last : Int) + 1)) (some gc)) ∧ Blk w' gc 57 #[.int .i64 a, .slice none 0 0] ∧ Kb w w' [gn, gm] := by
  have q0 : w.cell? ⟨gn, 0, none⟩ = some (.map (some gm)) := hN.blk.cell 0
  have q1 : w.cell? ⟨gn, 1, none⟩ = some (.int .i64 (last : Int)) := hN.blk.cell 1
  have f0 := hN.blk.free 0
  have f1 := hN.blk.free 1
  have hmn := fun w : World => run_eql_map_nil (P := Try.prog) w 44 3 55 (some gm) Try.underlying44
  go_enter Try.func8, Try.ntmps8
  go_wp2_with fail
  have hb1 := hN.blk.set_ 1 (.int .i64 ((last : Int) + 1))
  have hm1 := hN.map.setCell (a := ⟨gn, 1, none⟩) hN.ne (.int .i64 ((last : Int) + 1))
  have hk1 : Kb w (w.setCell ⟨gn, 1, none⟩ (.int .i64 ((last : Int) + 1))) [gn, gm] := (Kb.refl w _).setCell (by simp) _
  have hs1 : (w.setCell ⟨gn, 1, none⟩ (.int .i64 ((last : Int) + 1))).heap.size = w.heap.size := by simp
  generalize w.setCell ⟨gn, 1, none⟩ (.int .i64 ((last : Int) + 1)) = W1 at hb1 hm1 hk1 hs1 ⊢
  have c0 : W1.cell? ⟨gn, 0, none⟩ = some (.map (some gm)) := hb1.cell 0
  have c1 : W1.cell? ⟨gn, 1, none⟩ = some (.int .i64 ((last : Int) + 1)) := hb1.cell 1
  have hne := hN.ne
  have hgl := hb1.lt
  have hm2 : PM (W1.alloc (.cells #[.int .i64 a, .slice none 0 0] 57)).drew Try.prog 3 gm n f := by
    obtain ⟨D, h, hf⟩ := hm1
    exact ⟨D, (h.alloc _).drew, hf⟩
  obtain ⟨W2, hup, hpm, hg2⟩ := hm2.update _ net_keyed Try.underlying44 (by unfold maxLen; omega) w.heap.size (key_int ((last : Int) + 1) (by omega) (by omega))
  have hup' : (Instr.mapUpdate 44 (.map (some gm)) (.int .i64 ((last : Int) + 1)) (.pointer (some ⟨w.heap.size, 0, none⟩))).run Try.prog (W1.alloc (.cells #[.int .i64 a, .slice none 0 0] 57)).drew = .ok () W2 := hup
  have hba := hb1.alloc (.cells #[.int .i64 a, .slice none 0 0] 57)
  have d0 : (W1.alloc (.cells #[.int .i64 a, .slice none 0 0] 57)).cell? ⟨gn, 0, none⟩ = some (.map (some gm)) := hba.cell 0
  have d1 : (W1.alloc (.cells #[.int .i64 a, .slice none 0 0] 57)).cell? ⟨gn, 1, none⟩ = some (.int .i64 ((last : Int) + 1)) := hba.cell 1
  clear hup
  have hb2 : Blk W2 gn 46 #[.map (some gm), .int .i64 ((last : Int) + 1)] := Blk.grown (w := (W1.alloc (.cells #[.int .i64 a, .slice none 0 0] 57)).drew) hba hg2 (Ne.symm hne)
  have r0 : W2.cell? ⟨gn, 0, none⟩ = some (.map (some gm)) := hb2.cell 0
  have r1 : W2.cell? ⟨gn, 1, none⟩ = some (.int .i64 ((last : Int) + 1)) := hb2.cell 1
  have hgm := hm1.lt
  have hbc : Blk W2 w.heap.size 57 #[.int .i64 a, .slice none 0 0] := Blk.grown (w := (W1.alloc (.cells #[.int .i64 a, .slice none 0 0] 57)).drew) (by rw [← hs1]; exact Blk.new W1 _ _) hg2 (by omega)
  have hk2 : Kb w W2 [gn, gm] := Kb.grown (w' := (W1.alloc (.cells #[.int .i64 a, .slice none 0 0] 57)).drew) (by have h := hk1.alloc (.cells #[.int .i64 a, .slice none 0 0] 57); exact ⟨h.os, h.tape, h.output, h.size, h.block⟩) hg2 (by simp)
  go_region
  go_wp2_with fail
  go_ret2
  exact ⟨w.heap.size, rfl, Nat.le_refl _, ⟨hb2, hpm⟩, hbc, hk2⟩
end Go.Proofs.Ytdnbdmffaoimgaa
