/- Walks: the small functions beneath SHA-256. -/
import Derived.Test.YtmlfeljhojmbbaaGreatDoorPsha
import Derived.Test.YtmlfeljhojmbbaaGreatDoorMem
import Derived.Deep.QuietTactic
import Derived.BigQuiet
import Derived.RegionTactic
namespace Go.Proofs.YtmlfeljhojmbbaaGreatDoor
open Go.RowKit
set_option linter.unusedSimpArgs false
set_option linter.unusedVariables false
set_option maxRecDepth 100000

/-- a quiet callee behind draws that were there before the region -/
theorem quiet_more {P : Program} {f : FuncId} {args : Array Value} {w : World} {a n : Nat} {v : Value}
    (h : Calls P f args (w.drewN (a + n)) fun e w' => e = .returned v ∧ ∃ m, w' = (w.drewN (a + n)).drewN m) :
    Calls P f args (w.drewN (a + n)) fun e w'' => e = .returned v ∧ ∃ m, w'' = w.drewN (a + m) :=
  h.mono fun _ _ ⟨he, m, hm⟩ => ⟨he, n + m, by rw [hm, World.drewN_drewN, Nat.add_assoc]⟩
theorem quiet_more_same {P : Program} {f : FuncId} {args : Array Value} {w : World} {a n : Nat} {v : Value}
    (h : Calls P f args (w.drewN (a + n)) fun e w' => e = .returned v ∧ w.drewN (a + n) = w') :
    Calls P f args (w.drewN (a + n)) fun e w'' => e = .returned v ∧ ∃ m, w'' = w.drewN (a + m) :=
  h.mono fun _ _ ⟨he, hm⟩ => ⟨he, n, hm.symm⟩
theorem quiet_same {P : Program} {f : FuncId} {args : Array Value} {w : World} {n : Nat} {v : Value}
    (h : Calls P f args (w.drewN n) fun e w' => e = .returned v ∧ w.drewN n = w') : Calls P f args (w.drewN n) fun e w'' => e = .returned v ∧ ∃ m, w'' = w.drewN m :=
  h.mono fun _ _ ⟨he, hm⟩ => ⟨he, n, hm.symm⟩
set_option maxHeartbeats 400000 in
theorem rotl_any (x : BitVec 32) (k : Int) (s : Nat) (w : World) (hs : bits .and .u64 (IntKind.u64.wrap k) (31 : Int) = (s : Int)) (h1 : 1 ≤ s) (h2 : s ≤ 31) :
    Calls Tryz.prog 115 #[.int .u32 (x.toNat : Int), .int .i64 k] w fun e w' => e = .returned (.int .u32 ((Psha.rotr x (32 - s)).toNat : Int)) ∧ w = w' := by
  have HX := Shut.mk (Psha.rotl_walk x s (by omega))
  go_enter Tryz.func115, Tryz.ntmps115
  go_wp2
  go_ret
  exact ⟨by rw [← HX.out]; rfl, rfl⟩
set_option maxHeartbeats 400000 in
theorem right_any (x : BitVec 32) (n : Nat) (w : World) (h1 : 1 ≤ n) (h2 : n ≤ 31) :
    Calls Tryz.prog 141 #[.int .u32 (x.toNat : Int), .int .i64 (n : Int)] w fun e w' => e = .returned (.int .u32 ((Psha.rotr x n).toNat : Int)) ∧ ∃ m, w' = w.drewN m := by
  have HX := Shut.mk (Psha.rotr_walk x n)
  go_enter Tryz.func141, Tryz.ntmps141
  go_wp2
  go_quiet (fail)
  go_wp2
  go_ret
  exact ⟨by rw [← HX.out]; rfl, _, rfl⟩
set_option maxHeartbeats 400000 in
theorem word_any (ad : Addr) (cap : Nat) (a b c d : UInt8) (n : Nat) (w : World) (hn : 4 ≤ n) (h0 : w.cell? (ad.add 0) = some (.int .u8 (a.toNat : Int))) (h1 : w.cell? (ad.add 1) = some (.int .u8 (b.toNat : Int))) (h2 : w.cell? (ad.add 2) = some (.int .u8 (c.toNat : Int))) (h3 : w.cell? (ad.add 3) = some (.int .u8 (d.toNat : Int))) :
    Calls Tryz.prog 147 #[.slice (some ad) n cap] w fun e w' => e = .returned (.int .u32 ((Psha.word a b c d).toNat : Int)) ∧ ∃ m, w' = w.drewN m := by
  have j0 : 0 < n := by omega
  have j1 : 1 < n := by omega
  have j2 : 2 < n := by omega
  have j3 : 3 < n := by omega
  have i1 : (1 : Int) < (n : Int) := by omega
  have i2 : (2 : Int) < (n : Int) := by omega
  have i3 : (3 : Int) < (n : Int) := by omega
  have hc0 : w.cell? ad = some (.int .u8 (a.toNat : Int)) := h0
  have hc1 : w.cell? ⟨ad.block, ad.off + 1, none⟩ = some (.int .u8 (b.toNat : Int)) := h1
  have hc2 : w.cell? ⟨ad.block, ad.off + 2, none⟩ = some (.int .u8 (c.toNat : Int)) := h2
  have hc3 : w.cell? ⟨ad.block, ad.off + 3, none⟩ = some (.int .u8 (d.toNat : Int)) := h3
  clear h0 h1 h2 h3
  go_enter Tryz.func147, Tryz.ntmps147
  go_wp2
  go_quiet (fail)
  go_wp2
  go_ret
  exact ⟨by rw [← Psha.word_walk]; rfl, _, rfl⟩
theorem right_int (x : BitVec 32) (n : Int) (w : World) (h1 : 1 ≤ n) (h2 : n ≤ 31) :
    Calls Tryz.prog 141 #[.int .u32 (x.toNat : Int), .int .i64 n] w fun e w' => e = .returned (.int .u32 ((Psha.rotr x n.toNat).toNat : Int)) ∧ ∃ m, w' = w.drewN m := by
  obtain ⟨k, rfl⟩ := Int.eq_ofNat_of_zero_le (show 0 ≤ n by omega)
  exact right_any x k w (by omega) (by omega)
theorem and31 (a : Nat) (h1 : 1 ≤ a) (h2 : a ≤ 31) : bits .and .u64 (IntKind.u64.wrap (-(a : Int))) (31 : Int) = ((32 - a : Nat) : Int) := by
  have h : ∀ k : Fin 32, 1 ≤ k.val → bits .and .u64 (IntKind.u64.wrap (-(k.val : Int))) (31 : Int) = ((32 - k.val : Nat) : Int) := by decide +kernel
  exact h ⟨a, by omega⟩ h1
theorem rotl_neg (x : BitVec 32) (n : Nat) (w : World) (h1 : 1 ≤ n) (h2 : n ≤ 31) :
    Calls Tryz.prog 115 #[.int .u32 (x.toNat : Int), .int .i64 (-(n : Int))] w fun e w' => e = .returned (.int .u32 ((Psha.rotr x n).toNat : Int)) ∧ w = w' := by
  have h := rotl_any x (-(n : Int)) (32 - n) w (and31 n h1 h2) (by omega) (by omega)
  rw [show 32 - (32 - n) = n from by omega] at h
  exact h
set_option maxHeartbeats 400000 in
theorem turn_any (x y : BitVec 32) (a b : Nat) (w : World) (a1 : 1 ≤ a) (a2 : a ≤ 31) (b1 : 1 ≤ b) (b2 : b ≤ 31) :
    Calls Tryz.prog 114 #[.int .u32 (x.toNat : Int), .int .i64 (a : Int), .int .i64 (b : Int), .int .u32 (y.toNat : Int)] w fun e w' => e = .returned (.int .u32 (((Psha.rotr x a ^^^ Psha.rotr x b) ^^^ y).toNat : Int)) ∧ w = w' := by
  have H1 := Shut.mk (Pcrc.xor_u32 (Psha.rotr x a) (Psha.rotr x b))
  have H2 := Shut.mk (Pcrc.xor_u32 (Psha.rotr x a ^^^ Psha.rotr x b) y)
  go_enter Tryz.func114, Tryz.ntmps114
  go_wp2_with fail
  refine (rotl_neg x a _ a1 a2).mono ?_
  rintro e w' ⟨rfl, rfl⟩
  go_wp2_with fail
  refine (rotl_neg x b _ b1 b2).mono ?_
  rintro e w' ⟨rfl, rfl⟩
  go_wp2
  go_ret
  exact ⟨by rw [← H2.out, ← H1.out]; rfl, rfl⟩
end Go.Proofs.YtmlfeljhojmbbaaGreatDoor
