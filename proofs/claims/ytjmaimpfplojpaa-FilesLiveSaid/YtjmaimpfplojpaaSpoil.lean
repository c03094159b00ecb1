/- Walk: the statements' Spoil, of one row of bytes: that row's block alone turns. -/
import Derived.Test.YtjmaimpfplojpaaSame
namespace Go.Proofs.Ytjmaimpfplojpaa
open Go.RowKit Go.Maps
set_option linter.unusedSimpArgs false
set_option linter.unusedVariables false
set_option maxRecDepth 100000

set_option maxHeartbeats 1000000 in
theorem spoil_calls (Ag : Nat) (A : Option Addr) (m c : Nat) (l : List UInt8) (w : World) (hrow : w.cell? ⟨Ag, 0, none⟩ = some (.slice A m c)) (ho : Own w 5 1 (.slice A m c) m (bys l)) (hm : m ≤ reach) :
    Calls Try.prog 40 #[.slice (some ⟨Ag, 0, none⟩) 1 1] w fun e w' => e = .returned (.tuple #[]) ∧ Kb w w' (A.map (·.block)).toList := by
  have hlm : l.length = m := by have := ho.1; rw [bys_length] at this; omega
  have HO := Shut.mk ho
  have HLM := Shut.mk hlm
  unfold reach at hm
  clear ho hlm
  go_enter Try.func40, Try.ntmps40
  go_wp2_with fail
  go_loopw [7] (fun i wr => (i = .int .i64 0 ∧ wr = w) ∨ (i = .int .i64 1 ∧ Kb w wr (A.map (·.block)).toList)) (fun i _ => 1 - (intOf i).toNat)
  case atStart => exact .inl ⟨rfl, rfl⟩
  case round =>
    rcases hrel with ⟨rfl, rfl⟩ | ⟨rfl, hk⟩
    · go_wp2_with fail
      go_loopw [13] (fun j wi => ∃ (k : Nat) (l' : List UInt8), k ≤ m ∧ j = .int .i64 k ∧ l'.length = m ∧ Own wi 5 1 (.slice A m c) m (bys l') ∧ Kb wr wi (A.map (·.block)).toList) (fun j _ => m - (intOf j).toNat)
      case atStart => exact ⟨0, l, Nat.zero_le _, rfl, HLM.out, HO.out, Kb.refl _ _⟩
      case round =>
        obtain ⟨k, l', hk, rfl, hl', hoi, hki⟩ := hrel
        have HKI := Shut.mk hki
        by_cases hlt : k < m
        · obtain ⟨g, cap, hg, _⟩ := hoi.head (by omega)
          injection hg with h1 h2 h3
          subst h1
          subst h3
          clear h2
          obtain ⟨x, hx⟩ : ∃ x, x = l'.getD k 0 := ⟨_, rfl⟩
          have c0 := hoi.cell k (bys_get l' k (by omega))
          rw [← hx] at c0
          have cf := hoi.free k
          have hkI : (k : Int) < (m : Int) := by omega
          have hxo : bits .xor .u8 (x.toNat : Int) 255 = ((x ^^^ 255).toNat : Int) := Pcrc.xor_u8 x 255
          have HS := Shut.mk (hoi.set k (.int .u8 ((x ^^^ 255).toNat : Int)))
          have hxn : (x ^^^ 255).toNat = x.toNat ^^^ 255 := rfl
          rw [hxn] at HS
          have HL := Shut.mk hl'
          have HKS := Shut.mk (HKI.out.setCell (p := ⟨g, k, none⟩) (by simp) (.int .u8 ((x.toNat ^^^ 255 : Nat) : Int)))
          have HBS := Shut.mk (bys_set l' k (x ^^^ 255))
          rw [hxn] at HBS
          clear hoi hx hl' hki hxn
          go_wp2_with fail
          go_roundw
          case rel => exact ⟨k + 1, l'.set k (x ^^^ 255), by omega, by go_num, by rw [List.length_set, HL.out], by rw [HBS.out]; exact HS.out, HKS.out⟩
          case measure => simp [intOf]; omega
        · obtain rfl : k = m := by omega
          have hkI : ¬ (k : Int) < (k : Int) := by omega
          go_wp2_with fail
          go_roundw
          case rel => exact .inr ⟨rfl, HKI.out⟩
          case measure => simp [intOf]
    · go_wp2_with fail
      go_end0
      exact ⟨rfl, hk⟩
end Go.Proofs.Ytjmaimpfplojpaa
