/- Walks: isName, and what it calls. -/
import Derived.Test.YtmlfeljhojmbbaaGreatDoorDisk2
import Derived.WalkKit
import Derived.Laws.IdiomStrings
namespace Go.Proofs.YtmlfeljhojmbbaaGreatDoor
open Go.RowKit Go.Maps
set_option linter.unusedSimpArgs false
set_option linter.unusedVariables false
set_option maxRecDepth 100000

/-- a byte that no file's name has -/
def oddB (x : UInt8) : Bool := (decide (x < 97) || decide (x > 122)) && (decide (x < 48) || decide (x > 57)) && (x != 45) && (x != 46)
def nameOk (s : List UInt8) : Bool := decide (0 < s.length) && decide (s.length ≤ 32) && !s.any oddB
theorem odd_calls (x : UInt8) (w : World) : Calls Tryz.prog 95 #[.int .u8 (x.toNat : Int)] w fun e w' => e = .returned (.bool (oddB x)) ∧ w = w' := by
  have hx : oddB x = ((decide ((x.toNat : Int) < 97) || decide ((x.toNat : Int) > 122)) && (decide ((x.toNat : Int) < 48) || decide ((x.toNat : Int) > 57)) && !((x.toNat : Int) == 45) && !((x.toNat : Int) == 46)) := by
    unfold oddB
    have e1 : (x < 97) = ((x.toNat : Int) < 97) := by rw [UInt8.lt_iff_toNat_lt]; simp; omega
    have e2 : (x > 122) = ((x.toNat : Int) > 122) := by rw [gt_iff_lt, UInt8.lt_iff_toNat_lt]; simp; omega
    have e3 : (x < 48) = ((x.toNat : Int) < 48) := by rw [UInt8.lt_iff_toNat_lt]; simp; omega
    have e4 : (x > 57) = ((x.toNat : Int) > 57) := by rw [gt_iff_lt, UInt8.lt_iff_toNat_lt]; simp; omega
    have e5 : (x != 45) = !((x.toNat : Int) == 45) := by
      have : (x = 45) ↔ ((x.toNat : Int) = 45) := by rw [← UInt8.toNat_inj]; simp; omega
      rw [Bool.eq_iff_iff]
      simp [this]
    have e6 : (x != 46) = !((x.toNat : Int) == 46) := by
      have : (x = 46) ↔ ((x.toNat : Int) = 46) := by rw [← UInt8.toNat_inj]; simp; omega
      rw [Bool.eq_iff_iff]
      simp [this]
    simp only [e1, e2, e3, e4, e5, e6]
  rw [hx]
  generalize (x.toNat : Int) = z
  clear hx
  go_enter Tryz.func95, Tryz.ntmps95
  go_wp2_with fail
  all_goals go_ret
  all_goals refine ⟨?_, rfl⟩
  all_goals refine congrArg (fun b => Ending.returned (Value.bool b)) ?_
  all_goals first
    | rfl
    | (rw [Bool.eq_iff_iff]; simp; done)
    | (rw [Bool.eq_iff_iff]; simp; omega)
    | simp_all
/-- a closure that reads nothing of its surroundings -/
abbrev oddV : Value := .func (.func 95) #[] #[]
theorem any_take (p : UInt8 → Bool) (l : List UInt8) (k : Nat) (h : k < l.length) : (l.take (k + 1)).any p = ((l.take k).any p || p (l.getD k 0)) := by
  rw [take_snoc l k h 0, List.any_append]
  simp
theorem any_take_le (p : UInt8 → Bool) (l : List UInt8) (k : Nat) (h : (l.take k).any p = true) : l.any p = true := by
  rw [List.any_eq_true] at h ⊢
  obtain ⟨x, hx, hp⟩ := h
  exact ⟨x, List.mem_of_mem_take hx, hp⟩
theorem index_calls (A : Option Addr) (c : Nat) (l : List UInt8) (w : World) (hr : RdB w A l) (hl : l.length ≤ reach) :
    Calls Tryz.prog 110 #[.slice A l.length c, oddV] w fun e w' => ∃ i : Int, e = .returned (.int .i64 i) ∧ (decide (0 ≤ i) = l.any oddB) ∧ w = w' := by
  unfold reach at hl
  have HR := Shut.mk hr
  clear hr
  go_enter Tryz.func110, Tryz.ntmps110
  go_wp2_with fail
  go_loopw [8] (fun i wr => w = wr ∧ ∃ k : Nat, k ≤ l.length ∧ i = .int .i64 k ∧ (l.take k).any oddB = false) (fun i _ => l.length - (intOf i).toNat)
  case atStart => exact ⟨rfl, 0, Nat.zero_le _, rfl, by simp⟩
  case round =>
    obtain ⟨rfl, k, hk, rfl, hno⟩ := hrel
    by_cases hlt : k < l.length
    · obtain ⟨ad, rfl, hc⟩ := HR.out k hlt
      have HA := Shut.mk (any_take oddB l k hlt)
      have HU := Shut.mk (any_take_le oddB l (k + 1))
      generalize l.getD k 0 = x at hc HA
      go_wp2_with fail
      refine (odd_calls x w).mono ?_
      rintro e w' ⟨rfl, rfl⟩
      cases ho : oddB x with
      | true =>
        go_wp2_with fail
        go_ret
        exact ⟨(k : Int), rfl, by rw [HU.out (by rw [HA.out, ho, Bool.or_true])]; simp, rfl⟩
      | false =>
        go_wp2_with fail
        go_roundw
        case rel => exact ⟨True.intro, k + 1, by omega, by go_num, by rw [HA.out, hno, ho]; rfl⟩
        case measure => simp [intOf]; omega
    · obtain rfl : k = l.length := by omega
      rw [List.take_length] at hno
      go_wp2_with fail
      go_ret
      exact ⟨-1, rfl, by rw [hno]; rfl, rfl⟩
theorem contains_calls (A : Option Addr) (c : Nat) (l : List UInt8) (w : World) (hr : RdB w A l) (hl : l.length ≤ reach) :
    Calls Tryz.prog 96 #[.slice A l.length c, oddV] w fun e w' => e = .returned (.bool (l.any oddB)) ∧ w = w' := by
  go_enter Tryz.func96, Tryz.ntmps96
  go_wp2_with fail
  refine (index_calls A c l w hr hl).mono ?_
  rintro e w' ⟨i, rfl, hi, rfl⟩
  go_wp2_with fail
  go_ret
  rw [← hi]
  exact ⟨rfl, rfl⟩
theorem conv_bytes (s : ByteArray) (w : World) : ∃ c W1, (convert 9 27 (.string s)).run Tryz.prog w = .ok (.slice (some ⟨w.heap.size, 0, none⟩) s.data.toList.length c) W1 ∧ RdB W1 (some ⟨w.heap.size, 0, none⟩) s.data.toList ∧ Below w.heap.size w W1 := by
  refine ⟨_, _, run_bytes_of_string (P := Tryz.prog) w 9 27 5 s Tryz.underlying9 Tryz.underlying27 Tryz.underlying5, fun k hk => ⟨_, rfl, ?_⟩, ((Below.refl _ w).drew).alloc (Nat.le_refl _) _⟩
  have hrow := cell_of_row _ w.heap.size k _ _ _ (show (w.drew.alloc (.cells (bytesRow s (grownCap w s.size 0 5)) 5 ((bytesRow s (grownCap w s.size 0 5)).size, (bytesRow s (grownCap w s.size 0 5)).size + 1))).heap[w.heap.size]? = some _ from heap_alloc_new w.drew _)
  rw [add_head, hrow, bytesRow_at s _ k (by simpa using hk)]
  have hk' : k < s.data.size := by simpa using hk
  have hg : s.data.toList.getD k 0 = s.data[k] := by rw [List.getD_eq_getElem?_getD, Array.getElem?_toList, Array.getElem?_eq_getElem hk']; rfl
  rw [hg]
theorem isName_calls (s : ByteArray) (w : World) (hs : s.size ≤ reach) :
    Calls Tryz.prog 65 #[.string s] w fun e w' => e = .returned (.bool (nameOk s.data.toList)) ∧ Below w.heap.size w w' := by
  obtain ⟨c, W1, hcv, hrb, hbw⟩ := conv_bytes s w
  have hcc := contains_calls (some ⟨w.heap.size, 0, none⟩) c s.data.toList W1 hrb (by simpa using hs)
  have HB := Shut.mk hbw
  have hsz : s.data.toList.length = s.size := by rw [Array.length_toList]; rfl
  unfold nameOk
  rw [hsz]
  rw [hsz] at hcv hcc
  generalize s.data.toList.any oddB = b at hcc ⊢
  clear hrb hbw hsz hs
  have HC := Shut.mk hcc
  clear hcc
  by_cases h1 : 0 < s.size
  · by_cases h2 : s.size ≤ 32
    · have e1 : ((s.size : Int) > 0) := by omega
      have e2 : ((s.size : Int) ≤ 32) := by omega
      rw [decide_eq_true h1, decide_eq_true h2]
      clear h1 h2
      go_enter Tryz.func65, Tryz.ntmps65
      go_wp2_with fail
      refine HC.out.mono ?_
      rintro e w' ⟨rfl, rfl⟩
      go_wp2_with fail
      go_ret
      exact ⟨by simp, HB.out⟩
    · have e1 : ((s.size : Int) > 0) := by omega
      have e2 : ¬ ((s.size : Int) ≤ 32) := by omega
      rw [decide_eq_true h1, decide_eq_false h2]
      clear h1 h2
      go_enter Tryz.func65, Tryz.ntmps65
      go_wp2_with fail
      go_ret
      exact ⟨by simp, Below.refl _ _⟩
  · have e1 : ¬ ((s.size : Int) > 0) := by omega
    rw [decide_eq_false h1]
    clear h1
    go_enter Tryz.func65, Tryz.ntmps65
    go_wp2_with fail
    go_ret
    exact ⟨by simp, Below.refl _ _⟩
end Go.Proofs.YtmlfeljhojmbbaaGreatDoor
