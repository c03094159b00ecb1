/- Walks: the document's disk: place, Used, burn, isName, List, Synced, Short, Room, Fuse, New. -/
import Derived.Test.YtjmaimpfplojpaaRd
namespace Go.Proofs.Ytjmaimpfplojpaa
open Go.RowKit Go.Maps
set_option linter.unusedSimpArgs false
set_option linter.unusedVariables false
set_option maxRecDepth 100000

def placeV (R : List RF) (s : List UInt8) : Int := if idxD R s < R.length then (idxD R s : Int) else -1
theorem idx_is {R : List RF} {s : List UInt8} {k : Nat} {c : RF} (hc : R[k]? = some c) (hk : k ≤ idxD R s) (he : c.k.data.toList = s) : idxD R s = k := by
  refine Nat.le_antisymm ?_ hk
  rcases Nat.lt_or_ge k (idxD R s) with h | h
  · have h9 := List.not_of_lt_findIdx h
    have h8 := (List.getElem?_eq_some_iff.1 hc).2
    rw [h8] at h9
    simp [he] at h9
  · exact h
theorem idx_ne {R : List RF} {s : List UInt8} {k : Nat} {c : RF} (hc : R[k]? = some c) (hne : c.k.data.toList ≠ s) : idxD R s ≠ k := by
  intro e
  have h9 : idxD R s < R.length := by rw [e]; exact (List.getElem?_eq_some_iff.1 hc).1
  obtain ⟨d, h1, h2⟩ := rf_at h9
  rw [e, hc] at h1
  injection h1 with h1
  subst h1
  exact hne h2
section
variable {w w' : World} {gx : Nat} {v : Value} {R : List RF} {room short fuse : Int}
set_option maxHeartbeats 1000000 in
theorem dplace_calls (hR : RdAt w gx v R room short fuse) (s : ByteArray) (hl : R.length < 1000000) :
    Calls Try.prog 61 #[.pointer (some ⟨gx, 0, none⟩), .string s] w fun e w' => e = .returned (.int .i64 (placeV R s.data.toList)) ∧ Below w.heap.size w w' := by
  obtain ⟨N, hN⟩ : ∃ N, N = R.length := ⟨_, rfl⟩
  have ho := hR.own
  have q0 : w.cell? ⟨gx, 0, none⟩ = some v := hR.blk.cell 0
  unfold placeV
  rw [← hN] at ho hl ⊢
  obtain ⟨A, c, rfl, hrd, hac, hcm, _⟩ := ho.form
  have HRD := Shut.mk hrd
  have HN := Shut.mk hN
  have hle : idxD R s.data.toList ≤ N := by rw [hN]; exact List.findIdx_le_length
  unfold maxLen at hcm
  obtain ⟨z, hz⟩ : ∃ z, z = (if idxD R s.data.toList < N then (idxD R s.data.toList : Int) else -1) := ⟨_, rfl⟩
  rw [← hz]
  have HZ := Shut.mk hz
  clear hR ho hrd hN hz
  go_enter Try.func61, Try.ntmps61
  go_wp2_with fail
  go_loopw [12] (fun i wr => ∃ k : Nat, k ≤ idxD R s.data.toList ∧ i = .int .i64 k ∧ Below w.heap.size w wr) (fun i _ => N - (intOf i).toNat)
  case atStart => exact ⟨0, Nat.zero_le _, rfl, Below.refl _ _⟩
  case round =>
    obtain ⟨k, hk, rfl, hbr⟩ := hrel
    have HBR := Shut.mk hbr
    by_cases hlt : k < N
    · obtain ⟨cc, hcc⟩ : ∃ cc, R[k]? = some cc := ⟨R[k]'(by rw [← HN.out]; exact hlt), List.getElem?_eq_getElem _⟩
      obtain ⟨ad, rfl, d0, d1, d2⟩ := rf_cells HRD.out hcc hbr
      have hkI : (k : Int) < (N : Int) := by omega
      by_cases hid : cc.k.data.toList = s.data.toList
      · have hix := idx_is hcc hk hid
        have hq : (cc.k.toList == s.toList) = true := by rw [str_eq, decide_eq_true hid]
        have hz := HZ.out
        rw [hix, if_pos hlt] at hz
        subst hz
        go_wp2_with fail
        go_ret
        exact ⟨rfl, HBR.out.trans (((Below.refl _ wr).alloc (Nat.le_refl _) _).mono HBR.out.size)⟩
      · have hne := idx_ne (s := s.data.toList) hcc hid
        have hq : (cc.k.toList == s.toList) = false := by rw [str_eq, decide_eq_false hid]
        go_wp2_with fail
        go_roundw
        case rel => exact ⟨k + 1, by omega, by go_num, HBR.out.trans (((Below.refl _ wr).alloc (Nat.le_refl _) _).mono HBR.out.size)⟩
        case measure => simp [intOf]; omega
    · have hkI : ¬ (k : Int) < (N : Int) := by omega
      have hz := HZ.out
      rw [if_neg (by omega)] at hz
      subst hz
      go_wp2_with fail
      go_ret
      exact ⟨rfl, hbr⟩
end
end Go.Proofs.Ytjmaimpfplojpaa
