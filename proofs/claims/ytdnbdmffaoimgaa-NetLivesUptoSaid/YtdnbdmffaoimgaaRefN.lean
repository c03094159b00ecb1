/- Walks: the document's net: its connections in memory; place, Dial. -/
import Derived.Test.YtdnbdmffaoimgaaConns
import Derived.Test.YtdnbdmffaoimgaaNumbers
import Derived.BigQuiet
import Derived.Deep.RegionHeld3
namespace Go.Proofs.Ytdnbdmffaoimgaa
open Go.RowKit Go.Maps
set_option linter.unusedSimpArgs false
set_option linter.unusedVariables false
set_option maxRecDepth 100000

/-- a connection of the document's net -/
structure RC where
  id : Int
  addr : Int
  A : Option Addr
  cp : Nat
  b : List UInt8
def RC.v (c : RC) : Value := .slice c.A c.b.length c.cp
def RC.cells (c : RC) : List Value := [.int .i64 c.id, .int .i64 c.addr, c.v]
def rcs (R : List RC) : List Value := R.flatMap RC.cells
theorem rcs_length (R : List RC) : (rcs R).length = R.length * 3 := by
  induction R with
  | nil => rfl
  | cons c r ih =>
    simp only [rcs, List.flatMap_cons, List.length_append, List.length_cons] at *
    rw [ih]
    simp [RC.cells]
    omega
theorem rcs_get {R : List RC} {k : Nat} {c : RC} (h : R[k]? = some c) (j : Nat) (hj : j < 3) : (rcs R)[k * 3 + j]? = c.cells[j]? := by
  induction R generalizing k with
  | nil => simp at h
  | cons a r ih =>
    have e : rcs (a :: r) = a.cells ++ rcs r := rfl
    have hl : a.cells.length = 3 := rfl
    rw [e]
    cases k with
    | zero =>
      simp at h
      subst h
      rw [List.getElem?_append_left (by rw [hl]; omega)]
      simp
    | succ k =>
      rw [List.getElem?_append_right (by rw [hl]; omega), hl, show (k + 1) * 3 + j - 3 = k * 3 + j by omega]
      exact ih (by simpa using h)
theorem info_rc : (Try.prog.info? 66).map (fun i => (i.zero.map (·.cells.size), i.size, i.bytes)) = some (some 3, 3, 40) := by kernel_rfl
/-- a net of the document: its block gx, the row v of its connections R -/
structure RefAt (w : World) (gx : Nat) (v : Value) (last : Nat) (R : List RC) : Prop where
  blk : Blk w gx 53 #[v, .int .i64 (last : Int)]
  own : Own w 66 3 v R.length (rcs R)
  rows : ∀ c ∈ R, Own w 5 1 c.v c.b.length (bys c.b)
theorem addr_fld (ad : Addr) (a j : Nat) (hj : 0 < j) : (⟨(ad.add a).block, (ad.add a).off + j, none⟩ : Addr) = ad.add (a + j) := by
  unfold Addr.add
  rw [if_neg (show ¬ a + j = 0 by omega)]
  by_cases h : a = 0
  · simp [h]
  · rw [if_neg h]
    simp [Nat.add_assoc]
def idx (R : List RC) (id : Int) : Nat := R.findIdx fun c => c.id == id
set_option maxHeartbeats 1000000 in
theorem place_calls {w : World} {gx : Nat} {v : Value} {last : Nat} {R : List RC} (hR : RefAt w gx v last R) (id : Int) (hl : R.length < 1000000) :
    Calls Try.prog 26 #[.pointer (some ⟨gx, 0, none⟩), .int .i64 id] w fun e w' => e = .returned (.int .i64 (if idx R id < R.length then (idx R id : Int) else -1)) ∧ Below w.heap.size w w' := by
  obtain ⟨N, hN⟩ : ∃ N, N = R.length := ⟨_, rfl⟩
  have ho := hR.own
  have q0 : w.cell? ⟨gx, 0, none⟩ = some v := hR.blk.cell 0
  rw [← hN] at ho hl ⊢
  obtain ⟨A, c, rfl, hrd, hac, hcm, _⟩ := ho.form
  have HRD := Shut.mk hrd
  have HN := Shut.mk hN
  have hle : idx R id ≤ N := by rw [hN]; exact List.findIdx_le_length
  unfold maxLen at hcm
  obtain ⟨z, hz⟩ : ∃ z, z = (if idx R id < N then (idx R id : Int) else -1) := ⟨_, rfl⟩
  rw [← hz]
  have HZ := Shut.mk hz
  clear hR ho hrd hN hz
  go_enter Try.func26, Try.ntmps26
  go_wp2_with fail
  go_loopw [12] (fun i wr => ∃ k : Nat, k ≤ idx R id ∧ i = .int .i64 k ∧ Below w.heap.size w wr) (fun i _ => N - (intOf i).toNat)
  case atStart => exact ⟨0, Nat.zero_le _, rfl, Below.refl _ _⟩
  case round =>
    obtain ⟨k, hk, rfl, hbr⟩ := hrel
    have HBR := Shut.mk hbr
    by_cases hlt : k < N
    · obtain ⟨cc, hcc⟩ : ∃ cc, R[k]? = some cc := ⟨R[k]'(by rw [← HN.out]; exact hlt), List.getElem?_eq_getElem _⟩
      obtain ⟨ad, rfl, hc⟩ := HRD.out (fun e => by have := rcs_length R; rw [e, ← HN.out] at this; simp at this; omega)
      have c0 := hc (k * 3) _ (rcs_get hcc 0 (by omega))
      have c1 := hc (k * 3 + 1) _ (rcs_get hcc 1 (by omega))
      have c2 := hc (k * 3 + 2) _ (rcs_get hcc 2 (by omega))
      have d0 : wr.cell? (ad.add (k * 3)) = some (.int .i64 cc.id) := (hbr.cell (World.block_lt_of_cell? w _ c0)).trans c0
      have d1 : wr.cell? ⟨(ad.add (k * 3)).block, (ad.add (k * 3)).off + 1, none⟩ = some (.int .i64 cc.addr) := by
        rw [addr_fld ad _ _ (by omega)]
        exact (hbr.cell (World.block_lt_of_cell? w _ c1)).trans c1
      have d2 : wr.cell? ⟨(ad.add (k * 3)).block, (ad.add (k * 3)).off + 2, none⟩ = some (.slice cc.A cc.b.length cc.cp) := by
        rw [addr_fld ad _ _ (by omega)]
        exact (hbr.cell (World.block_lt_of_cell? w _ c2)).trans c2
      clear c0 c1 c2 hc
      have hkI : (k : Int) < (N : Int) := by omega
      by_cases hid : cc.id = id
      · have hix : idx R id = k := by
          refine Nat.le_antisymm ?_ hk
          rcases Nat.lt_or_ge k (idx R id) with h | h
          · have h9 := List.not_of_lt_findIdx h
            have h8 := (List.getElem?_eq_some_iff.1 hcc).2
            rw [h8] at h9
            simp [hid] at h9
          · exact h
        have hz := HZ.out
        rw [hix, if_pos hlt] at hz
        subst hz
        go_wp2_with fail
        go_ret
        exact ⟨rfl, HBR.out.trans (((Below.refl _ wr).alloc (Nat.le_refl _) _).mono HBR.out.size)⟩
      · have hne : idx R id ≠ k := by
          intro e
          have h9 : idx R id < R.length := by rw [e, ← HN.out]; exact hlt
          have h8 := List.findIdx_getElem (w := h9)
          have h7 := (List.getElem?_eq_some_iff.1 hcc).2
          have h6 : R[List.findIdx (fun c => c.id == id) R]'h9 = cc := by
            rw [← h7]
            congr 1
          rw [h6] at h8
          simp [hid] at h8
        go_wp2_with fail
        go_roundw
        case rel => exact ⟨k + 1, by omega, by go_num, HBR.out.trans (((Below.refl _ wr).alloc (Nat.le_refl _) _).mono HBR.out.size)⟩
        case measure => simp [intOf]; omega
    · have hkI : ¬ (k : Int) < (N : Int) := by omega
      have hz := HZ.out
      rw [if_neg (by omega)] at hz
      subst hz
      go_wp2_with fail
      go_ret
      exact ⟨rfl, hbr⟩
end Go.Proofs.Ytdnbdmffaoimgaa
