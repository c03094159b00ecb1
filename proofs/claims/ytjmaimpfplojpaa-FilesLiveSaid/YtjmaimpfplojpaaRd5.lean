/- Walks: the document's disk: drop, add. -/
import Derived.Test.YtjmaimpfplojpaaRd4
import Derived.Laws.Cover1
namespace Go.Proofs.Ytjmaimpfplojpaa
open Go.RowKit Go.Maps
set_option linter.unusedSimpArgs false
set_option linter.unusedVariables false
set_option maxRecDepth 100000

abbrev RF.obj (c : RF) : Obj := .cells #[.string c.k, .slice c.A c.b.length c.cp, .int .i64 (c.syn : Int)] 89
/-- a new row of files stands in the place of the old one -/
theorem RdAt.newRow {w w7 : World} {gx : Nat} {v v7 : Value} {R R7 : List RF} {room short fuse : Int} (h : RdAt w gx v R room short fuse) (hb : Below w.heap.size w w7)
    (ho : Own w7 89 3 v7 R7.length (rfs R7)) (hv : ∀ g, v7.ownBlock = some g → w.heap.size ≤ g) (hr : ∀ c ∈ R7, c ∈ R ∨ Own w7 5 1 c.v c.b.length (bys c.b)) :
    RdAt (w7.setCell ⟨gx, 0, none⟩ v7) gx v7 R7 room short fuse ∧ Kb w (w7.setCell ⟨gx, 0, none⟩ v7) [gx] := by
  have hk : Kb w7 (w7.setCell ⟨gx, 0, none⟩ v7) [gx] := (Kb.refl w7 _).setCell (by simp) _
  have hbx := h.blk.below hb h.blk.lt
  refine ⟨⟨hbx.set_ 0 v7, hk.own ho fun g hg => by simpa using own_block_ne ho hbx (by decide) g hg, fun c hc => ?_⟩, (Kb.of_below hb _).setCell (by simp) _⟩
  have h1 : Own w7 5 1 c.v c.b.length (bys c.b) := (hr c hc).elim (fun hc => (h.rows c hc).below hb fun g hg => (h.rows c hc).block_lt hg) id
  exact hk.own h1 fun g hg => by simpa using own_block_ne h1 hbx (by decide) g hg
def keepD (s : List UInt8) (R : List RF) : List RF := R.filter fun c => !(c.k.data.toList == s)
theorem keepD_len (s : List UInt8) (R : List RF) : (keepD s R).length ≤ R.length := List.length_filter_le _ _
theorem keepD_snoc (s : List UInt8) (R : List RF) (c : RF) : keepD s (R ++ [c]) = if c.k.data.toList = s then keepD s R else keepD s R ++ [c] := by
  unfold keepD
  rw [List.filter_append]
  by_cases h : c.k.data.toList = s
  · rw [if_pos h, List.filter_cons_of_neg (by rw [h]; simp), List.filter_nil, List.append_nil]
  · rw [if_neg h, List.filter_cons_of_pos (by rw [beq_eq_false_iff_ne.2 h]; rfl), List.filter_nil]
theorem take_at {α : Type} {R : List α} {k : Nat} {c : α} (h : R[k]? = some c) : R.take (k + 1) = R.take k ++ [c] := by
  rw [List.take_add_one, h]
  rfl
section
variable {w w' : World} {gx : Nat} {v : Value} {R : List RF} {room short fuse : Int}
set_option maxHeartbeats 2000000 in
theorem rdrop_calls (hR : RdAt w gx v R room short fuse) (s : ByteArray) (hl : R.length < 1000000) :
    Calls Try.prog 63 #[.pointer (some ⟨gx, 0, none⟩), .string s] w fun e w' => e = .returned (.tuple #[]) ∧ ∃ v', RdAt w' gx v' (keepD s.data.toList R) room short fuse ∧ Kb w w' [gx] ∧ ∀ g, v'.ownBlock = some g → w.heap.size ≤ g := by
  obtain ⟨i0, hi, hz0, hz1, hz2⟩ := info_parts info_rf
  obtain ⟨N, hN⟩ : ∃ N, N = R.length := ⟨_, rfl⟩
  have ho := hR.own
  have q0 : w.cell? ⟨gx, 0, none⟩ = some v := hR.blk.cell 0
  rw [← hN] at ho hl
  obtain ⟨A, c, hv, hrd, hac, hcm, _⟩ := ho.form
  rw [hv] at q0
  have HRD := Shut.mk hrd
  have HN := Shut.mk hN
  have HR := Shut.mk hR
  unfold maxLen at hcm
  clear hR ho hrd hN hv
  go_enter Try.func63, Try.ntmps63
  go_wp2_with fail
  go_loopw [4, 12] (fun u i wr => ∃ k : Nat, k ≤ N ∧ i = .int .i64 k ∧ Own wr 89 3 u (keepD s.data.toList (R.take k)).length (rfs (keepD s.data.toList (R.take k))) ∧ (∀ g, u.ownBlock = some g → w.heap.size ≤ g) ∧ Below w.heap.size w wr) (fun _ i _ => N - (intOf i).toNat)
  case atStart => exact ⟨0, Nat.zero_le _, rfl, Own.nil _ _ _, fun g hg => (by cases hg), Below.refl _ _⟩
  case round =>
    obtain ⟨k, hk, rfl, hou, hnew, hbr⟩ := hrel
    have HBR := Shut.mk hbr
    have HNEW := Shut.mk hnew
    obtain ⟨M, hM⟩ : ∃ M, M = (keepD s.data.toList (R.take k)).length := ⟨_, rfl⟩
    have hMk : M ≤ k := by rw [hM]; exact Nat.le_trans (keepD_len _ _) (by rw [List.length_take]; omega)
    rw [← hM] at hou
    have HM := Shut.mk hM
    obtain ⟨Au, cu, hu, _⟩ := hou.form
    subst hu
    have HOU := Shut.mk hou
    clear hou hnew hM
    by_cases hlt : k < N
    · obtain ⟨cc, hcc⟩ : ∃ cc, R[k]? = some cc := ⟨R[k]'(by rw [← HN.out]; exact hlt), List.getElem?_eq_getElem _⟩
      obtain ⟨ad, rfl, d0, d1, d2⟩ := rf_cells HRD.out hcc hbr
      have hkI : (k : Int) < (N : Int) := by omega
      have hsz := HBR.out.size
      have HBA := Shut.mk (HBR.out.alloc HBR.out.size cc.obj)
      by_cases hid : cc.k.data.toList = s.data.toList
      · have hq0 : (cc.k.toList == s.toList) = true := by rw [str_eq, decide_eq_true hid]
        have HKE := Shut.mk (show keepD s.data.toList (R.take (k + 1)) = keepD s.data.toList (R.take k) by
          rw [take_at hcc, keepD_snoc, if_pos hid])
        have HOA := Shut.mk (HOU.out.alloc cc.obj)
        clear hcc hid
        go_wp2_with fail
        go_roundw
        case rel => exact ⟨k + 1, by omega, by go_num, by rw [HKE.out, ← HM.out]; exact HOA.out, HNEW.out, HBA.out⟩
        case measure => simp [intOf]; omega
      · have hq0 : (cc.k.toList == s.toList) = false := by rw [str_eq, decide_eq_false hid]
        have HKE := Shut.mk (show keepD s.data.toList (R.take (k + 1)) = keepD s.data.toList (R.take k) ++ [cc] by
          rw [take_at hcc, keepD_snoc, if_neg hid])
        have hoa := (HOU.out.alloc cc.obj).alloc cc.obj
        have hra : Rd ((wr.alloc cc.obj).alloc cc.obj) (some ⟨(wr.alloc cc.obj).heap.size, 0, none⟩) [.string cc.k, .slice cc.A cc.b.length cc.cp, .int .i64 (cc.syn : Int)] := rd_new (wr.alloc cc.obj) _ _
        rw [World.size_alloc] at hra
        have hba := HBA.out.alloc (by rw [World.size_alloc]; omega) cc.obj
        clear hcc hid
        go_wp2_with (
          at_builtin
          refine wpList_append _ rfl _ _ _ rfl 89 i0 _ 3 48 Try.underlying85 hi hz0 hz1 hz2 rfl (by decide) _ _ _ rfl hoa _ 1 1 _ rfl rfl hra (by simp [Value.oneCell']) (by simp only [maxLen]; omega) (by omega) ?_
          intro v4 w4 hap)
        case roundEnd =>
          refine ⟨⟨k + 1, by omega, by go_num, hap.own.cast (by rw [HKE.out, List.length_append, ← HM.out]; rfl) (by rw [HKE.out, rfs_append]; rfl), fun g hg => ?_, hba.grown hap.grown hba.size (fun r hr => HNEW.out r hr)⟩, by simp [intOf]; omega⟩
          rcases hap.lies with h | h
          · exact HNEW.out g (h ▸ hg)
          · rw [h] at hg
            injection hg with hg
            rw [← hg]
            exact hba.size
    · obtain rfl : k = N := by omega
      have hkI : ¬ (k : Int) < (k : Int) := by omega
      have hf := (HR.out.blk.below hbr HR.out.blk.lt).free 0
      have HFR := Shut.mk (HR.out.newRow HBR.out (R7 := keepD s.data.toList R) (v7 := .slice Au M cu) (by
        have h9 := HOU.out
        have e : R.take k = R := by rw [HN.out, List.take_length]
        rw [e] at h9
        exact h9.cast (by rw [HM.out, e]) rfl) HNEW.out (fun c hc => .inl (List.mem_filter.1 hc).1))
      have qq : wr.cell? ⟨gx, 0, none⟩ = some (.slice A k c) := (hbr.cell (World.block_lt_of_cell? w _ q0)).trans q0
      clear hbr
      go_wp2_with fail
      go_end0
      exact ⟨rfl, _, HFR.out.1, HFR.out.2, HNEW.out⟩
end
end Go.Proofs.Ytjmaimpfplojpaa
