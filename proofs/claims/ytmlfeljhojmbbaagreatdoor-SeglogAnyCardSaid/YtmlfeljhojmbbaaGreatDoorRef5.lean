/- Walks: the reference's SHA-256. -/
import Derived.Test.YtmlfeljhojmbbaaGreatDoorSmall
import Derived.Test.YtmlfeljhojmbbaaGreatDoorOpen
import Derived.Deep.RegionHeld3
import Derived.StillTailTactics
namespace Go.Proofs.YtmlfeljhojmbbaaGreatDoor
open Go.RowKit
set_option linter.unusedSimpArgs false
set_option linter.unusedVariables false
set_option maxRecDepth 100000

def wds (l : List (BitVec 32)) : List Value := l.map fun x => .int .u32 (x.toNat : Int)
theorem wds_length (l : List (BitVec 32)) : (wds l).length = l.length := by simp [wds]
theorem wds_append (l r : List (BitVec 32)) : wds (l ++ r) = wds l ++ wds r := by simp [wds]
theorem wds_get (l : List (BitVec 32)) (k : Nat) (h : k < l.length) : (wds l)[k]? = some (.int .u32 ((l.getD k 0).toNat : Int)) := by
  simp [wds, List.getElem?_eq_getElem h, List.getD_eq_getElem?_getD]
theorem wds_set (l : List (BitVec 32)) (i : Nat) (x : BitVec 32) : wds (l.set i x) = (wds l).set i (.int .u32 (x.toNat : Int)) := by simp [wds, List.map_set]
theorem wds_one (l : List (BitVec 32)) : ∀ u ∈ wds l, u.oneCell' = true := by
  intro u hu
  simp only [wds, List.mem_map] at hu
  obtain ⟨x, _, rfl⟩ := hu
  rfl
theorem info_u32 : (Tryz.prog.info? 127).map (fun i => (i.zero, i.size, i.bytes)) = some (some (.int .u32 0), 1, 4) := by kernel_rfl
/-- what comes back is a new slice of the words l -/
def NewW (w : World) (l : List (BitVec 32)) (e : Ending) (w' : World) : Prop :=
  ∃ v, e = .returned v ∧ Own w' 127 1 v l.length (wds l) ∧ Below w.heap.size w w' ∧ (∀ g, v.ownBlock = some g → w.heap.size ≤ g)

theorem own_words (w : World) (l : List (BitVec 32)) (h : l.length ≤ maxLen) : Own (w.alloc (.cells (wds l).toArray 127)) 127 1 (.slice (some ⟨w.heap.size, 0, none⟩) l.length l.length) l.length (wds l) :=
  ⟨by rw [wds_length, Nat.mul_one], .inr ⟨w.heap.size, l.length, _, rfl, heap_alloc_new w _, Nat.le_refl _, h, by simp [wds_length], by simp [wds_length, List.take_of_length_le]⟩⟩
set_option maxHeartbeats 400000 in
theorem schedule_calls (ad : Addr) (cap : Nat) (b : List UInt8) (w : World) (hr : RdB w (some ad) b) (hb : b.length = 64) (hcap : 64 ≤ cap) (hcm : cap ≤ maxLen) :
    Calls Tryz.prog 139 #[.slice (some ad) 64 cap] w (NewW w (Psha.sched b 64)) := by
  unfold maxLen at hcm
  obtain ⟨i0, hi, hz0, hz1, hz2⟩ := info_parts info_u32
  have HB := Shut.mk hb
  clear hb
  have HR := Shut.mk hr
  clear hr
  go_enter Tryz.func139, Tryz.ntmps139
  go_wp2_with fail
  go_loopw [3, 10] (fun v i wr => ∃ k : Nat, k ≤ 16 ∧ i = .int .i64 k ∧ Own wr 127 1 v k (wds (Psha.sched b k)) ∧ Below w.heap.size w wr ∧ Hid (∀ g, v.ownBlock = some g → w.heap.size ≤ g)) (fun _ i _ => 16 - (intOf i).toNat)
  case atStart => exact ⟨0, Nat.zero_le _, rfl, Own.nil _ _ _, Below.refl _ _, fun g h => by simp [Value.ownBlock] at h⟩
  case round =>
    obtain ⟨k, hk, rfl, ho, hbk, hnew⟩ := hrel
    by_cases hlt : k < 16
    · have hx : 4 * k < cap := by omega
      have HK := HR.out.keep hbk
      have h0 : wr.cell? ((ad.add (4 * k)).add 0) = some (.int .u8 ((b.getD (4 * k) 0).toNat : Int)) := HK.at2 (j := 0) (by rw [HB.out]; omega)
      have h1 := HK.at2 (k := 4 * k) (j := 1) (by rw [HB.out]; omega)
      have h2 := HK.at2 (k := 4 * k) (j := 2) (by rw [HB.out]; omega)
      have h3 := HK.at2 (k := 4 * k) (j := 3) (by rw [HB.out]; omega)
      have HW := Shut.mk (show Psha.wordAt b k = Psha.word (b.getD (4 * k) 0) (b.getD (4 * k + 1) 0) (b.getD (4 * k + 2) 0) (b.getD (4 * k + 3) 0) from rfl)
      generalize b.getD (4 * k) 0 = x0 at h0 HW
      generalize b.getD (4 * k + 1) 0 = x1 at h1 HW
      generalize b.getD (4 * k + 2) 0 = x2 at h2 HW
      generalize b.getD (4 * k + 3) 0 = x3 at h3 HW
      have HC := Shut.mk (word_any (ad.add (4 * k)) (cap - 4 * k) x0 x1 x2 x3 (64 - 4 * k) wr (by omega) h0 h1 h2 h3)
      clear h0 h1 h2 h3 HK
      have HS := Shut.mk (show Psha.sched b (k + 1) = Psha.sched b k ++ [Psha.wordAt b k] by rw [Psha.sched, if_pos hlt])
      generalize Psha.sched b k = s0 at ho HS ⊢
      go_wp2_with fail
      refine HC.out.mono ?_
      rintro e w' ⟨rfl, m, rfl⟩
      go_wp2_with (at_builtin; refine wpList_append _ rfl _ _ _ rfl 127 i0 _ 1 4 Tryz.underlying147 hi hz0 hz1 hz2 rfl (by decide) _ _ _ rfl ((ho.drewN m).alloc (.cells #[.int .u32 ((Psha.word x0 x1 x2 x3).toNat : Int)] 127)) _ 1 1 _ rfl rfl (rd_new (wr.drewN m) #[.int .u32 ((Psha.word x0 x1 x2 x3).toNat : Int)] 127) (by simp [Value.oneCell']) (by simp only [maxLen]; omega) (by omega) ?_; intro v2 w2 hap; obtain ⟨ho2, hg2, hat2, hz2', _⟩ := hap; clear hz2')
      go_roundw
      case rel =>
        have hs : w.heap.size ≤ wr.heap.size := hbk.size
        have hb2 : Below w.heap.size w ((wr.drewN m).alloc (.cells #[.int .u32 ((Psha.word x0 x1 x2 x3).toNat : Int)] 127)) := (below_drewN hbk m).alloc hs _
        exact ⟨k + 1, by omega, by go_num, ho2.cast rfl (by rw [HS.out, wds_append, HW.out]; rfl), hb2.grown hg2 hb2.size hnew.out, new_append hb2.size hnew.out hat2⟩
      case measure => simp [intOf]; omega
    · obtain rfl : k = 16 := by omega
      go_wp2_with fail
      go_loopw [3, 5] (fun v i wr => ∃ k : Nat, 16 ≤ k ∧ k ≤ 64 ∧ i = .int .i64 k ∧ Own wr 127 1 v k (wds (Psha.sched b k)) ∧ Below w.heap.size w wr ∧ Hid (∀ g, v.ownBlock = some g → w.heap.size ≤ g)) (fun _ i _ => 64 - (intOf i).toNat)
      case atStart => exact ⟨16, Nat.le_refl _, by omega, rfl, ho, hbk, hnew⟩
      case round =>
        clear ho hbk hnew
        obtain ⟨k, hk0, hk, rfl, ho, hbk, hnew⟩ := hrel
        by_cases hlt : k < 64
        · obtain ⟨g, c, rfl, hc1, hc2⟩ := ho.head (by omega)
          unfold maxLen at hc2
          have hl := Psha.sched_length b k
          have w16 := wds_get (Psha.sched b k) (k - 16) (by omega)
          have w7 := wds_get (Psha.sched b k) (k - 7) (by omega)
          have c15 := ho.cell (k - 15) (wds_get (Psha.sched b k) (k - 15) (by omega))
          have c2 := ho.cell (k - 2) (wds_get (Psha.sched b k) (k - 2) (by omega))
          have c16 := ho.cell (k - 16) (wds_get (Psha.sched b k) (k - 16) (by omega))
          have c7 := ho.cell (k - 7) (wds_get (Psha.sched b k) (k - 7) (by omega))
          have HS := Shut.mk (show Psha.sched b (k + 1) = Psha.sched b k ++ [(((Psha.sched b k).getD (k - 16) 0 + Psha.ss0 ((Psha.sched b k).getD (k - 15) 0)) + (Psha.sched b k).getD (k - 7) 0) + Psha.ss1 ((Psha.sched b k).getD (k - 2) 0)] by rw [Psha.sched, if_neg (by omega)])
          clear hl
          generalize (Psha.sched b k).getD (k - 15) 0 = x at c15 HS
          generalize (Psha.sched b k).getD (k - 2) 0 = y at c2 HS
          generalize (Psha.sched b k).getD (k - 16) 0 = p at c16 w16 HS
          generalize (Psha.sched b k).getD (k - 7) 0 = q at c7 w7 HS
          generalize Psha.sched b k = s0 at ho w16 w7 HS ⊢
          have e15 : (((k : Int) - 15).toNat) = k - 15 := by omega
          have e2 : (((k : Int) - 2).toNat) = k - 2 := by omega
          have e16 : (((k : Int) - 16).toNat) = k - 16 := by omega
          have e7 : (((k : Int) - 7).toNat) = k - 7 := by omega
          go_wp2_with fail
          go_quiet (fail)
          go_wp2_with fail
          refine (right_any x 7 _ (by omega) (by omega)).mono ?_
          rintro e w' ⟨rfl, m1, rfl⟩
          go_wp2_with fail
          refine (right_any x 18 _ (by omega) (by omega)).mono ?_
          rintro e w' ⟨rfl, m2, rfl⟩
          go_wp2_with fail
          refine (right_any y 17 _ (by omega) (by omega)).mono ?_
          rintro e w' ⟨rfl, m3, rfl⟩
          go_wp2_with fail
          refine (right_any y 19 _ (by omega) (by omega)).mono ?_
          rintro e w' ⟨rfl, m4, rfl⟩
          go_wp2_with fail
          rw [Psha.ss0_walk, Psha.ss1_walk]
          have lg := World.block_lt_of_cell? wr _ c16
          have n16 := World.new_ne wr _ c16
          have n7 := World.new_ne wr _ c7
          have p16 : (0 : Int) ≤ (k : Int) - 16 := by omega
          have p7 : (0 : Int) ≤ (k : Int) - 7 := by omega
          have q16 : (k : Int) - 16 < (k : Int) := by omega
          have q7 : (k : Int) - 7 < (k : Int) := by omega
          have r16 : IntKind.i64.wrap ((k : Int) - 16) = (k : Int) - 16 := IntWalk.i64_in _ (by omega)
          have r7 : IntKind.i64.wrap ((k : Int) - 7) = (k : Int) - 7 := IntWalk.i64_in _ (by omega)
          have p16' : (16 : Int) ≤ (k : Int) := by omega
          have p7' : (7 : Int) ≤ (k : Int) := by omega
          have p7n : 7 ≤ k := by omega
          have HO := Shut.mk ho
          clear ho
          have HC16 := Shut.mk w16
          have HC7 := Shut.mk w7
          clear w16 w7
          have s1 := Psha.add_u32 p (Psha.ss0 x)
          have s2 := Psha.add_u32 (p + Psha.ss0 x) q
          have s3 := Psha.add_u32 ((p + Psha.ss0 x) + q) (Psha.ss1 y)
          go_region_held3 (fun w' => w'.cell? ⟨g, k - 16, none⟩ = some (.int .u32 (p.toNat : Int)) ∧ w'.cell? ⟨g, k - 7, none⟩ = some (.int .u32 (q.toNat : Int)))
            (first
              | go_keep
              | (go_split_ands
                 have hrd := hap.old _ _ rfl
                 refine ⟨?_, ?_⟩
                 · exact own_old hrd HC16.out
                 · exact own_old hrd HC7.out))
            ((refine step_append _ (by rfl) _ _ _ (by rfl) 127 i0 _ 1 4 Tryz.underlying147 hi hz0 hz1 hz2 rfl (by decide) _ _ _ (by rfl) (by exact HO.out.alloc _) _ 1 1 [.int .u32 (((((p + Psha.ss0 x) + q) + Psha.ss1 y)).toNat : Int)] (by rfl) (by rfl) (by exact rd_new wr #[.int .u32 (((((p + Psha.ss0 x) + q) + Psha.ss1 y)).toNat : Int)] 127) (by simp [Value.oneCell']) (by simp only [maxLen]; omega) (by omega) ?_; intro v2 w2 hap))
          go_wp2
          have hs : w.heap.size ≤ wr.heap.size := hbk.size
          refine ⟨⟨k + 1, by omega, by omega, by omega, hap.own.cast rfl (by rw [HS.out, wds_append]; rfl), below_app hbk hs (by rfl) (by rfl) (by rfl) (by rfl) hap.grown hnew.out, new_append (by simp; omega) hnew.out hap.lies⟩, by simp [intOf]; omega⟩
        · obtain rfl : k = 64 := by omega
          go_wp2
          go_ret
          exact ⟨u3, rfl, ho.cast (Psha.sched_length b 64).symm rfl, hbk, hnew.out⟩
end Go.Proofs.YtmlfeljhojmbbaaGreatDoor
