/- Walk: digest.block. -/
import Derived.Test.YtmlfeljhojmbbaaGreatDoorRef5
import Derived.Test.YtmlfeljhojmbbaaGreatDoorBlk
import Derived.Laws.Rows
import Derived.Deep.DeepMust
namespace Go.Proofs.YtmlfeljhojmbbaaGreatDoor
open Go.RowKit
set_option linter.unusedSimpArgs false
set_option linter.unusedVariables false
set_option maxRecDepth 100000

theorem add_off (a : Addr) (n : Nat) (h : 0 < n) : a.add n = ⟨a.block, a.off + n, none⟩ := by unfold Addr.add; rw [if_neg (by omega)]
theorem cell_far {w : World} {p q : Addr} {v u : Value} (h : w.cell? q = some v) (hne : q.block ≠ p.block) : (w.setCell p u).drew.cell? q = some v := by
  have := World.cell?_setCell_other w p q u (fun e => hne (by rw [e]))
  exact this.trans h
theorem three (w : World) (c0 c1 c2 : Array Value) (t0 t1 t2 : TypeId) :
    Blk (((w.alloc (.cells c0 t0)).alloc (.cells c1 t1)).alloc (.cells c2 t2)) w.heap.size t0 c0 ∧ Blk (((w.alloc (.cells c0 t0)).alloc (.cells c1 t1)).alloc (.cells c2 t2)) (w.heap.size + 1) t1 c1 ∧
    Blk (((w.alloc (.cells c0 t0)).alloc (.cells c1 t1)).alloc (.cells c2 t2)) (w.heap.size + 1 + 1) t2 c2 ∧ Below w.heap.size w (((w.alloc (.cells c0 t0)).alloc (.cells c1 t1)).alloc (.cells c2 t2)) := by
  refine ⟨((Blk.new w t0 c0).alloc _).alloc _, ?_, ?_, (((Below.refl _ w).alloc (Nat.le_refl _) _).alloc (by simp) _).alloc (by simp; omega) _⟩
  · have h := (Blk.new (w.alloc (.cells c0 t0)) t1 c1).alloc (.cells c2 t2)
    rwa [World.size_alloc] at h
  · have h := Blk.new ((w.alloc (.cells c0 t0)).alloc (.cells c1 t1)) t2 c2
    rwa [World.size_alloc, World.size_alloc] at h
def tn (x : BitVec 32) (a b : Nat) (y : BitVec 32) : BitVec 32 := (Psha.rotr x a ^^^ Psha.rotr x b) ^^^ y
theorem turn_int (x y : BitVec 32) (a b : Int) (w : World) (a1 : 1 ≤ a) (a2 : a ≤ 31) (b1 : 1 ≤ b) (b2 : b ≤ 31) :
    Calls Tryz.prog 114 #[.int .u32 (x.toNat : Int), .int .i64 a, .int .i64 b, .int .u32 (y.toNat : Int)] w fun e w' => e = .returned (.int .u32 ((tn x a.toNat b.toNat y).toNat : Int)) ∧ w = w' := by
  obtain ⟨m, rfl⟩ := Int.eq_ofNat_of_zero_le (show 0 ≤ a by omega)
  obtain ⟨n, rfl⟩ := Int.eq_ofNat_of_zero_le (show 0 ≤ b by omega)
  exact turn_any x y m n w (by omega) (by omega) (by omega) (by omega)
theorem rotl_int (x : BitVec 32) (a : Int) (w : World) (a1 : -31 ≤ a) (a2 : a ≤ -1) :
    Calls Tryz.prog 115 #[.int .u32 (x.toNat : Int), .int .i64 a] w fun e w' => e = .returned (.int .u32 ((Psha.rotr x (-a).toNat).toNat : Int)) ∧ w = w' := by
  obtain ⟨m, hm⟩ := Int.eq_ofNat_of_zero_le (show 0 ≤ -a by omega)
  obtain rfl : a = -(m : Int) := by omega
  have h := rotl_neg x m w (by omega) (by omega)
  rw [show (- -(m : Int)).toNat = m from by omega]
  exact h
theorem sum4 (p a q b : BitVec 32) : ((p.toNat : Int) + (a.toNat : Int) + (q.toNat : Int) + (b.toNat : Int)) % (4294967296 : Int) = ((((p + a) + q) + b).toNat : Int) := by
  simp only [BitVec.toNat_add]
  omega
theorem shr3 (x : BitVec 32) : ∃ y : BitVec 32, y = x >>> 3 ∧ (x.toNat : Int) / (8 : Int) = (y.toNat : Int) := ⟨_, rfl, Psha.shr_u32 x 3⟩
theorem shr10 (x : BitVec 32) : ∃ y : BitVec 32, y = x >>> 10 ∧ (x.toNat : Int) / (1024 : Int) = (y.toNat : Int) := ⟨_, rfl, Psha.shr_u32 x 10⟩
theorem run_index {P : Program} {t e : TypeId} {i : TypeInfo} (ht : P.underlying t = some (.array 64 e)) (hi : P.info? e = some i) (h1 : i.size = 1) (he : ∀ w : World, (isAgg e).run P w = .ok false w) (W : List (BitVec 32)) (hW : W.length = 64) (k : Nat) (hk : k < 64) (w : World) :
    (Instr.index t (.agg (wds W).toArray) (.int .i64 (k : Int))).run P w = .ok (.int .u32 ((W.getD k 0).toNat : Int)) w := by
  have hc : (wds W).toArray[k]? = some (.int .u32 ((W.getD k 0).toNat : Int)) := by rw [List.getElem?_toArray]; exact wds_get W k (by omega)
  have hc' : (wds W)[k]? = some (.int .u32 ((W.getD k 0).toNat : Int)) := wds_get W k (by omega)
  have h64 : (k : Int) < 64 := by omega
  simp [Instr.index, run_underlying ht, asIntOf, h64, hk, sizeOf, typeInfo, hi, h1, part, he, hc, hc']
theorem copy7 {P : Program} {w : World} {g : Nat} {t te st : TypeId} {i : TypeInfo} (ht : P.underlying st = some (.slice te)) (hi : P.info? te = some i) (h1 : i.size = 1) (s : Psha.St) (bv : Blk w g t (wds s.list).toArray) :
    ∃ W1, (∀ n ty, (Builtin.copy_ #[st, st] ty #[.slice (some ⟨g, 1, none⟩) 7 7, .slice (some ⟨g, 0, none⟩) 7 8]).run P (w.drewN n) = .ok (.int .i64 7) (World.drewN W1 n)) ∧
      Blk W1 g t (wds [s.a, s.a, s.b, s.c, s.d, s.e, s.f, s.g]).toArray ∧ w.grownBy W1 (some g) := by
  refine ⟨w.setRow g (wds [s.a, s.a, s.b, s.c, s.d, s.e, s.f, s.g]).toArray, fun n ty => ?_, setRow_heap w g _ _ t _ bv, ⟨rfl, rfl, rfl, by simp, fun k _ hk => setRow_other w g k _ (fun e => hk (by rw [e]))⟩⟩
  have hf : (Builtin.firstCells 1 7 (.slice (some ⟨g, 0, none⟩) 7 8)).run P (w.drewN n) = .ok (wds [s.a, s.b, s.c, s.d, s.e, s.f, s.g]).toArray (w.drewN n) := by
    refine run_firstCells_some (P := P) (w.drewN n) 1 7 ⟨g, 0, none⟩ 7 8 _ rfl fun j v hv => ?_
    rw [add_head]
    have hb : Blk (w.drewN n) g t (wds s.list).toArray := bv
    rw [hb.cell]
    have hj : j < 7 := (List.getElem?_eq_some_iff.1 hv).1
    rw [← hv]
    match j, hj with
    | 0, _ => rfl
    | 1, _ => rfl
    | 2, _ => rfl
    | 3, _ => rfl
    | 4, _ => rfl
    | 5, _ => rfl
    | 6, _ => rfl
  have hs := run_storeCells_at P g 1 t (wds [s.a, s.b, s.c, s.d, s.e, s.f, s.g]) 0 (wds s.list).toArray (w.drewN n) bv (by simp [wds, Psha.St.list]) (wds_one _)
  have hm : Nat.min 7 7 = 7 := rfl
  simp [Builtin.copy_, run_underlying ht, sizeOf, typeInfo, hi, h1, Builtin.lenOf, hm, hf, hs, goInt]
  rfl
theorem eight (Z : Array Value) (h : Z.size = 8) {a b c d e f g k : Value} : (((((((Z.setIfInBounds 0 a).setIfInBounds 1 b).setIfInBounds 2 c).setIfInBounds 3 d).setIfInBounds 4 e).setIfInBounds 5 f).setIfInBounds 6 g).setIfInBounds 7 k = #[a, b, c, d, e, f, g, k] := by
  obtain ⟨l⟩ := Z
  rcases l with _ | ⟨a0, _ | ⟨a1, _ | ⟨a2, _ | ⟨a3, _ | ⟨a4, _ | ⟨a5, _ | ⟨a6, _ | ⟨a7, _ | ⟨a8, l⟩⟩⟩⟩⟩⟩⟩⟩⟩
  all_goals first | (simp at h; done) | simp | (simp at h; omega)
/-- the first k words of a block -/
theorem word_at {C : Array Value} {l : List (BitVec 32)} {k j : Nat} (h : C.toList.take k = wds l) (hl : l.length = k) (hj : j < k) : C[j]? = some (.int .u32 ((l.getD j 0).toNat : Int)) := by
  have h1 := wds_get l j (by omega)
  rw [← h, List.getElem?_take, if_pos hj] at h1
  simpa using h1
theorem word_more {C : Array Value} {l : List (BitVec 32)} {k : Nat} (h : C.toList.take k = wds l) (hl : l.length = k) (hk : k < C.size) (x : BitVec 32) : (C.setIfInBounds k (.int .u32 (x.toNat : Int))).toList.take (k + 1) = wds (l ++ [x]) := by
  rw [wds_append, ← h, Array.toList_setIfInBounds, List.take_set, List.take_succ_eq_append_getElem (by simpa using hk), List.set_append_right _ _ (by simp; omega)]
  have hlen : (C.toList.take k).length = k := by simp; omega
  rw [hlen]
  simp [wds]

set_option maxRecDepth 100000 in
set_option maxHeartbeats 1000000 in
theorem dblock_calls (ad : Addr) (cap : Nat) (b : List UInt8) (s : Psha.St) (w : World) (hr : RdB w (some ad) b) (hb : b.length = 64) (hcap : 64 ≤ cap) (hcm : cap ≤ maxLen)
    (hk : Rd w (some ⟨1, 0, none⟩) (wds Psha.ks)) :
    Calls Tryz.prog 105 #[.agg (wds s.list).toArray, .slice (some ad) 64 cap] w fun e w' => e = .returned (.agg (wds (Psha.block s b).list).toArray) ∧ Below w.heap.size w w' := by
  have HB := Shut.mk hb
  clear hb
  have HR := Shut.mk hr
  clear hr
  have HGK := Shut.mk hk
  clear hk
  obtain ⟨sa, sb, sc, sd, se, sf, sg, sh⟩ := s
  simp only [wds, Psha.St.list, List.map_cons, List.map_nil]
  go_enter Tryz.func105, Tryz.ntmps105
  go_wp2_with fail
  go_loopw [17] (fun i wr => ∃ (k : Nat) (C Z : Array Value), k ≤ 64 ∧ i = .int .i64 k ∧ Blk wr w.heap.size 138 #[Value.int IntKind.u32 (sa.toNat : Int), Value.int IntKind.u32 (sb.toNat : Int), Value.int IntKind.u32 (sc.toNat : Int), Value.int IntKind.u32 (sd.toNat : Int), Value.int IntKind.u32 (se.toNat : Int), Value.int IntKind.u32 (sf.toNat : Int), Value.int IntKind.u32 (sg.toNat : Int), Value.int IntKind.u32 (sh.toNat : Int)] ∧
      Blk wr (w.heap.size + 1) 138 Z ∧ Z.size = 8 ∧ Blk wr (w.heap.size + 1 + 1) 144 C ∧ C.size = 64 ∧ C.toList.take k = wds (Psha.sched b k) ∧ Below w.heap.size w wr) (fun i _ => 64 - (intOf i).toNat)
  case atStart => exact ⟨0, _, _, Nat.zero_le _, rfl, (three w _ _ _ _ _ _).1, (three w _ _ _ _ _ _).2.1, rfl, (three w _ _ _ _ _ _).2.2.1, rfl, rfl, (three w _ _ _ _ _ _).2.2.2⟩
  case round =>
    obtain ⟨k, C, Z, hk, rfl, bh, bz, hz, bw, hC, hCk, hbr⟩ := hrel
    have hsl := Psha.sched_length b k
    by_cases hlt : k < 64
    · by_cases h16 : k < 16
      · have HK := HR.out.keep hbr
        have hc0 := HK.at_ (k := 4 * k) (by rw [HB.out]; omega)
        have hc1 := HK.at_ (k := 4 * k + 1) (by rw [HB.out]; omega)
        have hc2 := HK.at_ (k := 4 * k + 2) (by rw [HB.out]; omega)
        have hc3 := HK.at_ (k := 4 * k + 3) (by rw [HB.out]; omega)
        have HS := Shut.mk (show Psha.sched b (k + 1) = Psha.sched b k ++ [Psha.word (b.getD (4 * k) 0) (b.getD (4 * k + 1) 0) (b.getD (4 * k + 2) 0) (b.getD (4 * k + 3) 0)] by rw [Psha.sched, if_pos h16]; rfl)
        generalize b.getD (4 * k) 0 = x0 at hc0 HS
        generalize b.getD (4 * k + 1) 0 = x1 at hc1 HS
        generalize b.getD (4 * k + 2) 0 = x2 at hc2 HS
        generalize b.getD (4 * k + 3) 0 = x3 at hc3 HS
        generalize hs0 : Psha.sched b k = s0 at hCk HS hsl
        have hbl : ad.block < w.heap.size := by
          obtain ⟨ad', e, hc⟩ := HR.out 0 (by rw [HB.out]; omega)
          injection e with e
          subst e
          have := World.block_lt_of_cell? w _ hc
          rwa [block_of_add] at this
        have HNE := Shut.mk (show ad.block ≠ w.heap.size + 1 + 1 by omega)
        have HN0 := Shut.mk (show (ad.add (4 * k)).block ≠ w.heap.size + 1 + 1 by rw [block_of_add]; omega)
        have hne0 : w.heap.size + 1 + 1 ≠ ad.block := HNE.out.symm
        have hne1 : w.heap.size + 1 + 1 ≠ (ad.add (4 * k)).block := HN0.out.symm
        have hcw := bw.cell k
        have hck : ∃ u, C[k]? = some u := ⟨C[k]'(by omega), Array.getElem?_eq_getElem (by omega)⟩
        obtain ⟨u, hu⟩ := hck
        rw [hu] at hcw
        have hfw := bw.free k
        have HCk := Shut.mk hCk
        clear HK hs0 hu hCk
        rw [add_off _ _ (by omega)] at hc1 hc2 hc3
        rw [show 4 * k + 2 = 4 * k + 1 + 1 from rfl] at hc2
        rw [show 4 * k + 3 = 4 * k + 1 + 1 + 1 from rfl] at hc3
        have HWW := Shut.mk (Psha.word_walk x0 x1 x2 x3)
        have i0 : (0 : Int) ≤ 4 * (k : Int) := by omega
        have i1 : (4 : Int) * (k : Int) < 64 := by omega
        have i2 : (4 : Int) * (k : Int) + 1 < 64 := by omega
        have i3 : (4 : Int) * (k : Int) + 2 < 64 := by omega
        have i4 : (4 : Int) * (k : Int) + 3 < 64 := by omega
        have j1 : (0 : Int) ≤ (4 : Int) * (k : Int) + 1 := by omega
        have j2 : (0 : Int) ≤ (4 : Int) * (k : Int) + 2 := by omega
        have j3 : (0 : Int) ≤ (4 : Int) * (k : Int) + 3 := by omega
        have r1 : IntKind.i64.wrap ((4 : Int) * (k : Int)) = 4 * (k : Int) := IntWalk.i64_in _ (by omega)
        have r2 : IntKind.i64.wrap ((4 : Int) * (k : Int) + 1) = 4 * (k : Int) + 1 := IntWalk.i64_in _ (by omega)
        have r3 : IntKind.i64.wrap ((4 : Int) * (k : Int) + 2) = 4 * (k : Int) + 2 := IntWalk.i64_in _ (by omega)
        have r4 : IntKind.i64.wrap ((4 : Int) * (k : Int) + 3) = 4 * (k : Int) + 3 := IntWalk.i64_in _ (by omega)
        have t1 : ((4 : Int) * (k : Int)).toNat = 4 * k := by omega
        have t2 : ((4 : Int) * (k : Int) + 1).toNat = 4 * k + 1 := by omega
        have t3 : ((4 : Int) * (k : Int) + 2).toNat = 4 * k + 2 := by omega
        have t4 : ((4 : Int) * (k : Int) + 3).toNat = 4 * k + 3 := by omega
        go_wp2_with fail
        go_region_held3 (fun w' => w'.cell? (ad.add (4 * k)) = some (.int .u8 (x0.toNat : Int)) ∧ w'.cell? ⟨ad.block, ad.off + (4 * k + 1), none⟩ = some (.int .u8 (x1.toNat : Int)) ∧ w'.cell? ⟨ad.block, ad.off + (4 * k + 1 + 1), none⟩ = some (.int .u8 (x2.toNat : Int)) ∧ w'.cell? ⟨ad.block, ad.off + (4 * k + 1 + 1 + 1), none⟩ = some (.int .u8 (x3.toNat : Int)))
          (go_keep) (fail)
        go_wp2
        refine ⟨⟨k + 1, _, Z, by omega, by go_num, (bh.far (p := ⟨w.heap.size + 1 + 1, k, none⟩) (by show w.heap.size ≠ w.heap.size + 1 + 1; omega) _).drew, (bz.far (p := ⟨w.heap.size + 1 + 1, k, none⟩) (by show w.heap.size + 1 ≠ w.heap.size + 1 + 1; omega) _).drew, hz, (bw.set_ k _).drew, by simpa using hC, ?_, (hbr.setCell (p := ⟨w.heap.size + 1 + 1, k, none⟩) (by show w.heap.size ≤ w.heap.size + 1 + 1; omega) _).drew⟩, by simp [intOf]; omega⟩
        rw [HS.out, HWW.out]
        exact word_more HCk.out hsl (by omega) _
      · have HS := Shut.mk (show Psha.sched b (k + 1) = Psha.sched b k ++ [(((Psha.sched b k).getD (k - 16) 0 + Psha.ss0 ((Psha.sched b k).getD (k - 15) 0)) + (Psha.sched b k).getD (k - 7) 0) + Psha.ss1 ((Psha.sched b k).getD (k - 2) 0)] by rw [Psha.sched, if_neg (by omega)])
        have c15 := (bw.cell (k - 15)).trans (word_at hCk hsl (by omega))
        have c2 := (bw.cell (k - 2)).trans (word_at hCk hsl (by omega))
        have c16 := (bw.cell (k - 16)).trans (word_at hCk hsl (by omega))
        have c7 := (bw.cell (k - 7)).trans (word_at hCk hsl (by omega))
        generalize (Psha.sched b k).getD (k - 15) 0 = x at c15 HS
        generalize (Psha.sched b k).getD (k - 2) 0 = y at c2 HS
        generalize (Psha.sched b k).getD (k - 16) 0 = p at c16 HS
        generalize (Psha.sched b k).getD (k - 7) 0 = q at c7 HS
        have hcw := bw.cell k
        have hck : ∃ u, C[k]? = some u := ⟨C[k]'(by omega), Array.getElem?_eq_getElem (by omega)⟩
        obtain ⟨u, hu⟩ := hck
        rw [hu] at hcw
        have hfw := bw.free k
        have HCk := Shut.mk hCk
        clear hu hCk
        obtain ⟨x3, hx3, hxd⟩ := shr3 x
        obtain ⟨y10, hy10, hyd⟩ := shr10 y
        have HX3 := Shut.mk hx3
        have HY10 := Shut.mk hy10
        clear hx3 hy10
        have e15 : (((k : Int) - 15).toNat) = k - 15 := by omega
        have e2 : (((k : Int) - 2).toNat) = k - 2 := by omega
        have e16 : (((k : Int) - 16).toNat) = k - 16 := by omega
        have e7 : (((k : Int) - 7).toNat) = k - 7 := by omega
        have p16 : (0 : Int) ≤ (k : Int) - 16 := by omega
        have p7 : (0 : Int) ≤ (k : Int) - 7 := by omega
        have q16 : (k : Int) - 16 < 64 := by omega
        have q7 : (k : Int) - 7 < 64 := by omega
        have r16 : IntKind.i64.wrap ((k : Int) - 16) = (k : Int) - 16 := IntWalk.i64_in _ (by omega)
        have r7 : IntKind.i64.wrap ((k : Int) - 7) = (k : Int) - 7 := IntWalk.i64_in _ (by omega)
        have p16' : (16 : Int) ≤ (k : Int) := by omega
        have p7' : (7 : Int) ≤ (k : Int) := by omega
        have p7n : 7 ≤ k := by omega
        have p16n : 16 ≤ k := by omega
        have k0 : (0 : Int) ≤ (k : Int) := by omega
        have k64 : (k : Int) < 64 := by omega
        go_wp2_with fail
        go_quiet (fail)
        go_wp2_with fail
        go_region_held3 (fun w' => w'.cell? ⟨w.heap.size + 1 + 1, k - 16, none⟩ = some (.int .u32 (p.toNat : Int)) ∧ w'.cell? ⟨w.heap.size + 1 + 1, k - 7, none⟩ = some (.int .u32 (q.toNat : Int)))
          (first
            | go_keep
            | (go_split_ands
               exact ⟨(World.cell?_setCell_other _ _ _ _ (by intro e; injection e; omega)).trans c16, (World.cell?_setCell_other _ _ _ _ (by intro e; injection e; omega)).trans c7⟩))
          ((go_at_call 114; refine (turn_int _ _ _ _ _ (by decide) (by decide) (by decide) (by decide)).mono ?_; rintro e w' ⟨rfl, rfl⟩))
        go_wp2
        refine ⟨⟨k + 1, _, Z, by omega, by go_num, (bh.drewN _).far (p := ⟨w.heap.size + 1 + 1, k, none⟩) (by show w.heap.size ≠ w.heap.size + 1 + 1; omega) _, (bz.drewN _).far (p := ⟨w.heap.size + 1 + 1, k, none⟩) (by show w.heap.size + 1 ≠ w.heap.size + 1 + 1; omega) _, hz, (bw.drewN _).set_ k _, by simpa using hC, ?_, (below_drewN hbr _).setCell (p := ⟨w.heap.size + 1 + 1, k, none⟩) (by show w.heap.size ≤ w.heap.size + 1 + 1; omega) _⟩, by simp [intOf]; omega⟩
        rw [HS.out, Psha.add_u32, Psha.add_u32, Psha.add_u32, HX3.out, HY10.out]
        exact word_more HCk.out hsl (by omega) _
    · obtain rfl : k = 64 := by omega
      generalize hW : Psha.sched b 64 = W at hCk hsl
      have HW := Shut.mk hW
      clear hW
      obtain ⟨D, rfl⟩ : ∃ D : List Value, C = D.toArray := ⟨C.toList, by simp⟩
      have hCw : D = wds W := by rw [← hCk, List.take_of_length_le (by simpa using Nat.le_of_eq hC)]
      subst hCw
      clear hCk
      have h0 : wr.cell? ⟨w.heap.size, 0, none⟩ = some (.int .u32 (sa.toNat : Int)) := bh.cell 0
      have h1 : wr.cell? ⟨w.heap.size, 1, none⟩ = some (.int .u32 (sb.toNat : Int)) := bh.cell 1
      have h2 : wr.cell? ⟨w.heap.size, 2, none⟩ = some (.int .u32 (sc.toNat : Int)) := bh.cell 2
      have h3 : wr.cell? ⟨w.heap.size, 3, none⟩ = some (.int .u32 (sd.toNat : Int)) := bh.cell 3
      have h4 : wr.cell? ⟨w.heap.size, 4, none⟩ = some (.int .u32 (se.toNat : Int)) := bh.cell 4
      have h5 : wr.cell? ⟨w.heap.size, 5, none⟩ = some (.int .u32 (sf.toNat : Int)) := bh.cell 5
      have h6 : wr.cell? ⟨w.heap.size, 6, none⟩ = some (.int .u32 (sg.toNat : Int)) := bh.cell 6
      have h7 : wr.cell? ⟨w.heap.size, 7, none⟩ = some (.int .u32 (sh.toNat : Int)) := bh.cell 7
      have hinfo : (Tryz.prog.info? 144).map (·.size) = some (wds W).toArray.size := by simp only [List.size_toArray, wds_length, hsl]; kernel_rfl
      go_wp2_with (refine wpList_load_row rfl 144 (.tmp 5) rfl (w.heap.size + 1 + 1) rfl 144 (wds W).toArray (0, 0) _ (by exact bw.alloc _) Tryz.underlying144 rfl hinfo ?_)
      have bv0 := Blk.new wr 138 #[Value.int IntKind.u32 (sa.toNat : Int), Value.int IntKind.u32 (sb.toNat : Int), Value.int IntKind.u32 (sc.toNat : Int), Value.int IntKind.u32 (sd.toNat : Int), Value.int IntKind.u32 (se.toNat : Int), Value.int IntKind.u32 (sf.toNat : Int), Value.int IntKind.u32 (sg.toNat : Int), Value.int IntKind.u32 (sh.toNat : Int)]
      have bh1 := bh.alloc (.cells #[Value.int IntKind.u32 (sa.toNat : Int), Value.int IntKind.u32 (sb.toNat : Int), Value.int IntKind.u32 (sc.toNat : Int), Value.int IntKind.u32 (sd.toNat : Int), Value.int IntKind.u32 (se.toNat : Int), Value.int IntKind.u32 (sf.toNat : Int), Value.int IntKind.u32 (sg.toNat : Int), Value.int IntKind.u32 (sh.toNat : Int)] 138)
      have bz1 := bz.alloc (.cells #[Value.int IntKind.u32 (sa.toNat : Int), Value.int IntKind.u32 (sb.toNat : Int), Value.int IntKind.u32 (sc.toNat : Int), Value.int IntKind.u32 (sd.toNat : Int), Value.int IntKind.u32 (se.toNat : Int), Value.int IntKind.u32 (sf.toNat : Int), Value.int IntKind.u32 (sg.toNat : Int), Value.int IntKind.u32 (sh.toNat : Int)] 138)
      have hbr1 := hbr.alloc hbr.size (.cells #[Value.int IntKind.u32 (sa.toNat : Int), Value.int IntKind.u32 (sb.toNat : Int), Value.int IntKind.u32 (sc.toNat : Int), Value.int IntKind.u32 (sd.toNat : Int), Value.int IntKind.u32 (se.toNat : Int), Value.int IntKind.u32 (sf.toNat : Int), Value.int IntKind.u32 (sg.toNat : Int), Value.int IntKind.u32 (sh.toNat : Int)] 138)
      have hgv : w.heap.size + 1 + 1 < wr.heap.size := bw.lt
      generalize wr.heap.size = gv at bv0 hgv ⊢
      clear bh bz bw hbr h0 h1 h2 h3 h4 h5 h6 h7 hinfo
      go_loopw [89] (fun i wr => ∃ k : Nat, k ≤ 64 ∧ i = .int .i64 k ∧ Blk wr w.heap.size 138 #[Value.int IntKind.u32 (sa.toNat : Int), Value.int IntKind.u32 (sb.toNat : Int), Value.int IntKind.u32 (sc.toNat : Int), Value.int IntKind.u32 (sd.toNat : Int), Value.int IntKind.u32 (se.toNat : Int), Value.int IntKind.u32 (sf.toNat : Int), Value.int IntKind.u32 (sg.toNat : Int), Value.int IntKind.u32 (sh.toNat : Int)] ∧
        Blk wr (w.heap.size + 1) 138 Z ∧ Blk wr gv 138 (wds (Psha.rounds ⟨sa, sb, sc, sd, se, sf, sg, sh⟩ W k).list).toArray ∧ Below w.heap.size w wr) (fun i _ => 64 - (intOf i).toNat)
      case atStart => exact ⟨0, Nat.zero_le _, rfl, bh1, bz1, bv0, hbr1⟩
      case round =>
        clear bh1 bz1 bv0 hbr1
        rename_i wq
        obtain ⟨k, hk, rfl, bh, bz, bv, hbr⟩ := hrel
        by_cases hlt : k < 64
        · have hkk := HGK.out.keep hbr
          have ck := own_old hkk (wds_get Psha.ks k (by show k < 64; exact hlt))
          have HS := Shut.mk (show Psha.rounds ⟨sa, sb, sc, sd, se, sf, sg, sh⟩ W (k + 1) = Psha.rnd (Psha.rounds ⟨sa, sb, sc, sd, se, sf, sg, sh⟩ W k) (Psha.ks.getD k 0) (W.getD k 0) from rfl)
          obtain ⟨i3, hi3, hz30, hz31, hz32⟩ := info_parts info_u32
          have hix := run_index Tryz.underlying144 hi3 hz31 (fun _ => by kernel_rfl) W hsl k hlt
          generalize W.getD k 0 = xw at hix HS
          generalize Psha.ks.getD k 0 = xk at ck HS
          generalize Psha.rounds ⟨sa, sb, sc, sd, se, sf, sg, sh⟩ W k = st at bv HS
          obtain ⟨va, vb, vc, vd, ve, vf, vg, vh⟩ := st
          have q0 : wr.cell? ⟨gv, 0, none⟩ = some (.int .u32 (va.toNat : Int)) := bv.cell 0
          have q1 : wr.cell? ⟨gv, 1, none⟩ = some (.int .u32 (vb.toNat : Int)) := bv.cell 1
          have q2 : wr.cell? ⟨gv, 2, none⟩ = some (.int .u32 (vc.toNat : Int)) := bv.cell 2
          have q3 : wr.cell? ⟨gv, 3, none⟩ = some (.int .u32 (vd.toNat : Int)) := bv.cell 3
          have q4 : wr.cell? ⟨gv, 4, none⟩ = some (.int .u32 (ve.toNat : Int)) := bv.cell 4
          have q5 : wr.cell? ⟨gv, 5, none⟩ = some (.int .u32 (vf.toNat : Int)) := bv.cell 5
          have q6 : wr.cell? ⟨gv, 6, none⟩ = some (.int .u32 (vg.toNat : Int)) := bv.cell 6
          have q7 : wr.cell? ⟨gv, 7, none⟩ = some (.int .u32 (vh.toNat : Int)) := bv.cell 7
          have f := fun i => bv.free i
          have HF := Shut.mk f
          have HCP := Shut.mk (copy7 (w := wr) Tryz.underlying147 hi3 hz31 ⟨va, vb, vc, vd, ve, vf, vg, vh⟩ bv)
          clear f hkk hi3 hz30 hz31 hz32
          have k0 : (0 : Int) ≤ (k : Int) := by omega
          have k64 : (k : Int) < 64 := by omega
          go_wp2_with fail
          go_quiet (fail)
          go_wp2_with fail
          go_quiet ((first
            | (go_at_call 114; first | exact quiet_more_same (turn_int _ _ _ _ _ (by decide) (by decide) (by decide) (by decide)) | exact quiet_same (turn_int _ _ _ _ _ (by decide) (by decide) (by decide) (by decide)))
            | (go_at_call 115; first | exact quiet_more_same (rotl_int _ _ _ (by decide) (by decide)) | exact quiet_same (rotl_int _ _ _ (by decide) (by decide)))))
          go_wp2_with fail
          rw [show tn ve 6 11 (Psha.rotr ve 25) = Psha.bs1 ve from rfl, Psha.ch_walk, Psha.t1_walk ⟨va, vb, vc, vd, ve, vf, vg, vh⟩ xk xw]
          go_quiet ((first
            | (go_at_call 114; first | exact quiet_more_same (turn_int _ _ _ _ _ (by decide) (by decide) (by decide) (by decide)) | exact quiet_same (turn_int _ _ _ _ _ (by decide) (by decide) (by decide) (by decide)))
            | (go_at_call 115; first | exact quiet_more_same (rotl_int _ _ _ (by decide) (by decide)) | exact quiet_same (rotl_int _ _ _ (by decide) (by decide)))))
          go_wp2_with fail
          rw [show tn va 2 13 (Psha.rotr va 22) = Psha.bs0 va from rfl, Psha.maj_walk, Psha.t2_walk ⟨va, vb, vc, vd, ve, vf, vg, vh⟩]
          obtain ⟨W1, hcp, bv1, hg1⟩ := HCP.out
          have f0 := bv1.free 0
          have f4 := bv1.free 4
          have p0 : W1.cell? ⟨gv, 0, none⟩ = some (.int .u32 (va.toNat : Int)) := bv1.cell 0
          have p4 : W1.cell? ⟨gv, 4, none⟩ = some (.int .u32 (vd.toNat : Int)) := bv1.cell 4
          go_region
          go_wp2_with fail
          have hbr1 := hbr.grown hg1 hbr.size (fun k hk => by cases hk; omega)
          refine ⟨⟨k + 1, by omega, by go_num, ?_, ?_, ?_, ?_⟩, by simp [intOf]; omega⟩
          · exact (((bh.grown hg1 (by omega)).drewN _).far (p := ⟨gv, 0, none⟩) (by show w.heap.size ≠ gv; omega) _).far (p := ⟨gv, 4, none⟩) (by show w.heap.size ≠ gv; omega) _
          · exact (((bz.grown hg1 (by omega)).drewN _).far (p := ⟨gv, 0, none⟩) (by show w.heap.size + 1 ≠ gv; omega) _).far (p := ⟨gv, 4, none⟩) (by show w.heap.size + 1 ≠ gv; omega) _
          · rw [HS.out, Psha.add_u32, Psha.add_u32]
            exact ((bv1.drewN _).set_ 0 _).set_ 4 _
          · exact ((below_drewN hbr1 _).setCell (p := ⟨gv, 0, none⟩) (by show w.heap.size ≤ gv; omega) _).setCell (p := ⟨gv, 4, none⟩) (by show w.heap.size ≤ gv; omega) _
        · obtain rfl : k = 64 := by omega
          generalize hst : Psha.rounds ⟨sa, sb, sc, sd, se, sf, sg, sh⟩ W 64 = st at bv
          have HST := Shut.mk hst
          clear hst
          go_wp2_with fail
          have hh0 : Blk wr w.heap.size 138 (wds (Psha.addTo (Psha.St.list ⟨sa, sb, sc, sd, se, sf, sg, sh⟩) st.list 0)).toArray := bh
          generalize hs0 : (⟨sa, sb, sc, sd, se, sf, sg, sh⟩ : Psha.St) = s0 at hh0 HST
          have HS0 := Shut.mk hs0
          clear hs0
          go_loopw [154] (fun i wq => ∃ k : Nat, k ≤ 8 ∧ i = .int .i64 k ∧ Blk wq w.heap.size 138 (wds (Psha.addTo s0.list st.list k)).toArray ∧
            Blk wq (w.heap.size + 1) 138 Z ∧ Blk wq gv 138 (wds st.list).toArray ∧ Below w.heap.size w wq) (fun i _ => 8 - (intOf i).toNat)
          case atStart => exact ⟨0, Nat.zero_le _, rfl, hh0, bz, bv, hbr⟩
          case round =>
            clear hh0 bh bz bv hbr
            rename_i wp
            obtain ⟨k, hk, rfl, bh, bz, bv, hbr⟩ := hrel
            have hl1 := Psha.addTo_length s0.list st.list k
            have hl2 : s0.list.length = 8 := rfl
            have hl3 : st.list.length = 8 := rfl
            by_cases hlt : k < 8
            · have ch := (bh.cell k).trans ((List.getElem?_toArray ..).trans (wds_get (Psha.addTo s0.list st.list k) k (by omega)))
              have cv := (bv.cell k).trans ((List.getElem?_toArray ..).trans (wds_get st.list k (by omega)))
              have fh := bh.free k
              have HS := Shut.mk (show Psha.addTo s0.list st.list (k + 1) = (Psha.addTo s0.list st.list k).set k ((Psha.addTo s0.list st.list k).getD k 0 + st.list.getD k 0) from rfl)
              generalize (Psha.addTo s0.list st.list k).getD k 0 = x at ch HS
              generalize st.list.getD k 0 = y at cv HS
              generalize Psha.addTo s0.list st.list k = l at bh HS hl1
              clear hl1 hl2 hl3
              go_wp2_with fail
              go_region
              go_wp2_with fail
              refine ⟨⟨k + 1, by omega, by go_num, ?_, ?_, ?_, ?_⟩, by simp [intOf]; omega⟩
              · rw [HS.out, Psha.add_u32, wds_set]
                have h9 := (bh.set_ k (.int .u32 ((x + y).toNat : Int))).drew
                rwa [List.setIfInBounds_toArray] at h9
              · exact (bz.far (p := ⟨w.heap.size, k, none⟩) (by show w.heap.size + 1 ≠ w.heap.size; omega) _).drew
              · exact (bv.far (p := ⟨w.heap.size, k, none⟩) (by show gv ≠ w.heap.size; omega) _).drew
              · exact (hbr.setCell (p := ⟨w.heap.size, k, none⟩) (Nat.le_refl _) _).drew
            · obtain rfl : k = 8 := by omega
              rw [Psha.addTo_plus'] at bh
              generalize hf : Psha.plus s0 st = fs at bh
              have HF := Shut.mk hf
              clear hf
              obtain ⟨fa, fb, fc, fd, fe, ff, fg, fh⟩ := fs
              have q0 : wr.cell? ⟨w.heap.size, 0, none⟩ = some (.int .u32 (fa.toNat : Int)) := bh.cell 0
              have q1 : wr.cell? ⟨w.heap.size, 1, none⟩ = some (.int .u32 (fb.toNat : Int)) := bh.cell 1
              have q2 : wr.cell? ⟨w.heap.size, 2, none⟩ = some (.int .u32 (fc.toNat : Int)) := bh.cell 2
              have q3 : wr.cell? ⟨w.heap.size, 3, none⟩ = some (.int .u32 (fd.toNat : Int)) := bh.cell 3
              have q4 : wr.cell? ⟨w.heap.size, 4, none⟩ = some (.int .u32 (fe.toNat : Int)) := bh.cell 4
              have q5 : wr.cell? ⟨w.heap.size, 5, none⟩ = some (.int .u32 (ff.toNat : Int)) := bh.cell 5
              have q6 : wr.cell? ⟨w.heap.size, 6, none⟩ = some (.int .u32 (fg.toNat : Int)) := bh.cell 6
              have q7 : wr.cell? ⟨w.heap.size, 7, none⟩ = some (.int .u32 (fh.toNat : Int)) := bh.cell 7
              have z0 : wr.cell? ⟨w.heap.size + 1, 0, none⟩ = some (Z[0]'(by omega)) := (bz.cell 0).trans (Array.getElem?_eq_getElem (by omega))
              have zf0 := bz.free 0
              have z1 : wr.cell? ⟨w.heap.size + 1, 1, none⟩ = some (Z[1]'(by omega)) := (bz.cell 1).trans (Array.getElem?_eq_getElem (by omega))
              have zf1 := bz.free 1
              have z2 : wr.cell? ⟨w.heap.size + 1, 2, none⟩ = some (Z[2]'(by omega)) := (bz.cell 2).trans (Array.getElem?_eq_getElem (by omega))
              have zf2 := bz.free 2
              have z3 : wr.cell? ⟨w.heap.size + 1, 3, none⟩ = some (Z[3]'(by omega)) := (bz.cell 3).trans (Array.getElem?_eq_getElem (by omega))
              have zf3 := bz.free 3
              have z4 : wr.cell? ⟨w.heap.size + 1, 4, none⟩ = some (Z[4]'(by omega)) := (bz.cell 4).trans (Array.getElem?_eq_getElem (by omega))
              have zf4 := bz.free 4
              have z5 : wr.cell? ⟨w.heap.size + 1, 5, none⟩ = some (Z[5]'(by omega)) := (bz.cell 5).trans (Array.getElem?_eq_getElem (by omega))
              have zf5 := bz.free 5
              have z6 : wr.cell? ⟨w.heap.size + 1, 6, none⟩ = some (Z[6]'(by omega)) := (bz.cell 6).trans (Array.getElem?_eq_getElem (by omega))
              have zf6 := bz.free 6
              have z7 : wr.cell? ⟨w.heap.size + 1, 7, none⟩ = some (Z[7]'(by omega)) := (bz.cell 7).trans (Array.getElem?_eq_getElem (by omega))
              have zf7 := bz.free 7
              go_wp2_with fail
              refine bodyPost_ret (results_cell_row rfl _ _ (w.heap.size + 1) 138 #[Value.int IntKind.u32 (fa.toNat : Int), Value.int IntKind.u32 (fb.toNat : Int), Value.int IntKind.u32 (fc.toNat : Int), Value.int IntKind.u32 (fd.toNat : Int), Value.int IntKind.u32 (fe.toNat : Int), Value.int IntKind.u32 (ff.toNat : Int), Value.int IntKind.u32 (fg.toNat : Int), Value.int IntKind.u32 (fh.toNat : Int)] (0, 0) _ rfl ?hb Tryz.underlying138 rfl (by kernel_rfl)) rfl ⟨?_, ?_⟩
              case hb =>
                show Blk _ _ _ _
                rw [← eight Z hz]
                exact ((((((((bz.set_ 0 _).set_ 1 _).set_ 2 _).set_ 3 _).set_ 4 _).set_ 5 _).set_ 6 _).set_ 7 _)
              · have e1 : Psha.block s0 b = ⟨fa, fb, fc, fd, fe, ff, fg, fh⟩ := by rw [Psha.block, HW.out, HST.out, HF.out]
                rw [HS0.out, e1]
              · have hle : w.heap.size ≤ w.heap.size + 1 := Nat.le_succ _
                exact ((((((((hbr.setCell (p := ⟨_, 0, none⟩) hle _).setCell (p := ⟨_, 1, none⟩) hle _).setCell (p := ⟨_, 2, none⟩) hle _).setCell (p := ⟨_, 3, none⟩) hle _).setCell (p := ⟨_, 4, none⟩) hle _).setCell (p := ⟨_, 5, none⟩) hle _).setCell (p := ⟨_, 6, none⟩) hle _).setCell (p := ⟨_, 7, none⟩) hle _)
end Go.Proofs.YtmlfeljhojmbbaaGreatDoor
