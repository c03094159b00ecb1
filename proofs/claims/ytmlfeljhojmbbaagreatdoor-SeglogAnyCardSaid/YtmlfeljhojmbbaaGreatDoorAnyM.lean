/- Walk: the disk's Copy. Walk: the document's disk: Copy. Copies of both disks, that stand beside. Walk: the law FilesLive answers true. Walk: the law FilesShort answers true. Walk: the law FilesFuse answers true. Walk: the law FilesFuse answers true. Opening a law's argument that is a step, or a list of steps; the law FilesFuse over it. Opening a law's argument that is a list of steps, with all that they hold; the law FilesLive over it. Plain: how many records Open brings; the pair's disks as Open wants them. Walk: the pair's open. Walk: the law SeglogAny answers true. -/
import Derived.Test.YtmlfeljhojmbbaaGreatDoorNew2
import Derived.BigQuiet
import Derived.Deep.RegionHeld3
import Derived.Test.YtmlfeljhojmbbaaGreatDoorRdA
import Derived.Deep.RegionHeldLaw
import Derived.Test.YtmlfeljhojmbbaaGreatDoorPrA
import Derived.Test.YtmlfeljhojmbbaaGreatDoorNew
import Derived.Test.YtmlfeljhojmbbaaGreatDoorEqM
import Derived.Lib.SmallJoins
import Derived.Test.YtmlfeljhojmbbaaGreatDoorNdK
import Derived.Test.YtmlfeljhojmbbaaGreatDoorOpM
import Derived.Test.YtmlfeljhojmbbaaGreatDoorLgP
namespace Go.Proofs.YtmlfeljhojmbbaaGreatDoor
open Go.RowKit Go.Maps
set_option linter.unusedSimpArgs false
set_option linter.unusedVariables false
set_option maxRecDepth 100000

section
variable {w : World} {gd gm n : Nat} {es : List Ent} {room short fuse : Int}
end
end Go.Proofs.YtmlfeljhojmbbaaGreatDoor

namespace Go.Proofs.YtmlfeljhojmbbaaGreatDoor
open Go.RowKit Go.Maps
set_option linter.unusedSimpArgs false
set_option linter.unusedVariables false
set_option maxRecDepth 100000

section
variable {w : World} {gx : Nat} {v : Value} {R : List RF} {room short fuse : Int}
end
end Go.Proofs.YtmlfeljhojmbbaaGreatDoor

namespace Go.Proofs.YtmlfeljhojmbbaaGreatDoor
open Go.RowKit Go.Maps
set_option linter.unusedSimpArgs false
set_option linter.unusedVariables false
set_option maxRecDepth 100000

section
variable {w0 w w' : World} {gd gx : Nat} {d : Ds} {T : List Fl} {N : Nat} {Z : List Nat} {H : Nat → Option Obj}
/-- all new blocks of a call -/
def news (w w' : World) : List Nat := (List.range w'.heap.size).filter fun b => decide (w.heap.size ≤ b)
end
theorem pr_new (room : Int) (w : World) (h0 : 0 ≤ room) (h1 : room ≤ 1099511627776) :
    Calls Tryz.prog 8 #[.int .i64 room] w fun e w1 => ∃ gd, e = .returned (.tuple #[gp gd, .int .i64 0]) ∧ Below w.heap.size w w1 ∧
      Calls Tryz.prog 19 #[.int .i64 room] w1 fun e w2 => ∃ gx, e = .returned (.tuple #[gq gx, .int .i64 0]) ∧ Pr w w2 gd gx ⟨[], 0, room, -1, -1⟩ [] 0 [] (fun _ => none) := by
  refine (dnew_calls room w h0 h1).mono ?_
  rintro e w1 ⟨gd, gm, rfl, hD, hb, hF⟩
  refine ⟨gd, rfl, hb, (rnew_calls room w1 h0 h1).mono ?_⟩
  rintro e w2 ⟨gx, rfl, hX, hb2, hgx⟩
  have hD1 : DD w1 gd (foot gd gm []) ⟨[], 0, room, -1, -1⟩ := ⟨gm, [], hD, rfl, fun x hx => hx⟩
  refine ⟨gx, rfl, ⟨⟨⟨foot gd gm [], [gx], Dsk.below hD1 hb2, ⟨_, [], hX, rfl, fun x hx => by simpa [footD, Value.ownBlock] using hx⟩, fun x hx => ⟨fun e => ?_, hF x hx, by simp⟩, fun x hx => ⟨?_, by simp⟩⟩, hb.trans (hb2.mono hb.size), by simp⟩, List.Perm.refl _, .nil, Nat.le_refl _, Nat.le_refl _, h0, h1, (show (-1 : Int) ≤ -1 by decide), (show (-1 : Int) ≤ 9223372036854775807 by decide), (show (-1 : Int) ≤ -1 by decide), (show (-1 : Int) ≤ 9223372036854775807 by decide), by simp⟩⟩
  · have := hD.lt hx
    rw [List.mem_singleton.1 e] at this
    omega
  · rw [List.mem_singleton.1 hx]
    have := hb.size
    omega
end Go.Proofs.YtmlfeljhojmbbaaGreatDoor

namespace Go.Proofs.YtmlfeljhojmbbaaGreatDoor
open Go.RowKit Go.Maps
set_option linter.unusedSimpArgs false
set_option linter.unusedVariables false
set_option maxRecDepth 100000

structure Sx where
  op : Int
  n : Int
  nm : ByteArray
  to : ByteArray
  b : List UInt8
  tl : List Tl
/-- the address holds the steps -/
def RdSx (w : World) (A : Option Addr) (ds : List Sx) : Prop :=
  ∀ k d, ds[k]? = some d → ∃ (ad : Addr) (B At : Option Addr) (c ct : Nat), A = some ad ∧ w.cell? (ad.add (k * 6)) = some (.int .i64 d.op) ∧ w.cell? ⟨(ad.add (k * 6)).block, (ad.add (k * 6)).off + 1, none⟩ = some (.int .i64 d.n) ∧
    w.cell? ⟨(ad.add (k * 6)).block, (ad.add (k * 6)).off + 2, none⟩ = some (.string d.nm) ∧ w.cell? ⟨(ad.add (k * 6)).block, (ad.add (k * 6)).off + 3, none⟩ = some (.string d.to) ∧
    w.cell? ⟨(ad.add (k * 6)).block, (ad.add (k * 6)).off + 4, none⟩ = some (.slice B d.b.length c) ∧ w.cell? ⟨(ad.add (k * 6)).block, (ad.add (k * 6)).off + 5, none⟩ = some (.slice At d.tl.length ct) ∧
    RdB w B d.b ∧ RdT w At d.tl ∧ (∀ a, At = some a → d.tl ≠ [] → a.block < w.heap.size) ∧ -9223372036854775808 ≤ d.n ∧ d.n ≤ 9223372036854775807 ∧ d.nm.size ≤ reach ∧ d.to.size ≤ reach ∧ d.b.length ≤ c ∧ d.b.length ≤ reach ∧ d.tl.length < 9000000000000
end Go.Proofs.YtmlfeljhojmbbaaGreatDoor

namespace Go.Proofs.YtmlfeljhojmbbaaGreatDoor
open Go.RowKit Go.Maps
set_option linter.unusedSimpArgs false
set_option linter.unusedVariables false
set_option maxRecDepth 100000

end Go.Proofs.YtmlfeljhojmbbaaGreatDoor

namespace Go.Proofs.YtmlfeljhojmbbaaGreatDoor
open Go.RowKit Go.Maps
set_option linter.unusedSimpArgs false
set_option linter.unusedVariables false
set_option maxRecDepth 100000

/-- the address holds n steps -/
def RdP (w : World) (A : Option Addr) (n : Nat) : Prop :=
  ∀ k, k < n → ∃ (ad : Addr) (x y : Int) (s t : ByteArray) (B : Option Addr) (m c : Nat) (D : Option Addr) (tm tc : Nat), A = some ad ∧ w.cell? (ad.add (k * 6)) = some (.int .i64 x) ∧
    w.cell? ⟨(ad.add (k * 6)).block, (ad.add (k * 6)).off + 1, none⟩ = some (.int .i64 y) ∧ w.cell? ⟨(ad.add (k * 6)).block, (ad.add (k * 6)).off + 2, none⟩ = some (.string s) ∧
    w.cell? ⟨(ad.add (k * 6)).block, (ad.add (k * 6)).off + 3, none⟩ = some (.string t) ∧ w.cell? ⟨(ad.add (k * 6)).block, (ad.add (k * 6)).off + 4, none⟩ = some (.slice B m c) ∧
    w.cell? ⟨(ad.add (k * 6)).block, (ad.add (k * 6)).off + 5, none⟩ = some (.slice D tm tc)
section
variable {w0 w w' : World} {gd n : Nat} {S : List Fl} {room short fuse : Int} {v : Value} {b : List UInt8}
end
end Go.Proofs.YtmlfeljhojmbbaaGreatDoor

namespace Go.Proofs.YtmlfeljhojmbbaaGreatDoor
open Go.RowKit Go.Maps
set_option linter.unusedSimpArgs false
set_option linter.unusedVariables false
set_option maxRecDepth 100000

end Go.Proofs.YtmlfeljhojmbbaaGreatDoor

namespace Go.Proofs.YtmlfeljhojmbbaaGreatDoor
open Go.ChangeShapes Go.WideShapes Go.ChangeAt Go.RowKit Go.Joins Go.Deep
set_option linter.unusedVariables false
set_option maxRecDepth 100000

section
variable {H : Type} {enc : TypeId × Value → H} {P : Program} {w : World} {base : Nat} {spare : Nat → Bool} {held : Bool}
theorem list6 {α : Type} {cs : List α} (h : cs.length = 6) : ∃ c0 c1 c2 c3 c4 c5, cs = [c0, c1, c2, c3, c4, c5] := by
  match cs, h with
  | [c0, c1, c2, c3, c4, c5], _ => exact ⟨c0, c1, c2, c3, c4, c5, rfl⟩
theorem trod_struct6 {t : TypeId} {f0 f1 f2 f3 f4 f5 : Field} {fuel : Nat} {c0 c1 c2 c3 c4 c5 : Value} {x : DataW H × List MemPlace} (ht : P.underlying t = some (.struct #[f0, f1, f2, f3, f4, f5])) (hone : oneCellFields P #[f0, f1, f2, f3, f4, f5] = true)
    (h : DataW.trod enc P w base spare held fuel t [c0, c1, c2, c3, c4, c5] = some x) :
    ∃ y0 y1 y2 y3 y4 y5 n, DataW.trod enc P w base spare held n f0.type [c0] = some y0 ∧ DataW.trod enc P w base spare held n f1.type [c1] = some y1 ∧ DataW.trod enc P w base spare held n f2.type [c2] = some y2 ∧
      DataW.trod enc P w base spare held n f3.type [c3] = some y3 ∧ DataW.trod enc P w base spare held n f4.type [c4] = some y4 ∧ DataW.trod enc P w base spare held n f5.type [c5] = some y5 ∧ x.1 = .agg [y0.1, y1.1, y2.1, y3.1, y4.1, y5.1] := by
  obtain ⟨xs, n, _, rfl, hl, hlen, hf⟩ := DataW.trod_struct ht h
  obtain ⟨o0, k0⟩ := hone_of hone 0 f0 rfl
  obtain ⟨o1, k1⟩ := hone_of hone 1 f1 rfl
  obtain ⟨o2, k2⟩ := hone_of hone 2 f2 rfl
  obtain ⟨o3, k3⟩ := hone_of hone 3 f3 rfl
  obtain ⟨o4, k4⟩ := hone_of hone 4 f4 rfl
  obtain ⟨o5, k5⟩ := hone_of hone 5 f5 rfl
  obtain ⟨y0, y1, y2, y3, y4, y5, rfl⟩ := list6 hlen
  exact ⟨y0, y1, y2, y3, y4, y5, n, by simpa [o0, k0] using hf 0 f0 rfl, by simpa [o1, k1] using hf 1 f1 rfl, by simpa [o2, k2] using hf 2 f2 rfl, by simpa [o3, k3] using hf 3 f3 rfl, by simpa [o4, k4] using hf 4 f4 rfl, by simpa [o5, k5] using hf 5 f5 rfl, rfl⟩
end
end Go.Proofs.YtmlfeljhojmbbaaGreatDoor

namespace Go.Proofs.YtmlfeljhojmbbaaGreatDoor
open Go.ChangeShapes Go.WideShapes Go.ChangeAt Go.RowKit Go.Joins Go.Deep
set_option linter.unusedVariables false
set_option maxRecDepth 100000

section
variable {H : Type} {enc : TypeId × Value → H} {P : Program} {w : World} {base : Nat} {spare : Nat → Bool} {held : Bool}
theorem list3 {α : Type} {cs : List α} (h : cs.length = 3) : ∃ c0 c1 c2, cs = [c0, c1, c2] := by
  match cs, h with
  | [c0, c1, c2], _ => exact ⟨c0, c1, c2, rfl⟩
theorem trod3 {t : TypeId} {f0 f1 f2 : Field} {fuel : Nat} {c0 c1 c2 : Value} {x : DataW H × List MemPlace} (ht : P.underlying t = some (.struct #[f0, f1, f2])) (hone : oneCellFields P #[f0, f1, f2] = true)
    (h : DataW.trod enc P w base spare held fuel t [c0, c1, c2] = some x) :
    ∃ y0 y1 y2 n, DataW.trod enc P w base spare held n f0.type [c0] = some y0 ∧ DataW.trod enc P w base spare held n f1.type [c1] = some y1 ∧ DataW.trod enc P w base spare held n f2.type [c2] = some y2 ∧ x.1 = .agg [y0.1, y1.1, y2.1] := by
  obtain ⟨xs, n, _, rfl, hl, hlen, hf⟩ := DataW.trod_struct ht h
  obtain ⟨o0, k0⟩ := hone_of hone 0 f0 rfl
  obtain ⟨o1, k1⟩ := hone_of hone 1 f1 rfl
  obtain ⟨o2, k2⟩ := hone_of hone 2 f2 rfl
  obtain ⟨y0, y1, y2, rfl⟩ := list3 hlen
  exact ⟨y0, y1, y2, n, by simpa [o0, k0] using hf 0 f0 rfl, by simpa [o1, k1] using hf 1 f1 rfl, by simpa [o2, k2] using hf 2 f2 rfl, rfl⟩
theorem each_part : ∀ {ts : List TypeId} {ds : List (DataW H)} {j : Nat} {t : TypeId} {d : DataW H}, ts[j]? = some t → ds[j]? = some d → ∀ x ∈ d.weights P t, x ∈ DataW.weightsEach P ts ds
  | [], _, j, _, _, ht, _ => by simp at ht
  | _ :: _, [], j, _, _, _, hd => by simp at hd
  | t0 :: ts, d0 :: ds, 0, t, d, ht, hd => by
    simp at ht hd
    subst ht
    subst hd
    intro x hx
    unfold DataW.weightsEach
    exact List.mem_append_left _ hx
  | t0 :: ts, d0 :: ds, j + 1, t, d, ht, hd => by
    intro x hx
    unfold DataW.weightsEach
    exact List.mem_append_right _ (each_part (by simpa using ht) (by simpa using hd) x hx)
theorem all_part {e : TypeId} : ∀ {ds : List (DataW H)} {d : DataW H}, d ∈ ds → ∀ x ∈ d.weights P e, x ∈ DataW.weightsAll P e ds
  | [], _, h => by cases h
  | d0 :: ds, d, h => by
    intro x hx
    unfold DataW.weightsAll
    rcases List.mem_cons.1 h with rfl | h
    · exact List.mem_append_left _ hx
    · exact List.mem_append_right _ (all_part h x hx)
theorem slice_part {t e : TypeId} {elems spare : List (DataW H)} (ht : P.underlying t = some (.slice e)) : (elems.length + spare.length) * P.bytesOf e ∈ (DataW.slice elems spare).weights P t ∧ ∀ d ∈ elems, ∀ x ∈ d.weights P e, x ∈ (DataW.slice elems spare).weights P t := by
  have e1 : (DataW.slice elems spare).weights P t = (elems.length + spare.length) * P.bytesOf e :: (DataW.weightsAll P e elems ++ DataW.weightsAll P e spare) := by
    rw [DataW.weights, ht]
  rw [e1]
  exact ⟨List.mem_cons_self .., fun d hd x hx => List.mem_cons_of_mem _ (List.mem_append_left _ (all_part hd x hx))⟩
theorem agg_part {t : TypeId} {fs : Array Field} {parts : List (DataW H)} (ht : P.underlying t = some (.struct fs)) {j : Nat} {u : TypeId} {d : DataW H} (hu : (fs.toList.map (·.type))[j]? = some u) (hd : parts[j]? = some d) : ∀ x ∈ d.weights P u, x ∈ (DataW.agg parts).weights P t := by
  have e1 : (DataW.agg parts).weights P t = DataW.weightsEach P (fs.toList.map (·.type)) parts := by
    rw [DataW.weights, ht]
  rw [e1]
  exact each_part hu hd
end
instance : Inhabited Sx := ⟨⟨0, 0, ByteArray.empty, ByteArray.empty, [], []⟩⟩
theorem tails_cell {H : Type} {enc : TypeId × Value → H} {W : World} {base : Nat} {spare : Nat → Bool} {held : Bool} {n : Nat} {v : Value} {d : DataW H × List MemPlace}
    (h : DataW.trod enc Tryz.prog W base spare held n 28 [v] = some d) (hw : ∀ x ∈ d.1.weights Tryz.prog 28, x ≤ reachBytes) :
    ∃ (At : Option Addr) (tl : List Tl) (ct : Nat), v = .slice At tl.length ct ∧ RdT W At tl ∧ (∀ a, At = some a → tl ≠ [] → a.block < W.heap.size) ∧ tl.length < 9000000000000 := by
  rcases Go.Deep.open_slice Tryz.underlying28 h with ⟨hcs, _⟩ | ⟨x, l, c, m, q, D, Pl, hcs, _, hl, hm, hmm, hx, hV⟩
  · obtain rfl : v = .slice none 0 0 := by simpa using hcs
    exact ⟨none, [], 0, rfl, (fun k hk => absurd hk (by simp)), (fun a ha => by cases ha), (by simp)⟩
  · obtain rfl : v = .slice (some x) l c := by simpa using hcs
    have hle : l ≤ m := by rw [hmm]; split <;> omega
    have hC : (Tryz.prog).cellsOf 104 = 3 := by kernel_rfl
    have hB : (Tryz.prog).bytesOf 104 = 32 := by kernel_rfl
    obtain ⟨f, hfp⟩ := Go.Deep.choose_lt (α := Tl) (n := l) (p := fun i t => W.cell? (x.add (i * 3)) = some (.string t.name) ∧ W.cell? ⟨(x.add (i * 3)).block, (x.add (i * 3)).off + 1, none⟩ = some (.int .i64 t.keep) ∧ W.cell? ⟨(x.add (i * 3)).block, (x.add (i * 3)).off + 2, none⟩ = some (.bool t.turn)) (fun i hi => by
      obtain ⟨cs, h1, h2⟩ := hV i (by omega)
      rw [hC] at h1
      obtain ⟨_, hlen, hc⟩ := World.cells?_some h1
      obtain ⟨c0, c1, c2, rfl⟩ := list3 hlen
      obtain ⟨y0, y1, y2, n, g0, g1, g2, _⟩ := trod3 Tryz.underlying104 (by kernel_rfl) h2
      obtain ⟨s, e0, _, hs⟩ := DataW.trod_string Tryz.underlying9 g0
      obtain ⟨k, e1, _, _⟩ := DataW.trod_int Tryz.underlying3 g1
      obtain ⟨b, e2, _⟩ := DataW.trod_bool Tryz.underlying4 g2
      simp at e0 e1 e2
      subst e0
      subst e1
      subst e2
      refine ⟨⟨s, k, b, hs⟩, ?_, ?_, ?_⟩
      · simpa [Addr.add] using hc 0 (by omega)
      · simpa [Addr.add] using hc 1 (by omega)
      · simpa [Addr.add] using hc 2 (by omega))
    have hlen : ((List.range l).map f).length = l := by simp
    refine ⟨some x, (List.range l).map f, c, by rw [hlen], fun k hk => ?_, fun a ha hne => ?_, ?_⟩
    · rw [hlen] at hk
      have e : ((List.range l).map f).getD k default = f k := by simp [List.getD_eq_getElem?_getD, hk]
      rw [e]
      exact ⟨x, rfl, hfp k hk⟩
    · injection ha with ha
      subst ha
      have hl0 : 0 < l := by
        rcases Nat.eq_zero_or_pos l with h0 | h0
        · subst h0
          exact absurd rfl hne
        · exact h0
      have := World.block_lt_of_cell? W _ (hfp 0 hl0).1
      rwa [block_of_add] at this
    · rw [hlen]
      obtain ⟨hx1, _⟩ := Prod.mk.inj (show (d.1, d.2) = _ from hx)
      have h9 := (slice_part (H := H) (elems := (List.range l).map D) (spare := (List.range (m - l)).map fun j => D (l + j)) Tryz.underlying28).1
      rw [← hx1] at h9
      have := hw _ h9
      rw [hB] at this
      simp only [List.length_map, List.length_range] at this
      unfold reachBytes at this
      omega
theorem bytes_cellW {H : Type} {enc : TypeId × Value → H} {W : World} {base : Nat} {spare : Nat → Bool} {held : Bool} {n : Nat} {v : Value} {d : DataW H × List MemPlace}
    (h : DataW.trod enc Tryz.prog W base spare held n 27 [v] = some d) (hw : ∀ x ∈ d.1.weights Tryz.prog 27, x ≤ reachBytes) :
    ∃ (B : Option Addr) (b : List UInt8) (c : Nat), v = .slice B b.length c ∧ RdB W B b ∧ b.length ≤ c ∧ b.length ≤ reach := by
  rcases open_ints Tryz.underlying27 Tryz.underlying5 (by kernel_rfl) h with ⟨hcs, _⟩ | ⟨x, l, c, zs, hcs, _, hl, hm, hz, hx, hcell, hwz⟩
  · obtain rfl : v = .slice none 0 0 := by simpa using hcs
    exact ⟨none, [], 0, rfl, fun k hk => by simp at hk, Nat.le_refl _, Nat.zero_le _⟩
  · obtain rfl : v = .slice (some x) l c := by simpa using hcs
    have hB : (Tryz.prog).bytesOf 5 = 1 := by kernel_rfl
    have hl2 : l ≤ zs.length := by
      rw [hz]
      split
      · exact hl
      · exact Nat.le_refl _
    obtain ⟨hx1, _⟩ := Prod.mk.inj (show (d.1, d.2) = _ from hx)
    have h9 := (slice_part (H := H) (elems := lits .u8 (zs.take l)) (spare := lits .u8 (zs.drop l)) Tryz.underlying27).1
    rw [← hx1] at h9
    have h8 := hw _ h9
    rw [hB] at h8
    have h1 : (lits (H := H) .u8 (zs.take l)).length + (lits (H := H) .u8 (zs.drop l)).length = zs.length := by
      simp [lits]
      omega
    rw [h1] at h8
    obtain ⟨bs, hbl, hbr⟩ := rdB_ints hl2 hcell hwz
    subst hbl
    exact ⟨some x, bs, c, rfl, hbr, hl, Nat.le_trans hl2 (by simpa [reachBytes, reach] using h8)⟩
theorem stepD_cells {H : Type} {enc : TypeId × Value → H} {W : World} {base : Nat} {spare : Nat → Bool} {held : Bool} {fuel : Nat} {c0 c1 c2 c3 c4 c5 : Value} {x : DataW H × List MemPlace}
    (h : DataW.trod enc Tryz.prog W base spare held fuel 30 [c0, c1, c2, c3, c4, c5] = some x) (hw : ∀ y ∈ x.1.weights Tryz.prog 30, y ≤ reachBytes) :
    ∃ (s : Sx) (B At : Option Addr) (c ct : Nat), c0 = .int .i64 s.op ∧ c1 = .int .i64 s.n ∧ c2 = .string s.nm ∧ c3 = .string s.to ∧ c4 = .slice B s.b.length c ∧ c5 = .slice At s.tl.length ct ∧
      RdB W B s.b ∧ RdT W At s.tl ∧ (∀ a, At = some a → s.tl ≠ [] → a.block < W.heap.size) ∧ -9223372036854775808 ≤ s.n ∧ s.n ≤ 9223372036854775807 ∧ s.nm.size ≤ reach ∧ s.to.size ≤ reach ∧ s.b.length ≤ c ∧ s.b.length ≤ reach ∧ s.tl.length < 9000000000000 := by
  obtain ⟨y0, y1, y2, y3, y4, y5, n, h0, h1, h2, h3, h4, h5, hx⟩ := trod_struct6 Tryz.underlying30 (by kernel_rfl) h
  rw [hx] at hw
  have hp := fun (j : Nat) (u : TypeId) (d : DataW H) (hu : _) (hd : [y0.1, y1.1, y2.1, y3.1, y4.1, y5.1][j]? = some d) => agg_part (H := H) (P := Tryz.prog) (t := 30) (parts := [y0.1, y1.1, y2.1, y3.1, y4.1, y5.1]) Tryz.underlying30 (j := j) (u := u) (d := d) hu hd
  obtain ⟨a, e0, _, _⟩ := DataW.trod_int Tryz.underlying3 h0
  obtain ⟨b, e1, _, hbw⟩ := DataW.trod_int Tryz.underlying3 h1
  obtain ⟨s, e2, f2, _⟩ := DataW.trod_string Tryz.underlying9 h2
  obtain ⟨t, e3, f3, _⟩ := DataW.trod_string Tryz.underlying9 h3
  obtain ⟨B, bs, c, e4, hrb, hbc, hbl⟩ := bytes_cellW h4 (fun z hz => hw z (hp 4 _ _ rfl rfl z hz))
  obtain ⟨At, tl, ct, e5, hrt, hat, htl⟩ := tails_cell h5 (fun z hz => hw z (hp 5 _ _ rfl rfl z hz))
  have hs : s.data.toList.length ≤ reachBytes := by
    refine hw _ (hp 2 9 y2.1 rfl rfl _ ?_)
    rw [f2, DataW.weights]
    simp
  have ht : t.data.toList.length ≤ reachBytes := by
    refine hw _ (hp 3 9 y3.1 rfl rfl _ ?_)
    rw [f3, DataW.weights]
    simp
  simp at e0 e1 e2 e3
  have hb : -9223372036854775808 ≤ b ∧ b ≤ 9223372036854775807 := by
    simp [Lit.wf, IntKind.min, IntKind.max, IntKind.signed, IntKind.bits] at hbw
    omega
  exact ⟨⟨a, b, s, t, bs, tl⟩, B, At, c, ct, e0, e1, e2, e3, e4, e5, hrb, hrt, hat, hb.1, hb.2, by rw [Lib.size_eq]; exact hs, by rw [Lib.size_eq]; exact ht, hbc, hbl, htl⟩
def ArgSx (w : World) (v : Value) (ds : List Sx) : Prop := ∃ A cl, v = .slice A ds.length cl ∧ RdSx w A ds ∧ ds.length ≤ cl ∧ cl ≤ maxLen
theorem open_sx {H : Type} {enc : TypeId × Value → H} {W : World} {base base' : Nat} {spare : Nat → Bool} {held : Bool} {r : Reach} {v : Value} {d : DataW H} {ps : List MemPlace} {ts : List TypeId} {ds : List (DataW H)} {j : Nat}
    (hsz : (DataW.weightsEach Tryz.prog ts ds).all (· ≤ reachBytes) = true) (ht : ts[j]? = some 22) (hd : ds[j]? = some d)
    (hv : Value.okWide Tryz.prog W r base' 22 v) (h : DataW.Trod enc Tryz.prog W base spare held 22 v d ps) (lt : ∀ x ∈ ps, x.block < W.heap.size) : ∃ ss, ArgSx W v ss := by
  have hw : ∀ y ∈ d.weights Tryz.prog 22, y ≤ reachBytes := fun y hy => by
    have := List.all_eq_true.1 hsz y (each_part ht hd y hy)
    simpa using this
  obtain ⟨a, len, cap, rfl⟩ := okWide_slice Tryz.underlying22 hv
  obtain ⟨fuel, hf⟩ := h
  rcases Go.Deep.open_slice Tryz.underlying22 hf with ⟨hcs, _⟩ | ⟨x, l, c, m, n, D, Pl, hcs, _, hl, hm, hmm, hx, hV⟩
  · simp [Value.cells] at hcs
    obtain ⟨rfl, rfl, rfl⟩ := hcs
    exact ⟨[], none, 0, rfl, fun k d hk => by simp at hk, Nat.le_refl _, by simp [maxLen]⟩
  · simp [Value.cells] at hcs
    obtain ⟨rfl, rfl, rfl⟩ := hcs
    have hle : len ≤ m := by rw [hmm]; split <;> omega
    obtain ⟨hx1, _⟩ := Prod.mk.inj hx
    have hC : (Tryz.prog).cellsOf 30 = 6 := by kernel_rfl
    obtain ⟨f, hfp⟩ := Go.Deep.choose_lt (α := Sx) (n := len) (p := fun k s => ∃ (B At : Option Addr) (c ct : Nat), W.cell? (x.add (k * 6)) = some (.int .i64 s.op) ∧ W.cell? ⟨(x.add (k * 6)).block, (x.add (k * 6)).off + 1, none⟩ = some (.int .i64 s.n) ∧
      W.cell? ⟨(x.add (k * 6)).block, (x.add (k * 6)).off + 2, none⟩ = some (.string s.nm) ∧ W.cell? ⟨(x.add (k * 6)).block, (x.add (k * 6)).off + 3, none⟩ = some (.string s.to) ∧
      W.cell? ⟨(x.add (k * 6)).block, (x.add (k * 6)).off + 4, none⟩ = some (.slice B s.b.length c) ∧ W.cell? ⟨(x.add (k * 6)).block, (x.add (k * 6)).off + 5, none⟩ = some (.slice At s.tl.length ct) ∧
      RdB W B s.b ∧ RdT W At s.tl ∧ (∀ a, At = some a → s.tl ≠ [] → a.block < W.heap.size) ∧ -9223372036854775808 ≤ s.n ∧ s.n ≤ 9223372036854775807 ∧ s.nm.size ≤ reach ∧ s.to.size ≤ reach ∧ s.b.length ≤ c ∧ s.b.length ≤ reach ∧ s.tl.length < 9000000000000) (fun i hi => by
      obtain ⟨cs, h1, h2⟩ := hV i (by omega)
      rw [hC] at h1
      obtain ⟨_, hlen, hc⟩ := World.cells?_some h1
      obtain ⟨c0, c1, c2, c3, c4, c5, rfl⟩ := list6 hlen
      obtain ⟨s, B, At, c, ct, rfl, rfl, rfl, rfl, rfl, rfl, hrest⟩ := stepD_cells h2 (fun y hy => hw y (by
        rw [hx1]
        exact (slice_part (H := H) Tryz.underlying22).2 (D i) (List.mem_map.2 ⟨i, List.mem_range.2 hi, rfl⟩) y hy))
      refine ⟨s, B, At, c, ct, ?_, ?_, ?_, ?_, ?_, ?_, hrest⟩
      · simpa [Addr.add] using hc 0 (by omega)
      · simpa [Addr.add] using hc 1 (by omega)
      · simpa [Addr.add] using hc 2 (by omega)
      · simpa [Addr.add] using hc 3 (by omega)
      · simpa [Addr.add] using hc 4 (by omega)
      · simpa [Addr.add] using hc 5 (by omega))
    have hlen : ((List.range len).map f).length = len := by simp
    refine ⟨(List.range len).map f, some x, cap, by rw [hlen], fun k d hk => ?_, by rw [hlen]; exact hl, hm⟩
    have hkl : k < len := by have := (List.getElem?_eq_some_iff.1 hk).1; rwa [hlen] at this
    rw [List.getElem?_map, List.getElem?_range hkl] at hk
    have hk' : f k = d := Option.some.inj hk
    obtain ⟨B, At, c, ct, hrest⟩ := hfp k hkl
    rw [hk'] at hrest
    exact ⟨x, B, At, c, ct, rfl, hrest⟩
end Go.Proofs.YtmlfeljhojmbbaaGreatDoor

namespace Go.Proofs.YtmlfeljhojmbbaaGreatDoor
open Go.RowKit Go.Maps Go.Sort
set_option linter.unusedSimpArgs false
set_option linter.unusedVariables false
set_option maxRecDepth 100000

theorem rd_count (b : List UInt8) : (rdL b).length ≤ b.length := by
  have h1 := rdL_many b.length b (Nat.le_refl _)
  have h2 := rdL_len b
  omega
theorem sScn_len {d : Ds} {k : Nat} (h : Dv d k) : ∀ (l pre : List Nat), (sScn d pre l).2.2.1.length ≤ 1048576 * l.length
  | [], pre => Nat.zero_le _
  | n :: r, pre => by
    have h1 := rd_count (cont d n)
    have h2 := h.cont_le n
    have h3 := sScn_len h r (pre ++ [n])
    unfold sScn
    split
    · show (rdL (cont d n) ++ (sScn d (pre ++ [n]) r).2.2.1).length ≤ _
      rw [List.length_append, List.length_cons]
      omega
    · show (rdL (cont d n)).length ≤ _
      rw [List.length_cons]
      omega
theorem gScan_len {d : Ds} {k : Nat} (h : Dv d k) {l : List Nat} (hl : l.length ≤ 500) : (gScan d l).2.1.length ≤ 1000000000 := by
  have h1 := sScn_len h l []
  unfold gScan
  split
  · split
    · show (sScn d [] l).2.2.1.length ≤ _
      omega
    · exact Nat.zero_le _
  · exact Nat.zero_le _
theorem Dv.rmv {k : Nat} (mine : List (List UInt8)) : ∀ (ls : List (List UInt8)) {d : Ds}, Dv d k → Dv (sRmv mine d ls).2 k
  | [], d, h => h
  | s :: r, d, h => by
    unfold sRmv
    split
    · exact Dv.rmv mine r h
    · split
      · exact Dv.rmv mine r (h.del s)
      · exact h.del s
theorem gOpen1_len {d : Ds} {k : Nat} (h : Dv d k) : (gOpen1 d).2.1.length ≤ 1000000000 := by
  cases hl : look d.S manN with
  | none =>
    by_cases h0 : lsD d = []
    · rw [gOpen1_new hl h0]
      exact Nat.zero_le _
    · rw [gOpen1_odd hl h0]
      exact Nat.zero_le _
  | some p =>
    obtain ⟨b, sy⟩ := p
    cases hp : prsL b with
    | none =>
      rw [gOpen1_bad hl hp]
      exact Nat.zero_le _
    | some ss =>
      rw [gOpen1_rmv hl hp]
      split
      · exact gScan_len (h.rmv (mineL ss) (lsD d)) (prsL_some hp).2.2
      · exact Nat.zero_le _
theorem gOpen_len {d : Ds} {k : Nat} (h : Dv d k) : (gOpen d).2.1.length ≤ 1000000000 := by
  unfold gOpen
  split
  · split
    · exact gOpen1_len (h.del freshN)
    · exact Nat.zero_le _
  · exact gOpen1_len h
section
variable {w0 w w' : World} {gd gx : Nat} {d : Ds} {T : List Fl} {N : Nat} {Z : List Nat} {H : Nat → Option Obj}
theorem pr_dv (h : Pr w0 w gd gx d T N Z H) (hN : N < 700000) : Dv d 2 := by
  obtain ⟨F, h1, _⟩ := h.two.prog
  obtain ⟨h2, h3⟩ := dd_inv h1
  have hl := h.len
  have hn := h.n
  have hp := h.perm.length_eq
  exact ⟨keyd_perm h.perm (h.same (by omega)).ok.keys, h2, h3, fun x hx => h.names x (h.perm.mem_iff.1 hx), by omega, ⟨by omega, h.r0, h.r1, h.s0, h.s1, h.f0, h.f1⟩, by omega⟩
theorem nd_pair {F' G' : List Nat} {k : Nat} (h : DD w gd F' d) (hx : ND w gx G' d k) : Calls Tryz.prog 39 #[gp gd, gq gx] w fun e w' => e = .returned (.bool true) ∧ Below w.heap.size w w' := by
  obtain ⟨T, h1, hS⟩ := hx.go
  exact same_disks h h1 hS (by have := hx.dv.n9; omega) (fun x hx' => hx.dv.nm x (hS.perm.mem_iff.2 hx'))
end
end Go.Proofs.YtmlfeljhojmbbaaGreatDoor

namespace Go.Proofs.YtmlfeljhojmbbaaGreatDoor
open Go.RowKit Go.Maps Go.Sort
set_option linter.unusedSimpArgs false
set_option linter.unusedVariables false
set_option maxRecDepth 100000

/-- the pair behind both Opens -/
def POp (w0 w : World) (gb gd gx : Nat) (R : Int × List (List UInt8) × Ds) (p q u v a b : Value) : Prop :=
  ((R.1 = 0 ∧ (∃ gl, p = gp gl) ∧ ∃ gl, q = gq gl) ∨ (R.1 ≠ 0 ∧ p = .pointer none ∧ q = .pointer none)) ∧
  (∃ lo lo' P P', Recs w lo P u R.2.1 ∧ Recs w lo' P' v R.2.1) ∧ (∃ F' G', DD w gd F' R.2.2 ∧ ND w gx G' R.2.2 0) ∧
  Blk w gb 36 #[a, b, gp gd, gq gx] ∧ Below w0.heap.size w0 w
section
variable {w0 w w' : World} {gb gd gx : Nat} {d : Ds} {T : List Fl} {N : Nat} {Z : List Nat} {H : Nat → Option Obj} {v0 v1 : Value}
/-- the program's Open on the pair's disk, and the document's behind it -/
theorem pair_opens (h : Pr w0 w gd gx d T N Z H) (hN : N < 700000) (hgb : gb ∈ Z) (hgb0 : w0.heap.size ≤ gb) (hb : Blk w gb 36 #[v0, v1, gp gd, gq gx]) (ht : Tb w w0.heap.size) :
    Calls Tryz.prog 9 #[gp gd] w fun e w1 => ∃ p u, e = .returned (.tuple #[p, u, .int .i64 (gOpen d).1]) ∧ Blk w1 gb 36 #[v0, v1, gp gd, gq gx] ∧
      Calls Tryz.prog 38 #[gq gx] w1 fun e w2 => ∃ q v, e = .returned (.tuple #[q, v, .int .i64 (gOpen d).1]) ∧ Blk w2 gb 36 #[v0, v1, gp gd, gq gx] ∧
        ∀ w4, Kb w2 w4 [gb] → ∀ a b, Blk w4 gb 36 #[a, b, gp gd, gq gx] → POp w0 w4 gb gd gx (gOpen d) p q u v a b := by
  have hdv := pr_dv h hN
  obtain ⟨F, G, hD, hX, hF, hG⟩ := h.two.go
  obtain ⟨G0, hX0, hG0, hlt0⟩ := hX.tight
  have hgl := hb.lt
  have hw0 := h.two.below.size
  refine (open_any (Z := w0.heap.size) hD (fun x hx => (hF x hx).2.1) hw0 ht hdv.ok (fun s hs => by
    cases hl : look d.S s with
    | none => exact absurd hl hs
    | some p =>
      have := (hdv.lk (b := p.1) (sy := p.2) hl).2.2
      omega)).mono ?_
  rintro e w1 ⟨p, u, F', rfl, hp, hr, hD1, hk1, hF'⟩
  have hs1 := hk1.size
  have hb1 := hk1.blk hb (fun hx => (hF gb hx).2.2 hgb)
  have hnd : ND w gx G0 d 2 := ⟨⟨T, hX0, h.same (by omega)⟩, hdv, hlt0⟩
  have hnd1 : ND w1 gx G0 d (0 + 2) := hnd.kept hk1 (fun x hx hxF => (hF x hxF).1 (hG0 x hx))
  refine ⟨p, u, rfl, hb1, (ropen_calls hnd1).mono ?_⟩
  rintro e w2 ⟨q, v, rfl, hq, hr2, G2, hX2, hk2, hG2⟩
  have hs2 := hk2.size
  have hb2 := hk2.blk hb1 (fun hx => (hG gb (hG0 gb hx)).2 hgb)
  refine ⟨q, v, rfl, hb2, fun w4 hk4 a b hb4 => ⟨?_, ?_, ?_, hb4, ?_⟩⟩
  · rcases hp with ⟨h1, h2⟩ | ⟨h1, h2⟩
    · rcases hq with ⟨h3, h4⟩ | ⟨h3, h4⟩
      · exact .inl ⟨h1, h2, h4⟩
      · exact absurd h1 h3
    · rcases hq with ⟨h3, h4⟩ | ⟨h3, h4⟩
      · exact absurd h3 h1
      · exact .inr ⟨h1, h2, h4⟩
  · have hlo := hr
    obtain ⟨_, _, _, hlo⟩ := hlo
    have hlo2 := hr2
    obtain ⟨_, _, _, hlo2⟩ := hlo2
    refine ⟨_, _, _, _, (hr.kept hk2 (fun g hg hx => ?_) (fun x hx _ hx2 => ?_)).kept hk4 (fun g hg hx => ?_) (fun x hx _ hx2 => ?_), hr2.kept hk4 (fun g hg hx => ?_) (fun x hx _ hx2 => ?_)⟩
    · have h1 := hlo g hg
      have h2 := hlt0 g hx
      omega
    · have h2 := hlt0 x hx2
      have h3 : w.heap.size ≤ x := hx
      omega
    · have h1 := hlo g hg
      have h2 : g = gb := by simpa using hx
      omega
    · have h2 : x = gb := by simpa using hx2
      have h3 : w.heap.size ≤ x := hx
      omega
    · have h1 := hlo2 g hg
      have h2 : g = gb := by simpa using hx
      omega
    · have h2 : x = gb := by simpa using hx2
      have h3 : w1.heap.size ≤ x := hx
      omega
  · refine ⟨F', G2, Dsk.kept (Dsk.kept hD1 hk2 (fun x hx hx2 => ?_)) hk4 (fun x hx hx2 => ?_), hX2.kept hk4 (fun x hx hx2 => ?_)⟩
    · rcases hF' x hx with h1 | h1
      · exact (hF x h1).1 (hG0 x hx2)
      · have := hlt0 x hx2
        omega
    · have h2 : x = gb := by simpa using hx2
      subst h2
      rcases hF' x hx with h1 | h1
      · exact (hF x h1).2.2 hgb
      · omega
    · have h2 : x = gb := by simpa using hx2
      subst h2
      rcases hG2 x hx with h1 | h1
      · exact (hG x (hG0 x h1)).2 hgb
      · omega
  · exact hk4.below (hk2.below (hk1.below h.two.below (fun x hx => (hF x hx).2.1) hw0) (fun x hx => (hG x (hG0 x hx)).1) (by omega)) (fun x hx => by
      rw [show x = gb by simpa using hx]
      exact hgb0) (by omega)
set_option maxHeartbeats 4000000 in
theorem pair_open (h : Pr w0 w gd gx d T N Z H) (hN : N < 700000) (hgb : gb ∈ Z) (hgb0 : w0.heap.size ≤ gb) (hb : Blk w gb 36 #[v0, v1, gp gd, gq gx]) (ht : Tb w w0.heap.size) :
    Calls Tryz.prog 7 #[.pointer (some ⟨gb, 0, none⟩)] w fun e w' => e = .returned (.bool true) ∧ Below w0.heap.size w0 w' := by
  have HOP := Shut.mk (pair_opens h hN hgb hgb0 hb ht)
  have HLEN := Shut.mk (gOpen_len (pr_dv h hN))
  obtain ⟨⟨E, rs, d1⟩, hR⟩ : ∃ R, gOpen d = R := ⟨_, rfl⟩
  rw [hR] at HOP HLEN
  have s2 : w.cell? ⟨gb, 2, none⟩ = some (gp gd) := hb.cell 2
  clear h hgb hgb0 hb ht hR
  go_enter Tryz.func7, Tryz.ntmps7
  go_wp2_with fail
  refine HOP.out.mono ?_
  rintro e w1 ⟨p, u, rfl, hb1, hX⟩
  have s3 : w1.cell? ⟨gb, 3, none⟩ = some (gq gx) := hb1.cell 3
  have HX := Shut.mk hX
  clear hX hb1 s2 HOP
  go_wp2_with fail
  refine HX.out.mono ?_
  rintro e w2 ⟨q, v, rfl, hb2, hPO⟩
  have s0 : w2.cell? ⟨gb, 0, none⟩ = some v0 := hb2.cell 0
  have f0 := hb2.free 0
  have hb3 := hb2.set_ 0 p
  have s1 : (w2.setCell ⟨gb, 0, none⟩ p).cell? ⟨gb, 1, none⟩ = some v1 := hb3.cell 1
  have f1 := hb3.free 1
  have hb4 := hb3.set_ 1 q
  have hk4 : Kb w2 ((w2.setCell ⟨gb, 0, none⟩ p).setCell ⟨gb, 1, none⟩ q) [gb] := ((Kb.refl w2 [gb]).setCell (p := ⟨gb, 0, none⟩) (by simp) p).setCell (p := ⟨gb, 1, none⟩) (by simp) q
  have hpo := hPO _ hk4 p q hb4
  obtain ⟨hpq, ⟨lo1, lo2, P1, P2, hr1, hr2⟩, ⟨F4, G4, hD4, hX4⟩, hb5, hbel⟩ := hpo
  have HRS := Shut.mk (And.intro hr1 hr2)
  have HDX := Shut.mk (And.intro hD4 hX4)
  have HB5 := Shut.mk hb5
  have HBEL := Shut.mk hbel
  clear hPO hk4 hb2 s3 HX hr1 hr2 hD4 hX4 hb5 hbel hb4 hb3
  rcases hpq with ⟨h1, ⟨gl, rfl⟩, gl2, rfl⟩ | ⟨h1, rfl, rfl⟩
  · obtain rfl : E = 0 := h1
    go_wp2_with fail
    obtain ⟨W4, hW4⟩ : ∃ W4, W4 = (w2.setCell ⟨gb, 0, none⟩ (gp gl)).setCell ⟨gb, 1, none⟩ (gq gl2) := ⟨_, rfl⟩
    rw [← hW4] at HRS HDX HB5 HBEL ⊢
    have c2 : W4.cell? ⟨gb, 2, none⟩ = some (gp gd) := HB5.out.cell 2
    have c3 : W4.cell? ⟨gb, 3, none⟩ = some (gq gx) := HB5.out.cell 3
    have hbd : Below W4.heap.size W4 W4.drew := ⟨rfl, rfl, rfl, Nat.le_refl _, fun _ _ => rfl⟩
    have HST : Shut (Calls Tryz.prog 18 #[u, v] W4.drew fun e w' => e = .returned (.bool true) ∧ w' = W4.drew) := ⟨(same_recs (HRS.out.1.quiet hbd) (HRS.out.2.quiet hbd) HLEN.out HLEN.out).mono fun e w' ⟨he, hw⟩ => ⟨by rw [he, decide_eq_true rfl], hw.symm⟩⟩
    have HSD : Shut (Calls Tryz.prog 39 #[gp gd, gq gx] W4.drew fun e w' => e = .returned (.bool true) ∧ Below w0.heap.size w0 w' ∧ w'.cell? ⟨gb, 2, none⟩ = some (gp gd) ∧ w'.cell? ⟨gb, 3, none⟩ = some (gq gx)) := ⟨(nd_pair (Dsk.below HDX.out.1 hbd) (HDX.out.2.quiet hbd)).mono fun e w' ⟨he, hb⟩ => ⟨he, (HBEL.out.trans (hbd.mono HBEL.out.size)).trans (hb.mono HBEL.out.size), (hb.cell HB5.out.lt).trans c2, (hb.cell HB5.out.lt).trans c3⟩⟩
    have t2 : W4.drew.cell? ⟨gb, 2, none⟩ = some (gp gd) := c2
    have t3 : W4.drew.cell? ⟨gb, 3, none⟩ = some (gq gx) := c3
    clear hW4 s0 s1 f0 f1 hbd
    go_region_held3 (fun w' => w'.cell? ⟨gb, 2, none⟩ = some (gp gd) ∧ w'.cell? ⟨gb, 3, none⟩ = some (gq gx)) (first | exact ⟨c2, c3⟩ | exact ⟨t2, t3⟩ | exact ⟨q2, q3⟩ | go_keep)
      (first
        | (go_at_call 18; refine HST.out.mono ?_; rintro e w24 ⟨rfl, rfl⟩)
        | (go_at_call 39; refine HSD.out.mono ?_; rintro e w25 ⟨rfl, hb25, q2, q3⟩))
    go_wp2_with fail
    go_ret
    exact ⟨rfl, hb25⟩
  · clear h1
    go_wp2_with fail
    obtain ⟨W4, hW4⟩ : ∃ W4, W4 = (w2.setCell ⟨gb, 0, none⟩ (.pointer none)).setCell ⟨gb, 1, none⟩ (.pointer none) := ⟨_, rfl⟩
    rw [← hW4] at HRS HDX HB5 HBEL ⊢
    have c2 : W4.cell? ⟨gb, 2, none⟩ = some (gp gd) := HB5.out.cell 2
    have c3 : W4.cell? ⟨gb, 3, none⟩ = some (gq gx) := HB5.out.cell 3
    have hbd : Below W4.heap.size W4 W4.drew := ⟨rfl, rfl, rfl, Nat.le_refl _, fun _ _ => rfl⟩
    have HST : Shut (Calls Tryz.prog 18 #[u, v] W4.drew fun e w' => e = .returned (.bool true) ∧ w' = W4.drew) := ⟨(same_recs (HRS.out.1.quiet hbd) (HRS.out.2.quiet hbd) HLEN.out HLEN.out).mono fun e w' ⟨he, hw⟩ => ⟨by rw [he, decide_eq_true rfl], hw.symm⟩⟩
    have HSD : Shut (Calls Tryz.prog 39 #[gp gd, gq gx] W4.drew fun e w' => e = .returned (.bool true) ∧ Below w0.heap.size w0 w' ∧ w'.cell? ⟨gb, 2, none⟩ = some (gp gd) ∧ w'.cell? ⟨gb, 3, none⟩ = some (gq gx)) := ⟨(nd_pair (Dsk.below HDX.out.1 hbd) (HDX.out.2.quiet hbd)).mono fun e w' ⟨he, hb⟩ => ⟨he, (HBEL.out.trans (hbd.mono HBEL.out.size)).trans (hb.mono HBEL.out.size), (hb.cell HB5.out.lt).trans c2, (hb.cell HB5.out.lt).trans c3⟩⟩
    have t2 : W4.drew.cell? ⟨gb, 2, none⟩ = some (gp gd) := c2
    have t3 : W4.drew.cell? ⟨gb, 3, none⟩ = some (gq gx) := c3
    clear hW4 s0 s1 f0 f1 hbd
    go_region_held3 (fun w' => w'.cell? ⟨gb, 2, none⟩ = some (gp gd) ∧ w'.cell? ⟨gb, 3, none⟩ = some (gq gx)) (first | exact ⟨c2, c3⟩ | exact ⟨t2, t3⟩ | exact ⟨q2, q3⟩ | go_keep)
      (first
        | (go_at_call 18; refine HST.out.mono ?_; rintro e w24 ⟨rfl, rfl⟩)
        | (go_at_call 39; refine HSD.out.mono ?_; rintro e w25 ⟨rfl, hb25, q2, q3⟩))
    go_wp2_with fail
    go_ret
    exact ⟨rfl, hb25⟩
end
end Go.Proofs.YtmlfeljhojmbbaaGreatDoor

namespace Go.Proofs.YtmlfeljhojmbbaaGreatDoor
open Go.RowKit Go.Maps Go.Sort
set_option linter.unusedSimpArgs false
set_option linter.unusedVariables false
set_option maxRecDepth 100000

theorem pair_boxed {w0 w : World} {gd gx : Nat} {d : Ds} {T : List Fl} {N : Nat} {Z : List Nat} {H : Nat → Option Obj} (h : Pr w0 w gd gx d T N Z H) (hN : N < 700000) (ht : Tb w0 w0.heap.size) :
    Calls Tryz.prog 7 #[.pointer (some ⟨w.heap.size, 0, none⟩)] (w.alloc (.cells #[.pointer none, .pointer none, gp gd, gq gx] 36)) fun e w' => e = .returned (.bool true) ∧ Below w0.heap.size w0 w' := by
  have h2 := h.of_two (d' := d) (h.two.box (.cells #[.pointer none, .pointer none, gp gd, gq gx] 36))
  exact pair_open h2 hN List.mem_cons_self h.two.below.size (Blk.new w _ _) (ht.below h2.two.below)
theorem disks_calls (w : World) : Calls Tryz.prog 5 #[.int .i64 100000] w fun e w2 => ∃ gd gx, e = .returned (.tuple #[gp gd, gq gx]) ∧ Pr w w2 gd gx ⟨[], 0, 100000, -1, -1⟩ [] 0 [] (fun _ => none) := by
  have HNEW := Shut.mk (pr_new 100000 w (by decide) (by decide))
  go_enter Tryz.func5, Tryz.ntmps5
  go_wp2_with fail
  refine HNEW.out.mono ?_
  rintro e w1 ⟨gd, rfl, hb1, hX⟩
  have HX := Shut.mk hX
  clear hX hb1 HNEW
  go_wp2_with fail
  refine HX.out.mono ?_
  rintro e w2 ⟨gx, rfl, hP⟩
  have HP := Shut.mk hP
  clear hP HX
  go_wp2_with fail
  go_ret2
  exact ⟨gd, gx, rfl, HP.out⟩
set_option maxHeartbeats 4000000 in
theorem seglogAny_run (A : Option Addr) (ds : List Sx) (cl : Nat) (w : World) (hl : RdSx w A ds) (hcl : ds.length ≤ cl) (hcm : cl ≤ maxLen) (ht : Tb w w.heap.size) :
    Calls Tryz.prog 3 #[.slice A ds.length cl] w fun e w' => e = .returned (.bool true) ∧ Below w.heap.size w w' := by
  have HL := Shut.mk hl
  have HT := Shut.mk ht
  unfold maxLen at hcm
  obtain ⟨NL, hNL⟩ : ∃ NL, NL = ds.length := ⟨_, rfl⟩
  rw [← hNL] at hcl ⊢
  have HNL := Shut.mk hNL
  have HNEW := Shut.mk (disks_calls w)
  clear hNL hl ht
  go_enter Tryz.func3, Tryz.ntmps3
  go_wp2_with fail
  refine HNEW.out.mono ?_
  rintro e w2 ⟨gd, gx, rfl, hP⟩
  have HP := Shut.mk hP
  clear hP HNEW
  go_wp2_with fail
  go_loopw [16] (fun i wr => ∃ (k : Nat) (d : Ds) (T : List Fl) (Z : List Nat) (H : Nat → Option Obj), k ≤ NL ∧ k ≤ 13 ∧ i = .int .i64 k ∧ Pr w wr gd gx d T k Z H) (fun i _ => NL - (intOf i).toNat)
  case atStart => exact ⟨0, _, _, _, _, Nat.zero_le _, by omega, rfl, HP.out⟩
  case round =>
    obtain ⟨k, d, T, Z, H, hk, hk13, rfl, hP⟩ := hrel
    have HP := Shut.mk hP
    clear hP
    by_cases hlt : k < NL
    · obtain ⟨s, hs⟩ : ∃ s, ds[k]? = some s := ⟨ds[k]'(by rw [← HNL.out]; exact hlt), List.getElem?_eq_getElem _⟩
      obtain ⟨ad, B, At, c1, ct, rfl, a0, a1, a2, a3, a4, a5, hrb, hrt, hta, hn1, hn2, hnm, hto, hbc, hbl, htl⟩ := HL.out k s hs
      have hkI : (k : Int) < (NL : Int) := by omega
      have hbw := HP.out.two.below
      have r0 := (hbw.cell (World.block_lt_of_cell? w _ a0)).trans a0
      have r1 := (hbw.cell (World.block_lt_of_cell? w _ a1)).trans a1
      have r2 := (hbw.cell (World.block_lt_of_cell? w _ a2)).trans a2
      have r3 := (hbw.cell (World.block_lt_of_cell? w _ a3)).trans a3
      have r4 := (hbw.cell (World.block_lt_of_cell? w _ a4)).trans a4
      have r5 := (hbw.cell (World.block_lt_of_cell? w _ a5)).trans a5
      have HPB := Shut.mk (HP.out.of_two (d' := d) (HP.out.two.box (.cells #[.int .i64 s.op, .int .i64 s.n, .string s.nm, .string s.to, .slice B s.b.length c1, .slice At s.tl.length ct] 30)))
      have HST := Shut.mk (fun (wx : World) (d : Ds) (T : List Fl) (Z : List Nat) (H : Nat → Option Obj) (h : Pr w wx gd gx d T k Z H) (hN : k < 700000) => steps_calls h hN s.op s.n s.nm s.to B At s.b.length c1 ct s.b s.tl hn1 hn2 hnm hto hrb rfl hbc hbl htl hrt hta)
      clear a0 a1 a2 a3 a4 a5 hrb hrt hta hnm hto hbc hbl htl hbw hs hn1 hn2
      by_cases h12 : k ≤ 12
      · have h12I : ¬ (k : Int) > 12 := by omega
        have HSC := Shut.mk (HST.out _ _ _ _ _ HPB.out (by omega))
        go_wp2_with fail
        refine HSC.out.mono ?_
        rintro e w5 ⟨rfl, d5, T5, hP5⟩
        have HP5 := Shut.mk hP5
        clear hP5 HSC
        go_wp2_with fail
        go_roundw
        case rel => exact ⟨k + 1, d5, T5, _, _, by omega, by omega, by go_num, HP5.out⟩
        case measure => first | (simp [intOf]; done) | (simp [intOf]; omega)
      · have h12I : (k : Int) > 12 := by omega
        have hop := pair_boxed HPB.out (by omega) HT.out
        rw [World.size_alloc] at hop
        have HOP := Shut.mk hop
        clear hop
        go_wp2_with fail
        refine HOP.out.mono ?_
        rintro e w6 ⟨rfl, hb6⟩
        go_wp2_with fail
        go_ret
        exact ⟨rfl, hb6⟩
    · obtain rfl : k = NL := by omega
      have HOP := Shut.mk (pair_boxed HP.out (by omega) HT.out)
      go_wp2_with fail
      refine HOP.out.mono ?_
      rintro e w6 ⟨rfl, hb6⟩
      go_wp2_with fail
      go_ret
      exact ⟨rfl, hb6⟩
theorem seglogAny_walk (v : Value) (ds : List Sx) (w : World) (hx : ArgSx w v ds) (ht : Tb w w.heap.size) :
    Calls Tryz.prog 3 #[v] w fun e w' => e = .returned (.bool true) ∧ Below w.heap.size w w' := by
  obtain ⟨A, cl, rfl, h4, h2, h3⟩ := hx
  exact seglogAny_run A ds cl w h4 h2 h3 ht
end Go.Proofs.YtmlfeljhojmbbaaGreatDoor
