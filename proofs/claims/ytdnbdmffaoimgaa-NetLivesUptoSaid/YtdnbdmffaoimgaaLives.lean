/- The program's net beside the document's, of one law: what each call leaves. -/
import Derived.Test.YtdnbdmffaoimgaaRefP
namespace Go.Proofs.Ytdnbdmffaoimgaa
open Go.RowKit Go.Maps
set_option linter.unusedSimpArgs false
set_option linter.unusedVariables false
set_option maxRecDepth 100000

theorem NP.tight {w : World} {gn n last : Nat} {F : List Nat} {L : List Cn} (h : NP w gn F n last L) : ∃ F0, NP w gn F0 n last L ∧ (∀ x ∈ F0, x ∈ F) ∧ ∀ x ∈ F0, x < w.heap.size := by
  obtain ⟨gm, f, C, h1, h2⟩ := h
  exact ⟨_, ⟨gm, f, C, h1, fun x hx => hx⟩, h2, fun x hx => h1.lt hx⟩
theorem NP.ids {w : World} {gn n last : Nat} {F : List Nat} {L : List Cn} (h : NP w gn F n last L) : L.Pairwise fun c d => c.1 < d.1 := by
  obtain ⟨gm, f, C, h1, h2⟩ := h
  exact h1.ids
/-- Take, and its bytes lie in none of the net's blocks -/
theorem np_take2 {w : World} {gn n last : Nat} {F : List Nat} {L : List Cn} (h : NP w gn F n last L) (a : Int) (h1 : -9223372036854775808 ≤ a) (h2 : a ≤ 9223372036854775807) {ad : Int} {l : List UInt8} (hc : lookC L a = some (a, ad, l)) (hl : l.length ≤ reach) :
    Calls Try.prog 10 #[.pointer (some ⟨gn, 0, none⟩), .int .i64 a] w fun e w' => ∃ v' F', e = .returned (.tuple #[v', .int .i64 0]) ∧ NP w' gn F' n last (upd L a ad []) ∧ Kb w w' F ∧ (∀ x ∈ F', x ∈ F ∧ x < w.heap.size) ∧ Own w' 5 1 v' l.length (bys l) ∧ ∀ g, v'.ownBlock = some g → w.heap.size ≤ g := by
  obtain ⟨gm, f, C, hS, hF⟩ := h
  obtain ⟨hm1, _, hf⟩ := hS.at_some hc
  refine (take_calls gn gm last n _ f a ad l _ w hS.net h1 h2 hf (hS.conn _ hm1) (hS.own _ hm1) hl).mono ?_
  rintro e w' ⟨v', rfl, hN, hb, ho, hk, hv⟩
  obtain ⟨h3, h4⟩ := hS.replace (b' := []) hm1 (hk.mono (by simp)) hN hb (Own.nil _ _ _) (fun g hg => by cases hg)
  refine ⟨v', _, rfl, ⟨gm, _, _, h3, fun x hx => hx⟩, hk.mono fun x hx => hF x (by rw [List.mem_singleton.1 hx]; exact footN_conn hm1), fun x hx => ?_, ho, hv⟩
  have hx' : x ∈ footN gn gm L C := by
    rcases footN_cases hx with rfl | rfl | ⟨d, hd, hx⟩
    · simp [footN]
    · simp [footN]
    · rcases upd_mem hd with rfl | ⟨hd, hne⟩
      · have hx2 : x = (C a).1 ∨ (Value.slice none 0 0).ownBlock = some x := by
          have h9 : x = (updC C a ((C a).1, .slice none 0 0) a).1 ∨ (updC C a ((C a).1, .slice none 0 0) a).2.ownBlock = some x := hx
          simpa [updC] using h9
        rcases hx2 with rfl | hx2
        · exact footN_conn hm1
        · cases hx2
      · have hne' : d.1 ≠ a := hne
        have hC : updC C a ((C a).1, .slice none 0 0) d.1 = C d.1 := by simp [updC, hne']
        have hx2 : x = (C d.1).1 ∨ (C d.1).2.ownBlock = some x := by
          have h9 : x = (updC C a ((C a).1, .slice none 0 0) d.1).1 ∨ (updC C a ((C a).1, .slice none 0 0) d.1).2.ownBlock = some x := hx
          rwa [hC] at h9
        rcases hx2 with rfl | hx2
        · exact footN_conn hd
        · exact footN_own hd hx2
  exact ⟨hF x hx', hS.lt hx'⟩
/-- both nets of a law, in blocks of their own; the blocks kk stand beside -/
structure LV (w0 w : World) (gn gx n last : Nat) (L : List Cn) (last2 : Nat) (L2 : List Cn) (kk : List (Nat × Obj)) : Prop where
  go : ∃ F G, NP w gn F n last L ∧ NR w gx G last2 L2 ∧ (∀ x ∈ F, x ∉ G ∧ w0.heap.size ≤ x ∧ ∀ p ∈ kk, x ≠ p.1) ∧ (∀ x ∈ G, w0.heap.size ≤ x ∧ ∀ p ∈ kk, x ≠ p.1)
  below : Below w0.heap.size w0 w
  blk : ∀ p ∈ kk, w.heap[p.1]? = some p.2
section
variable {w0 w w' : World} {gn gx n last last2 : Nat} {L L2 : List Cn} {kk : List (Nat × Obj)}
theorem heap_lt {w : World} {g : Nat} {o : Obj} (h : w.heap[g]? = some o) : g < w.heap.size := by
  rcases Nat.lt_or_ge g w.heap.size with h' | h'
  · exact h'
  · rw [Array.getElem?_eq_none h'] at h; cases h
theorem LV.quiet (h : LV w0 w gn gx n last L last2 L2 kk) (hb : Below w.heap.size w w') : LV w0 w' gn gx n last L last2 L2 kk := by
  obtain ⟨F, G, h1, h2, h3, h4⟩ := h.go
  exact ⟨⟨F, G, h1.below hb, h2.below hb, h3, h4⟩, h.below.trans (hb.mono h.below.size), fun p hp => (hb.block p.1 (heap_lt (h.blk p hp))).trans (h.blk p hp)⟩
theorem LV.less (h : LV w0 w gn gx n last L last2 L2 kk) {kk' : List (Nat × Obj)} (hk : ∀ p ∈ kk', p ∈ kk) : LV w0 w gn gx n last L last2 L2 kk' := by
  obtain ⟨F, G, h1, h2, h3, h4⟩ := h.go
  exact ⟨⟨F, G, h1, h2, fun x hx => ⟨(h3 x hx).1, (h3 x hx).2.1, fun p hp => (h3 x hx).2.2 p (hk p hp)⟩, fun x hx => ⟨(h4 x hx).1, fun p hp => (h4 x hx).2 p (hk p hp)⟩⟩, h.below, fun p hp => h.blk p (hk p hp)⟩
/-- a new block stands beside -/
theorem LV.box (h : LV w0 w gn gx n last L last2 L2 kk) (o : Obj) : LV w0 (w.alloc o) gn gx n last L last2 L2 ((w.heap.size, o) :: kk) := by
  have h' := h.quiet (w' := w.alloc o) ((Below.refl _ w).alloc (Nat.le_refl _) o)
  obtain ⟨F, G, h1, h2, h3, h4⟩ := h.go
  obtain ⟨F0, a1, a2, a3⟩ := h1.tight
  obtain ⟨G0, b1, b2, b3⟩ := h2.tight
  have hb : Below w.heap.size w (w.alloc o) := (Below.refl _ w).alloc (Nat.le_refl _) o
  refine ⟨⟨F0, G0, a1.below hb, b1.below hb, fun x hx => ⟨fun hg => (h3 x (a2 x hx)).1 (b2 x hg), (h3 x (a2 x hx)).2.1, fun p hp => ?_⟩, fun x hx => ⟨(h4 x (b2 x hx)).1, fun p hp => ?_⟩⟩, h'.below, fun p hp => ?_⟩
  · rcases List.mem_cons.1 hp with rfl | hp
    · exact Nat.ne_of_lt (a3 x hx)
    · exact (h3 x (a2 x hx)).2.2 p hp
  · rcases List.mem_cons.1 hp with rfl | hp
    · exact Nat.ne_of_lt (b3 x hx)
    · exact (h4 x (b2 x hx)).2 p hp
  · rcases List.mem_cons.1 hp with rfl | hp
    · exact heap_alloc_new w o
    · exact h'.blk p hp
theorem LV.np (h : LV w0 w gn gx n last L last2 L2 kk) : ∃ F, NP w gn F n last L ∧ ∀ w' n' last' L', NStp w w' gn F n' last' L' → LV w0 w' gn gx n' last' L' last2 L2 kk := by
  obtain ⟨F, G, h1, h2, h3, h4⟩ := h.go
  obtain ⟨G0, b1, b2, b3⟩ := h2.tight
  refine ⟨F, h1, fun w' n' last' L' hs => ?_⟩
  obtain ⟨F', c1, c2, c3⟩ := hs
  have hw := h.below.size
  refine ⟨⟨F', G0, c1, b1.kept c2 fun x hx hf => (h3 x hf).1 (b2 x hx), fun x hx => ?_, fun x hx => h4 x (b2 x hx)⟩, c2.below h.below (fun b hb => (h3 b hb).2.1) hw, fun p hp => (c2.block p.1 (heap_lt (h.blk p hp)) fun hf => (h3 _ hf).2.2 p hp rfl).trans (h.blk p hp)⟩
  rcases c3 x hx with hx | hx
  · exact ⟨fun hg => (h3 x hx).1 (b2 x hg), (h3 x hx).2⟩
  · exact ⟨fun hg => by have := b3 x hg; omega, Nat.le_trans hw hx, fun p hp => by have := heap_lt (h.blk p hp); omega⟩
theorem LV.nr (h : LV w0 w gn gx n last L last2 L2 kk) : ∃ G, NR w gx G last2 L2 ∧ ∀ w' last' L', RStp w w' gx G last' L' → LV w0 w' gn gx n last L last' L' kk := by
  obtain ⟨F, G, h1, h2, h3, h4⟩ := h.go
  obtain ⟨F0, a1, a2, a3⟩ := h1.tight
  refine ⟨G, h2, fun w' last' L' hs => ?_⟩
  obtain ⟨G', c1, c2, c3⟩ := hs
  have hw := h.below.size
  refine ⟨⟨F0, G', a1.kept c2 fun x hx hg => (h3 x (a2 x hx)).1 hg, c1, fun x hx => ⟨fun hg => ?_, (h3 x (a2 x hx)).2⟩, fun x hx => ?_⟩, c2.below h.below (fun b hb => (h4 b hb).1) hw, fun p hp => (c2.block p.1 (heap_lt (h.blk p hp)) fun hf => (h4 _ hf).2 p hp rfl).trans (h.blk p hp)⟩
  · rcases c3 x hg with hg | hg
    · exact (h3 x (a2 x hx)).1 hg
    · have := a3 x hx; omega
  · rcases c3 x hx with hx | hx
    · exact h4 x hx
    · exact ⟨Nat.le_trans hw hx, fun p hp => by have := heap_lt (h.blk p hp); omega⟩
theorem LV.ids (h : LV w0 w gn gx n last L last2 L2 kk) : L.Pairwise fun c d => c.1 < d.1 := by
  obtain ⟨F, h1, _⟩ := h.np
  exact h1.ids
theorem lv_new (w : World) : Calls Try.prog 7 #[] w fun e w' => ∃ gn, e = .returned (.pointer (some ⟨gn, 0, none⟩)) ∧ LV w (w'.alloc (.cells #[.slice none 0 0, .int .i64 0] 53)) gn w'.heap.size 0 0 [] 0 [] [] := by
  refine (np_new w).mono ?_
  rintro e w' ⟨gn, F, rfl, hN, hb, hF⟩
  obtain ⟨F0, a1, a2, a3⟩ := hN.tight
  refine ⟨gn, rfl, ⟨F0, [w'.heap.size], a1.below ((Below.refl _ w').alloc (Nat.le_refl _) _), nr_new w', fun x hx => ⟨fun hg => ?_, hF x (a2 x hx), by simp⟩, fun x hx => ?_⟩, hb.alloc hb.size _, by simp⟩
  · rw [List.mem_singleton.1 hg] at hx
    have := a3 _ hx; omega
  · rw [List.mem_singleton.1 hx]
    exact ⟨hb.size, by simp⟩
theorem lv_dial (h : LV w0 w gn gx n last L last2 L2 kk) (a : Int) (h1 : 0 ≤ a) (h2 : a ≤ 4294967295) (hl : last < 1000000000) (hn : n < 1000000000) :
    Calls Try.prog 8 #[.pointer (some ⟨gn, 0, none⟩), .int .i64 a] w fun e w' => e = .returned (.tuple #[.int .i64 ((last : Int) + 1), .int .i64 0]) ∧ LV w0 w' gn gx (n + 1) (last + 1) (L ++ [((last : Int) + 1, a, [])]) last2 L2 kk := by
  obtain ⟨F, hN, hst⟩ := h.np
  exact (np_dial hN a h1 h2 hl hn).mono fun e w' ⟨he, hs⟩ => ⟨he, hst _ _ _ _ hs⟩
theorem lv_dial_bad (h : LV w0 w gn gx n last L last2 L2 kk) (a : Int) (ha : a < 0 ∨ 4294967295 < a) :
    Calls Try.prog 8 #[.pointer (some ⟨gn, 0, none⟩), .int .i64 a] w fun e w' => e = .returned (.tuple #[.int .i64 0, .int .i64 1]) ∧ w = w' := by
  obtain ⟨F, hN, hst⟩ := h.np
  exact np_dial_bad hN a ha
theorem lv_rdial (h : LV w0 w gn gx n last L last2 L2 kk) (a : Int) (h1 : 0 ≤ a) (h2 : a ≤ 4294967295) (hl : last2 < 1000000000) (hn : L2.length < 1000000) :
    Calls Try.prog 16 #[.pointer (some ⟨gx, 0, none⟩), .int .i64 a] w fun e w' => e = .returned (.tuple #[.int .i64 ((last2 : Int) + 1), .int .i64 0]) ∧ LV w0 w' gn gx n last L (last2 + 1) (L2 ++ [((last2 : Int) + 1, a, [])]) kk := by
  obtain ⟨G, hN, hst⟩ := h.nr
  exact (nr_dial hN a h1 h2 hl hn).mono fun e w' ⟨he, hs⟩ => ⟨he, hst _ _ _ hs⟩
theorem lv_write (h : LV w0 w gn gx n last L last2 L2 kk) (a : Int) (h1 : -9223372036854775808 ≤ a) (h2 : a ≤ 9223372036854775807) {ad : Int} {l : List UInt8} (hc : lookC L a = some (a, ad, l)) (A : Option Addr) (m c : Nat) (b : List UInt8) (hr : RdB w A b) (hm : b.length = m) (hl : l.length + m ≤ reach) :
    Calls Try.prog 9 #[.pointer (some ⟨gn, 0, none⟩), .int .i64 a, .slice A m c] w fun e w' => e = .returned (.int .i64 0) ∧ LV w0 w' gn gx n last (upd L a ad (l ++ b)) last2 L2 kk := by
  obtain ⟨F, hN, hst⟩ := h.np
  exact (np_write hN a h1 h2 hc A m c b hr hm hl).mono fun e w' ⟨he, hs⟩ => ⟨he, hst _ _ _ _ hs⟩
theorem lv_write_none (h : LV w0 w gn gx n last L last2 L2 kk) (a : Int) (h1 : -9223372036854775808 ≤ a) (h2 : a ≤ 9223372036854775807) (hc : lookC L a = none) (A : Option Addr) (m c : Nat) :
    Calls Try.prog 9 #[.pointer (some ⟨gn, 0, none⟩), .int .i64 a, .slice A m c] w fun e w' => e = .returned (.int .i64 150) ∧ w = w' := by
  obtain ⟨F, hN, hst⟩ := h.np
  exact np_write_none hN a h1 h2 hc A m c
theorem lv_rwrite (h : LV w0 w gn gx n last L last2 L2 kk) (hp : L2.Pairwise fun c d => c.1 < d.1) (hn : L2.length < 1000000) (a : Int) {ad : Int} {l : List UInt8} (hc : lookC L2 a = some (a, ad, l)) (A : Option Addr) (m c : Nat) (b : List UInt8) (hr : RdB w A b) (hm : b.length = m) (hl : l.length + m ≤ reach) :
    Calls Try.prog 17 #[.pointer (some ⟨gx, 0, none⟩), .int .i64 a, .slice A m c] w fun e w' => e = .returned (.int .i64 0) ∧ LV w0 w' gn gx n last L last2 (upd L2 a ad (l ++ b)) kk := by
  obtain ⟨G, hN, hst⟩ := h.nr
  exact (nr_write hN hp hn a hc A m c b hr hm hl).mono fun e w' ⟨he, hs⟩ => ⟨he, hst _ _ _ hs⟩
theorem lv_rwrite_none (h : LV w0 w gn gx n last L last2 L2 kk) (hn : L2.length < 1000000) (a : Int) (hc : lookC L2 a = none) (A : Option Addr) (m c : Nat) :
    Calls Try.prog 17 #[.pointer (some ⟨gx, 0, none⟩), .int .i64 a, .slice A m c] w fun e w' => e = .returned (.int .i64 150) ∧ LV w0 w' gn gx n last L last2 L2 kk := by
  obtain ⟨G, hN, hst⟩ := h.nr
  exact (nr_write_none hN hn a hc A m c).mono fun e w' ⟨he, hb⟩ => ⟨he, h.quiet hb⟩
theorem lv_take (h : LV w0 w gn gx n last L last2 L2 kk) (a : Int) (h1 : -9223372036854775808 ≤ a) (h2 : a ≤ 9223372036854775807) {ad : Int} {l : List UInt8} (hc : lookC L a = some (a, ad, l)) (hl : l.length ≤ reach) :
    Calls Try.prog 10 #[.pointer (some ⟨gn, 0, none⟩), .int .i64 a] w fun e w' => ∃ A c kk', e = .returned (.tuple #[.slice A l.length c, .int .i64 0]) ∧ LV w0 w' gn gx n last (upd L a ad []) last2 L2 (kk' ++ kk) ∧ ∀ w2 : World, (∀ p ∈ kk', w2.heap[p.1]? = some p.2) → RdB w2 A l := by
  obtain ⟨F, G, e1, e2, e3, e4⟩ := h.go
  obtain ⟨G0, b1, b2, b3⟩ := e2.tight
  refine (np_take2 e1 a h1 h2 hc hl).mono ?_
  rintro e w' ⟨v', F', rfl, hN, hk, hF', ho, hv⟩
  have hw := h.below.size
  obtain ⟨A, c, rfl, hr⟩ := ho.rdB
  have hbase : LV w0 w' gn gx n last (upd L a ad []) last2 L2 kk :=
    ⟨⟨F', G0, hN, b1.kept hk fun x hx hf => (e3 x hf).1 (b2 x hx), fun x hx => ⟨fun hg => (e3 x (hF' x hx).1).1 (b2 x hg), (e3 x (hF' x hx).1).2⟩, fun x hx => e4 x (b2 x hx)⟩, hk.below h.below (fun b hb => (e3 b hb).2.1) hw, fun p hp => (hk.block p.1 (heap_lt (h.blk p hp)) fun hf => (e3 _ hf).2.2 p hp rfl).trans (h.blk p hp)⟩
  rcases ho.2 with ⟨h0, _⟩ | ⟨g, cap, cur, h0, hb, hrest⟩
  · refine ⟨A, c, [], rfl, hbase, fun w2 _ => ?_⟩
    injection h0 with hA hl0 _
    have : l = [] := List.eq_nil_of_length_eq_zero hl0
    subst this
    exact fun k hk => by simp at hk
  · refine ⟨A, c, [(g, .cells cur 5 (0, 0))], rfl, ⟨⟨F', G0, hN, b1.kept hk fun x hx hf => (e3 x hf).1 (b2 x hx), fun x hx => ⟨fun hg => (e3 x (hF' x hx).1).1 (b2 x hg), (e3 x (hF' x hx).1).2.1, fun p hp => ?_⟩, fun x hx => ⟨(e4 x (b2 x hx)).1, fun p hp => ?_⟩⟩, hbase.below, fun p hp => ?_⟩, fun w2 h9 => ?_⟩
    · rcases List.mem_cons.1 hp with rfl | hp
      · have e9 := hv g (by rw [h0]; rfl)
        have := (hF' x hx).2
        show x ≠ g
        omega
      · exact (e3 x (hF' x hx).1).2.2 p hp
    · rcases List.mem_cons.1 hp with rfl | hp
      · have e9 := hv g (by rw [h0]; rfl)
        have := b3 x hx
        show x ≠ g
        omega
      · exact (e4 x (b2 x hx)).2 p hp
    · rcases List.mem_cons.1 hp with rfl | hp
      · exact hb
      · exact hbase.blk p hp
    · have hg := h9 _ (List.mem_singleton.2 rfl)
      obtain ⟨A2, c2, e5, hr2⟩ := (show Own w2 5 1 (.slice A l.length c) l.length (bys l) from ⟨ho.1, .inr ⟨g, cap, cur, h0, hg, hrest⟩⟩).rdB
      injection e5 with e5
      rw [e5]
      exact hr2
theorem lv_take_none (h : LV w0 w gn gx n last L last2 L2 kk) (a : Int) (h1 : -9223372036854775808 ≤ a) (h2 : a ≤ 9223372036854775807) (hc : lookC L a = none) :
    Calls Try.prog 10 #[.pointer (some ⟨gn, 0, none⟩), .int .i64 a] w fun e w' => e = .returned (.tuple #[.slice none 0 0, .int .i64 150]) ∧ w = w' := by
  obtain ⟨F, hN, hst⟩ := h.np
  exact np_take_none hN a h1 h2 hc
theorem lv_rtake (h : LV w0 w gn gx n last L last2 L2 kk) (hp : L2.Pairwise fun c d => c.1 < d.1) (hn : L2.length < 1000000) (a : Int) {ad : Int} {l : List UInt8} (hc : lookC L2 a = some (a, ad, l)) :
    Calls Try.prog 18 #[.pointer (some ⟨gx, 0, none⟩), .int .i64 a] w fun e w' => ∃ A c, e = .returned (.tuple #[.slice A l.length c, .int .i64 0]) ∧ RdB w' A l ∧ LV w0 w' gn gx n last L last2 (upd L2 a ad []) kk := by
  obtain ⟨G, hN, hst⟩ := h.nr
  exact (nr_take hN hp hn a hc).mono fun e w' ⟨A, c, he, hr, hs⟩ => ⟨A, c, he, hr, hst _ _ _ hs⟩
theorem lv_rtake_none (h : LV w0 w gn gx n last L last2 L2 kk) (hn : L2.length < 1000000) (a : Int) (hc : lookC L2 a = none) :
    Calls Try.prog 18 #[.pointer (some ⟨gx, 0, none⟩), .int .i64 a] w fun e w' => e = .returned (.tuple #[.slice none 0 0, .int .i64 150]) ∧ LV w0 w' gn gx n last L last2 L2 kk := by
  obtain ⟨G, hN, hst⟩ := h.nr
  exact (nr_take_none hN hn a hc).mono fun e w' ⟨he, hb⟩ => ⟨he, h.quiet hb⟩
theorem lv_drop (h : LV w0 w gn gx n last L last2 L2 kk) (a : Int) (h1 : -9223372036854775808 ≤ a) (h2 : a ≤ 9223372036854775807) {c : Cn} (hc : lookC L a = some c) :
    Calls Try.prog 13 #[.pointer (some ⟨gn, 0, none⟩), .int .i64 a] w fun e w' => e = .returned (.int .i64 0) ∧ LV w0 w' gn gx n last (dr L a) last2 L2 kk := by
  obtain ⟨F, hN, hst⟩ := h.np
  exact (np_drop hN a h1 h2 hc).mono fun e w' ⟨he, hs⟩ => ⟨he, hst _ _ _ _ hs⟩
theorem lv_drop_none (h : LV w0 w gn gx n last L last2 L2 kk) (a : Int) (h1 : -9223372036854775808 ≤ a) (h2 : a ≤ 9223372036854775807) (hc : lookC L a = none) :
    Calls Try.prog 13 #[.pointer (some ⟨gn, 0, none⟩), .int .i64 a] w fun e w' => e = .returned (.int .i64 150) ∧ w = w' := by
  obtain ⟨F, hN, hst⟩ := h.np
  exact np_drop_none hN a h1 h2 hc
theorem lv_rdrop (h : LV w0 w gn gx n last L last2 L2 kk) (hp : L2.Pairwise fun c d => c.1 < d.1) (hn : L2.length < 1000000) (a : Int) {ad : Int} {l : List UInt8} (hc : lookC L2 a = some (a, ad, l)) :
    Calls Try.prog 19 #[.pointer (some ⟨gx, 0, none⟩), .int .i64 a] w fun e w' => e = .returned (.int .i64 0) ∧ LV w0 w' gn gx n last L last2 (dr L2 a) kk := by
  obtain ⟨G, hN, hst⟩ := h.nr
  exact (nr_drop hN hp hn a hc).mono fun e w' ⟨he, hs⟩ => ⟨he, hst _ _ _ hs⟩
theorem lv_rdrop_none (h : LV w0 w gn gx n last L last2 L2 kk) (hn : L2.length < 1000000) (a : Int) (hc : lookC L2 a = none) :
    Calls Try.prog 19 #[.pointer (some ⟨gx, 0, none⟩), .int .i64 a] w fun e w' => e = .returned (.int .i64 150) ∧ LV w0 w' gn gx n last L last2 L2 kk := by
  obtain ⟨G, hN, hst⟩ := h.nr
  exact (nr_drop_none hN hn a hc).mono fun e w' ⟨he, hb⟩ => ⟨he, h.quiet hb⟩
theorem lv_addr (h : LV w0 w gn gx n last L last2 L2 kk) (a : Int) (h1 : -9223372036854775808 ≤ a) (h2 : a ≤ 9223372036854775807) :
    Calls Try.prog 11 #[.pointer (some ⟨gn, 0, none⟩), .int .i64 a] w fun e w' => e = .returned (.tuple #[.int .i64 ((lookC L a).elim 0 (·.2.1)), .bool (lookC L a).isSome]) ∧ w = w' := by
  obtain ⟨F, hN, hst⟩ := h.np
  exact np_addr hN a h1 h2
theorem lv_raddr (h : LV w0 w gn gx n last L last2 L2 kk) (hn : L2.length < 1000000) (a : Int) :
    Calls Try.prog 20 #[.pointer (some ⟨gx, 0, none⟩), .int .i64 a] w fun e w' => e = .returned (.tuple #[.int .i64 ((lookC L2 a).elim 0 (·.2.1)), .bool (lookC L2 a).isSome]) ∧ LV w0 w' gn gx n last L last2 L2 kk := by
  obtain ⟨G, hN, hst⟩ := h.nr
  exact (nr_addr hN hn a).mono fun e w' ⟨he, hb⟩ => ⟨he, h.quiet hb⟩
theorem lv_conns (h : LV w0 w gn gx n last L last2 L2 kk) (hn : n < 1000000) :
    Calls Try.prog 15 #[.pointer (some ⟨gn, 0, none⟩)] w fun e w' => ∃ v, e = .returned v ∧ Own w' 3 1 v (L.map (·.1)).length ((L.map (·.1)).map Go.encZ) ∧ Below w.heap.size w w' ∧ LV w0 w' gn gx n last L last2 L2 kk := by
  obtain ⟨F, hN, hst⟩ := h.np
  exact (np_conns hN hn).mono fun e w' ⟨v, he, ho, hb, _⟩ => ⟨v, he, ho, hb, h.quiet hb⟩
theorem lv_rconns (h : LV w0 w gn gx n last L last2 L2 kk) (hn : L2.length < 1000000) :
    Calls Try.prog 21 #[.pointer (some ⟨gx, 0, none⟩)] w fun e w' => ∃ v, e = .returned v ∧ Own w' 3 1 v (L2.map (·.1)).length ((L2.map (·.1)).map Go.encZ) ∧ Below w.heap.size w w' ∧ LV w0 w' gn gx n last L last2 L2 kk := by
  obtain ⟨G, hN, hst⟩ := h.nr
  exact (nr_conns hN hn).mono fun e w' ⟨v, he, ho, hb, _⟩ => ⟨v, he, ho, hb, h.quiet hb⟩
end
end Go.Proofs.Ytdnbdmffaoimgaa
