/- The calls on a program's net in the words of its connections alone. -/
import Derived.Test.YtdnbdmffaoimgaaNetS
namespace Go.Proofs.Ytdnbdmffaoimgaa
open Go.RowKit Go.Maps
set_option linter.unusedSimpArgs false
set_option linter.unusedVariables false
set_option maxRecDepth 100000

/-- a net with the connections L in blocks of F -/
def NP (w : World) (gn : Nat) (F : List Nat) (n last : Nat) (L : List Cn) : Prop := ∃ gm f C, NetS w gn gm last n f L C ∧ ∀ x ∈ footN gn gm L C, x ∈ F
/-- behind a call that changes the net alone -/
def NStp (w w' : World) (gn : Nat) (F : List Nat) (n last : Nat) (L : List Cn) : Prop := ∃ F', NP w' gn F' n last L ∧ Kb w w' F ∧ ∀ x ∈ F', x ∈ F ∨ w.heap.size ≤ x
def lookC (L : List Cn) (a : Int) : Option Cn := L.find? fun c => c.1 == a
theorem lookC_some {L : List Cn} {a : Int} {c : Cn} (h : lookC L a = some c) : c ∈ L ∧ c.1 = a := by
  unfold lookC at h
  exact ⟨List.mem_of_find?_eq_some h, by simpa using List.find?_some h⟩
theorem lookC_none {L : List Cn} {a : Int} (h : lookC L a = none) : a ∉ L.map (·.1) := by
  intro hm
  obtain ⟨c, hc, e⟩ := List.mem_map.1 hm
  unfold lookC at h
  rw [List.find?_eq_none] at h
  exact h c hc (by simpa using e)
section
variable {w w' : World} {gn n last : Nat} {F : List Nat} {L : List Cn}
theorem NP.kept (h : NP w gn F n last L) {X : List Nat} (hk : Kb w w' X) (hX : ∀ x ∈ F, x ∉ X) : NP w' gn F n last L := by
  obtain ⟨gm, f, C, h1, h2⟩ := h
  exact ⟨gm, f, C, h1.keep hk fun x hx => hX x (h2 x hx), h2⟩
theorem NP.below (h : NP w gn F n last L) (hb : Below w.heap.size w w') : NP w' gn F n last L := h.kept (Kb.of_below hb []) (by simp)
theorem np_new (w : World) : Calls Try.prog 7 #[] w fun e w' => ∃ gn F, e = .returned (.pointer (some ⟨gn, 0, none⟩)) ∧ NP w' gn F 0 0 [] ∧ Below w.heap.size w w' ∧ ∀ x ∈ F, w.heap.size ≤ x := by
  refine (new_calls w).mono ?_
  rintro e w' ⟨gn, gm, rfl, hN, hb, h1, h2⟩
  exact ⟨gn, [gn, gm], rfl, ⟨gm, _, fun _ => (0, .slice none 0 0), ⟨hN, by simp, by simp, by simp, by simp, by simp, .nil, by simp⟩, by simp [footN]⟩, hb, by simp [h1, h2]⟩
theorem np_dial (h : NP w gn F n last L) (a : Int) (h1 : 0 ≤ a) (h2 : a ≤ 4294967295) (hl : last < 1000000000) (hn : n < 1000000000) :
    Calls Try.prog 8 #[.pointer (some ⟨gn, 0, none⟩), .int .i64 a] w fun e w' => e = .returned (.tuple #[.int .i64 ((last : Int) + 1), .int .i64 0]) ∧ NStp w w' gn F (n + 1) (last + 1) (L ++ [((last : Int) + 1, a, [])]) := by
  obtain ⟨gm, f, C, hS, hF⟩ := h
  refine (dial_calls gn gm last n f a w hS.net h1 h2 hl hn).mono ?_
  rintro e w' ⟨gc, rfl, hgc, hN, hb, hk⟩
  obtain ⟨h3, h4⟩ := hS.add hgc hN rfl hb hk
  exact ⟨rfl, _, ⟨gm, _, _, h3, fun x hx => hx⟩, hk.mono (fun x hx => hF x (by simp [footN] at hx ⊢; rcases hx with h | h <;> simp [h])), fun x hx => (h4 x hx).elim (fun h => .inl (hF x h)) .inr⟩
theorem np_dial_bad (h : NP w gn F n last L) (a : Int) (ha : a < 0 ∨ 4294967295 < a) :
    Calls Try.prog 8 #[.pointer (some ⟨gn, 0, none⟩), .int .i64 a] w fun e w' => e = .returned (.tuple #[.int .i64 0, .int .i64 1]) ∧ w = w' := by
  obtain ⟨gm, f, C, hS, hF⟩ := h
  have q0 : w.cell? ⟨gn, 0, none⟩ = some (.map (some gm)) := hS.net.blk.cell 0
  have hmn := fun w : World => run_eql_map_nil (P := Try.prog) w 44 3 55 (some gm) Try.underlying44
  clear hS hF
  by_cases hn : a < 0
  · clear ha
    go_enter Try.func8, Try.ntmps8
    go_wp2_with fail
    go_ret2
    exact ⟨rfl, rfl⟩
  · have ha' : a > 4294967295 := by omega
    clear ha
    go_enter Try.func8, Try.ntmps8
    go_wp2_with fail
    go_ret2
    exact ⟨rfl, rfl⟩
theorem NetS.at_some {gm : Nat} {f : Lit → Option Nat} {C : Int → Nat × Value} (hS : NetS w gn gm last n f L C) {a : Int} {c : Cn} (hc : lookC L a = some c) : c ∈ L ∧ c.1 = a ∧ f (kint a) = some (C c.1).1 := by
  obtain ⟨h1, h2⟩ := lookC_some hc
  refine ⟨h1, h2, ?_⟩
  rw [hS.hf a, if_pos (List.mem_map.2 ⟨c, h1, h2⟩), h2]
theorem NetS.at_none {gm : Nat} {f : Lit → Option Nat} {C : Int → Nat × Value} (hS : NetS w gn gm last n f L C) {a : Int} (hc : lookC L a = none) : f (kint a) = none := by
  rw [hS.hf a, if_neg (lookC_none hc)]
theorem np_write (h : NP w gn F n last L) (a : Int) (h1 : -9223372036854775808 ≤ a) (h2 : a ≤ 9223372036854775807) {ad : Int} {l : List UInt8} (hc : lookC L a = some (a, ad, l)) (A : Option Addr) (m c : Nat) (b : List UInt8) (hr : RdB w A b) (hm : b.length = m) (hl : l.length + m ≤ reach) :
    Calls Try.prog 9 #[.pointer (some ⟨gn, 0, none⟩), .int .i64 a, .slice A m c] w fun e w' => e = .returned (.int .i64 0) ∧ NStp w w' gn F n last (upd L a ad (l ++ b)) := by
  obtain ⟨gm, f, C, hS, hF⟩ := h
  obtain ⟨hm1, _, hf⟩ := hS.at_some hc
  refine (write_calls gn gm last n _ f a ad A m c b l _ w hS.net h1 h2 hf (hS.conn _ hm1) (hS.own _ hm1) hr hm hl).mono ?_
  rintro e w' ⟨v', rfl, hN, hb, ho, hk, hv⟩
  obtain ⟨h3, h4⟩ := hS.replace hm1 hk hN hb ho hv
  refine ⟨rfl, _, ⟨gm, _, _, h3, fun x hx => hx⟩, hk.mono fun x hx => hF x ?_, fun x hx => (h4 x hx).elim (fun h => .inl (hF x h)) .inr⟩
  rcases List.mem_cons.1 hx with rfl | hx
  · exact footN_conn hm1
  · exact footN_own hm1 (by simpa using hx)
theorem np_write_none (h : NP w gn F n last L) (a : Int) (h1 : -9223372036854775808 ≤ a) (h2 : a ≤ 9223372036854775807) (hc : lookC L a = none) (A : Option Addr) (m c : Nat) :
    Calls Try.prog 9 #[.pointer (some ⟨gn, 0, none⟩), .int .i64 a, .slice A m c] w fun e w' => e = .returned (.int .i64 150) ∧ w = w' := by
  obtain ⟨gm, f, C, hS, hF⟩ := h
  exact write_none gn gm last n f a A m c w hS.net h1 h2 (hS.at_none hc)
theorem np_take (h : NP w gn F n last L) (a : Int) (h1 : -9223372036854775808 ≤ a) (h2 : a ≤ 9223372036854775807) {ad : Int} {l : List UInt8} (hc : lookC L a = some (a, ad, l)) (hl : l.length ≤ reach) :
    Calls Try.prog 10 #[.pointer (some ⟨gn, 0, none⟩), .int .i64 a] w fun e w' => ∃ v', e = .returned (.tuple #[v', .int .i64 0]) ∧ NStp w w' gn F n last (upd L a ad []) ∧ Own w' 5 1 v' l.length (bys l) ∧ ∀ g, v'.ownBlock = some g → w.heap.size ≤ g := by
  obtain ⟨gm, f, C, hS, hF⟩ := h
  obtain ⟨hm1, _, hf⟩ := hS.at_some hc
  refine (take_calls gn gm last n _ f a ad l _ w hS.net h1 h2 hf (hS.conn _ hm1) (hS.own _ hm1) hl).mono ?_
  rintro e w' ⟨v', rfl, hN, hb, ho, hk, hv⟩
  obtain ⟨h3, h4⟩ := hS.replace (b' := []) hm1 (hk.mono (by simp)) hN hb (Own.nil _ _ _) (fun g hg => by cases hg)
  exact ⟨v', rfl, ⟨_, ⟨gm, _, _, h3, fun x hx => hx⟩, hk.mono fun x hx => hF x (by rw [List.mem_singleton.1 hx]; exact footN_conn hm1), fun x hx => (h4 x hx).elim (fun h => .inl (hF x h)) .inr⟩, ho, hv⟩
theorem np_take_none (h : NP w gn F n last L) (a : Int) (h1 : -9223372036854775808 ≤ a) (h2 : a ≤ 9223372036854775807) (hc : lookC L a = none) :
    Calls Try.prog 10 #[.pointer (some ⟨gn, 0, none⟩), .int .i64 a] w fun e w' => e = .returned (.tuple #[.slice none 0 0, .int .i64 150]) ∧ w = w' := by
  obtain ⟨gm, f, C, hS, hF⟩ := h
  have hf := hS.at_none hc
  have hN := hS.net
  clear hS hF
  go_enter Try.func10, Try.ntmps10
  go_wp2_with fail
  refine (of_calls gn gm last n f a w hN h1 h2).mono ?_
  rintro e w' ⟨rfl, rfl⟩
  rw [hf]
  go_wp2_with fail
  go_ret2
  exact ⟨rfl, rfl⟩
theorem np_drop (h : NP w gn F n last L) (a : Int) (h1 : -9223372036854775808 ≤ a) (h2 : a ≤ 9223372036854775807) {c : Cn} (hc : lookC L a = some c) :
    Calls Try.prog 13 #[.pointer (some ⟨gn, 0, none⟩), .int .i64 a] w fun e w' => e = .returned (.int .i64 0) ∧ NStp w w' gn F n last (dr L a) := by
  obtain ⟨gm, f, C, hS, hF⟩ := h
  obtain ⟨hm1, _, hf⟩ := hS.at_some hc
  refine (drop_calls gn gm last n _ f a w hS.net h1 h2 hf).mono ?_
  rintro e w' ⟨rfl, hN, hk⟩
  obtain ⟨h3, h4⟩ := hS.drop a hN hk
  exact ⟨rfl, _, ⟨gm, _, _, h3, fun x hx => hx⟩, hk.mono fun x hx => hF x (by rw [List.mem_singleton.1 hx]; simp [footN]), fun x hx => (h4 x hx).elim (fun h => .inl (hF x h)) .inr⟩
theorem np_drop_none (h : NP w gn F n last L) (a : Int) (h1 : -9223372036854775808 ≤ a) (h2 : a ≤ 9223372036854775807) (hc : lookC L a = none) :
    Calls Try.prog 13 #[.pointer (some ⟨gn, 0, none⟩), .int .i64 a] w fun e w' => e = .returned (.int .i64 150) ∧ w = w' := by
  obtain ⟨gm, f, C, hS, hF⟩ := h
  exact drop_none gn gm last n f a w hS.net h1 h2 (hS.at_none hc)
theorem np_addr (h : NP w gn F n last L) (a : Int) (h1 : -9223372036854775808 ≤ a) (h2 : a ≤ 9223372036854775807) :
    Calls Try.prog 11 #[.pointer (some ⟨gn, 0, none⟩), .int .i64 a] w fun e w' => e = .returned (.tuple #[.int .i64 ((lookC L a).elim 0 (·.2.1)), .bool (lookC L a).isSome]) ∧ w = w' := by
  obtain ⟨gm, f, C, hS, hF⟩ := h
  cases hc : lookC L a with
  | none => exact addr_none gn gm last n f a w hS.net h1 h2 (hS.at_none hc)
  | some c =>
    obtain ⟨hm1, _, hf⟩ := hS.at_some hc
    exact addr_calls gn gm last n _ f a c.2.1 _ w hS.net h1 h2 hf (hS.conn _ hm1)
theorem np_conns (h : NP w gn F n last L) (hn : n < 1000000) :
    Calls Try.prog 15 #[.pointer (some ⟨gn, 0, none⟩)] w fun e w' => ∃ v, e = .returned v ∧ Own w' 3 1 v (L.map (·.1)).length ((L.map (·.1)).map Go.encZ) ∧ Below w.heap.size w w' ∧ ∀ g, v.ownBlock = some g → w.heap.size ≤ g := by
  obtain ⟨gm, f, C, hS, hF⟩ := h
  exact conns_calls gn gm last n f w hS.net hn (List.pairwise_map.2 hS.ids) (fun a => by rw [hS.hf a]; split <;> simp_all)
end
end Go.Proofs.Ytdnbdmffaoimgaa
