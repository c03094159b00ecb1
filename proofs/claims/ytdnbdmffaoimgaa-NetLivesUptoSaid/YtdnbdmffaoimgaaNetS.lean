/- The program's net in the words of its connections alone: numbers, addresses, bytes. -/
import Derived.Test.YtdnbdmffaoimgaaConns
import Derived.Test.YtdnbdmffaoimgaaNumbers
namespace Go.Proofs.Ytdnbdmffaoimgaa
open Go.RowKit Go.Maps
set_option linter.unusedSimpArgs false
set_option linter.unusedVariables false
set_option maxRecDepth 100000

/-- a connection: its number, whose it is, what was written and not taken -/
abbrev Cn := Int × Int × List UInt8
/-- a net's blocks; the connection of number a has block (C a).1 and row (C a).2 -/
structure NetS (w : World) (gn gm last n : Nat) (f : Lit → Option Nat) (L : List Cn) (C : Int → Nat × Value) : Prop where
  net : NetAt w gn gm last n f
  hf : ∀ a, f (kint a) = if a ∈ L.map (·.1) then some (C a).1 else none
  conn : ∀ c ∈ L, Blk w (C c.1).1 57 #[.int .i64 c.2.1, (C c.1).2]
  own : ∀ c ∈ L, Own w 5 1 (C c.1).2 c.2.2.length (bys c.2.2)
  gs : ∀ c ∈ L, ∀ d ∈ L, c.1 ≠ d.1 → (C c.1).1 ≠ (C d.1).1
  vs : ∀ c ∈ L, ∀ d ∈ L, c.1 ≠ d.1 → ∀ g, (C c.1).2.ownBlock = some g → (C d.1).2.ownBlock ≠ some g
  ids : L.Pairwise fun c d => c.1 < d.1
  le : ∀ c ∈ L, 1 ≤ c.1 ∧ c.1 ≤ (last : Int)
def footN (gn gm : Nat) (L : List Cn) (C : Int → Nat × Value) : List Nat := gn :: gm :: L.flatMap fun c => (C c.1).1 :: (C c.1).2.ownBlock.toList
theorem footN_conn {gn gm : Nat} {L : List Cn} {C : Int → Nat × Value} {c : Cn} (h : c ∈ L) : (C c.1).1 ∈ footN gn gm L C := by
  simp only [footN, List.mem_cons, List.mem_flatMap]
  exact .inr (.inr ⟨c, h, .inl rfl⟩)
theorem footN_own {gn gm : Nat} {L : List Cn} {C : Int → Nat × Value} {c : Cn} (h : c ∈ L) {g : Nat} (hg : (C c.1).2.ownBlock = some g) : g ∈ footN gn gm L C := by
  simp only [footN, List.mem_cons, List.mem_flatMap]
  exact .inr (.inr ⟨c, h, .inr (by simp [hg])⟩)
theorem footN_cases {gn gm : Nat} {L : List Cn} {C : Int → Nat × Value} {x : Nat} (h : x ∈ footN gn gm L C) : x = gn ∨ x = gm ∨ ∃ c ∈ L, x = (C c.1).1 ∨ (C c.1).2.ownBlock = some x := by
  simp only [footN, List.mem_cons, List.mem_flatMap] at h
  rcases h with h | h | ⟨c, hc, h | h⟩
  · exact .inl h
  · exact .inr (.inl h)
  · exact .inr (.inr ⟨c, hc, .inl h⟩)
  · exact .inr (.inr ⟨c, hc, .inr (by simpa using h)⟩)
section
variable {w w' : World} {gn gm last n : Nat} {f : Lit → Option Nat} {L : List Cn} {C : Int → Nat × Value}
theorem NetS.lt (h : NetS w gn gm last n f L C) {x : Nat} (hx : x ∈ footN gn gm L C) : x < w.heap.size := by
  rcases footN_cases hx with rfl | rfl | ⟨c, hc, rfl | hg⟩
  · exact h.net.blk.lt
  · exact h.net.map.lt
  · exact (h.conn c hc).lt
  · exact (h.own c hc).block_lt hg
theorem NetS.keep (h : NetS w gn gm last n f L C) {X : List Nat} (hk : Kb w w' X) (hX : ∀ x ∈ footN gn gm L C, x ∉ X) : NetS w' gn gm last n f L C :=
  ⟨h.net.kept hk (hX _ (by simp [footN])) (hX _ (by simp [footN])), h.hf, fun c hc => hk.blk (h.conn c hc) (hX _ (footN_conn hc)), fun c hc => hk.own (h.own c hc) fun g hg => hX _ (footN_own hc hg), h.gs, h.vs, h.ids, h.le⟩
theorem ids_uniq (hp : L.Pairwise fun c d => c.1 < d.1) {c d : Cn} (hc : c ∈ L) (hd : d ∈ L) (h : c.1 = d.1) : c = d := by
  induction L with
  | nil => cases hc
  | cons a r ih =>
    rw [List.pairwise_cons] at hp
    rcases List.mem_cons.1 hc with rfl | hc'
    · rcases List.mem_cons.1 hd with rfl | hd'
      · rfl
      · have := hp.1 d hd'; omega
    · rcases List.mem_cons.1 hd with rfl | hd'
      · have := hp.1 c hc'; omega
      · exact ih hp.2 hc' hd'
/-- the connection of number a is another one -/
def upd (L : List Cn) (a ad : Int) (b : List UInt8) : List Cn := L.map fun c => if c.1 = a then (a, ad, b) else c
theorem upd_ids (L : List Cn) (a ad : Int) (b : List UInt8) : (upd L a ad b).map (·.1) = L.map (·.1) := by
  unfold upd
  rw [List.map_map]
  refine List.map_congr_left fun c hc => ?_
  by_cases h : c.1 = a <;> simp [h]
theorem upd_mem {a ad : Int} {b : List UInt8} {c : Cn} (h : c ∈ upd L a ad b) : c = (a, ad, b) ∨ (c ∈ L ∧ c.1 ≠ a) := by
  unfold upd at h
  rw [List.mem_map] at h
  obtain ⟨z, hz, rfl⟩ := h
  by_cases hk : z.1 = a
  · simp [hk]
  · simp [hk, hz]
theorem pw_ids {L' : List Cn} (h : L'.map (·.1) = L.map (·.1)) (hp : L.Pairwise fun c d => c.1 < d.1) : L'.Pairwise fun c d => c.1 < d.1 := by
  have h1 : (L.map (·.1)).Pairwise (· < ·) := List.pairwise_map.2 hp
  rw [← h] at h1
  exact List.pairwise_map.1 h1
theorem NetS.conn_ne (h : NetS w gn gm last n f L C) {c : Cn} (hc : c ∈ L) : (C c.1).1 ≠ gn ∧ (C c.1).1 ≠ gm := net_conn_ne h.net (h.conn c hc)
theorem NetS.own_ne (h : NetS w gn gm last n f L C) {c : Cn} (hc : c ∈ L) {g : Nat} (hg : (C c.1).2.ownBlock = some g) : g ≠ gn ∧ g ≠ gm ∧ ∀ d ∈ L, g ≠ (C d.1).1 :=
  ⟨(net_own_ne h.net (h.own c hc) g hg).1, (net_own_ne h.net (h.own c hc) g hg).2, fun d hd => conn_own_ne (h.conn d hd) (h.own c hc) g hg⟩
def updC (C : Int → Nat × Value) (a : Int) (p : Nat × Value) : Int → Nat × Value := fun x => if x = a then p else C x
theorem NetS.replace (h : NetS w gn gm last n f L C) {c : Cn} (hc : c ∈ L) {v' : Value} {b' : List UInt8} (hk : Kb w w' ((C c.1).1 :: (C c.1).2.ownBlock.toList)) (hn : NetAt w' gn gm last n f)
    (hb : Blk w' (C c.1).1 57 #[.int .i64 c.2.1, v']) (ho : Own w' 5 1 v' b'.length (bys b')) (hv : ∀ g, v'.ownBlock = some g → (C c.1).2.ownBlock = some g ∨ w.heap.size ≤ g) :
    NetS w' gn gm last n f (upd L c.1 c.2.1 b') (updC C c.1 ((C c.1).1, v')) ∧ ∀ x ∈ footN gn gm (upd L c.1 c.2.1 b') (updC C c.1 ((C c.1).1, v')), x ∈ footN gn gm L C ∨ w.heap.size ≤ x := by
  have hC : ∀ d : Cn, d.1 ≠ c.1 → updC C c.1 ((C c.1).1, v') d.1 = C d.1 := fun d hd => by simp [updC, hd]
  have hCc : updC C c.1 ((C c.1).1, v') c.1 = ((C c.1).1, v') := by simp [updC]
  have hL1 : ∀ d ∈ L, d.1 ≠ c.1 → (C d.1).1 ∉ (C c.1).1 :: (C c.1).2.ownBlock.toList := by
    intro d hd hne hx
    rcases List.mem_cons.1 hx with e | hx
    · exact h.gs d hd c hc hne e
    · exact (h.own_ne hc (by simpa using hx)).2.2 d hd rfl
  have hL2 : ∀ d ∈ L, d.1 ≠ c.1 → ∀ g, (C d.1).2.ownBlock = some g → g ∉ (C c.1).1 :: (C c.1).2.ownBlock.toList := by
    intro d hd hne g hg hx
    rcases List.mem_cons.1 hx with e | hx
    · exact (h.own_ne hd hg).2.2 c hc e
    · exact h.vs d hd c hc hne g hg (by simpa using hx)
  have hv' : ∀ d ∈ L, d.1 ≠ c.1 → ∀ g, v'.ownBlock = some g → (C d.1).2.ownBlock ≠ some g := by
    intro d hd hne g hg hx
    rcases hv g hg with h1 | h1
    · exact h.vs d hd c hc hne g hx h1
    · have := (h.own d hd).block_lt hx; omega
  refine ⟨⟨hn, fun a => ?_, fun d hd => ?_, fun d hd => ?_, fun d hd e he hne => ?_, fun d hd e he hne g hg hx => ?_, pw_ids (upd_ids ..) h.ids, fun d hd => ?_⟩, fun x hx => ?_⟩
  · rw [upd_ids, h.hf a]
    by_cases ha : a = c.1
    · subst ha; simp [updC]
    · simp [updC, ha]
  · rcases upd_mem hd with rfl | ⟨hd, hne⟩
    · show Blk w' (updC C c.1 ((C c.1).1, v') c.1).1 _ #[_, (updC C c.1 ((C c.1).1, v') c.1).2]
      rw [hCc]; exact hb
    · rw [hC d hne]; exact hk.blk (h.conn d hd) (hL1 d hd hne)
  · rcases upd_mem hd with rfl | ⟨hd, hne⟩
    · show Own w' _ 1 (updC C c.1 ((C c.1).1, v') c.1).2 _ _
      rw [hCc]; exact ho
    · rw [hC d hne]; exact hk.own (h.own d hd) (hL2 d hd hne)
  · rcases upd_mem hd with rfl | ⟨hd, hdn⟩
    · rcases upd_mem he with rfl | ⟨he, hen⟩
      · exact absurd rfl hne
      · rw [hC e hen]
        show (updC C c.1 ((C c.1).1, v') c.1).1 ≠ _
        rw [hCc]
        exact h.gs c hc e he fun e' => hen e'.symm
    · rw [hC d hdn]
      rcases upd_mem he with rfl | ⟨he, hen⟩
      · show _ ≠ (updC C c.1 ((C c.1).1, v') c.1).1
        rw [hCc]
        exact h.gs d hd c hc hdn
      · rw [hC e hen]
        exact h.gs d hd e he hne
  · rcases upd_mem hd with rfl | ⟨hd, hdn⟩
    · have hg' : v'.ownBlock = some g := by
        have h1 : (updC C c.1 ((C c.1).1, v') c.1).2.ownBlock = some g := hg
        rwa [hCc] at h1
      rcases upd_mem he with rfl | ⟨he, hen⟩
      · exact absurd rfl hne
      · rw [hC e hen] at hx
        exact hv' e he hen g hg' hx
    · rw [hC d hdn] at hg
      rcases upd_mem he with rfl | ⟨he, hen⟩
      · have hx' : v'.ownBlock = some g := by
          have h1 : (updC C c.1 ((C c.1).1, v') c.1).2.ownBlock = some g := hx
          rwa [hCc] at h1
        exact hv' d hd hdn g hx' hg
      · rw [hC e hen] at hx
        exact h.vs d hd e he hne g hg hx
  · rcases upd_mem hd with rfl | ⟨hd, _⟩
    · exact h.le c hc
    · exact h.le d hd
  · rcases footN_cases hx with rfl | rfl | ⟨d, hd, hx⟩
    · exact .inl (by simp [footN])
    · exact .inl (by simp [footN])
    · rcases upd_mem hd with rfl | ⟨hd, hne⟩
      · have hx' : x = (C c.1).1 ∨ v'.ownBlock = some x := by
          have h1 : x = (updC C c.1 ((C c.1).1, v') c.1).1 ∨ (updC C c.1 ((C c.1).1, v') c.1).2.ownBlock = some x := hx
          rwa [hCc] at h1
        rcases hx' with rfl | hx'
        · exact .inl (footN_conn hc)
        · rcases hv x hx' with h1 | h1
          · exact .inl (footN_own hc h1)
          · exact .inr h1
      · rw [hC d hne] at hx
        rcases hx with rfl | hx
        · exact .inl (footN_conn hd)
        · exact .inl (footN_own hd hx)
theorem NetS.add (h : NetS w gn gm last n f L C) {gc n' : Nat} {ad : Int} {f' : Lit → Option Nat} (hgc : w.heap.size ≤ gc) (hn : NetAt w' gn gm (last + 1) n' f') (hf' : f' = turned f (kint ((last : Int) + 1)) (some gc))
    (hb : Blk w' gc 57 #[.int .i64 ad, .slice none 0 0]) (hk : Kb w w' [gn, gm]) :
    NetS w' gn gm (last + 1) n' f' (L ++ [((last : Int) + 1, ad, [])]) (updC C ((last : Int) + 1) (gc, .slice none 0 0)) ∧ ∀ x ∈ footN gn gm (L ++ [((last : Int) + 1, ad, [])]) (updC C ((last : Int) + 1) (gc, .slice none 0 0)), x ∈ footN gn gm L C ∨ w.heap.size ≤ x := by
  have hne : ∀ d ∈ L, d.1 ≠ (last : Int) + 1 := fun d hd => by have := (h.le d hd).2; omega
  have hC : ∀ d ∈ L, updC C ((last : Int) + 1) (gc, .slice none 0 0) d.1 = C d.1 := fun d hd => by simp [updC, hne d hd]
  have hCc : updC C ((last : Int) + 1) (gc, .slice none 0 0) ((last : Int) + 1) = (gc, .slice none 0 0) := by simp [updC]
  have hm : ∀ d ∈ L ++ [(((last : Int) + 1, ad, []) : Cn)], d ∈ L ∨ d = ((last : Int) + 1, ad, []) := fun d hd => by simpa using hd
  have hlt : ∀ d ∈ L, (C d.1).1 < gc := fun d hd => Nat.lt_of_lt_of_le (h.conn d hd).lt hgc
  refine ⟨⟨hn, fun a => ?_, fun d hd => ?_, fun d hd => ?_, fun d hd e he hne' => ?_, fun d hd e he hne' g hg hx => ?_, ?_, fun d hd => ?_⟩, fun x hx => ?_⟩
  · rw [hf']
    unfold turned
    by_cases ha : a = (last : Int) + 1
    · subst ha
      rw [if_pos rfl, if_pos (by simp), hCc]
    · rw [if_neg (fun e => ha (kint_inj e)), h.hf a]
      have : (a ∈ (L ++ [(((last : Int) + 1, ad, []) : Cn)]).map (·.1)) ↔ a ∈ L.map (·.1) := by simp [ha]
      simp only [this, updC, if_neg ha]
  · rcases hm d hd with hd | rfl
    · rw [hC d hd]
      exact hk.blk (h.conn d hd) (by simpa using h.conn_ne hd)
    · show Blk w' (updC C ((last : Int) + 1) (gc, .slice none 0 0) ((last : Int) + 1)).1 _ #[_, (updC C ((last : Int) + 1) (gc, .slice none 0 0) ((last : Int) + 1)).2]
      rw [hCc]; exact hb
  · rcases hm d hd with hd | rfl
    · rw [hC d hd]
      exact hk.own (h.own d hd) fun g hg => by simpa using ⟨(h.own_ne hd hg).1, (h.own_ne hd hg).2.1⟩
    · show Own w' _ 1 (updC C ((last : Int) + 1) (gc, .slice none 0 0) ((last : Int) + 1)).2 0 []
      rw [hCc]; exact Own.nil _ _ _
  · rcases hm d hd with hd | rfl
    · rw [hC d hd]
      rcases hm e he with he | rfl
      · rw [hC e he]; exact h.gs d hd e he hne'
      · show _ ≠ (updC C ((last : Int) + 1) (gc, .slice none 0 0) ((last : Int) + 1)).1
        rw [hCc]
        exact Nat.ne_of_lt (hlt d hd)
    · show (updC C ((last : Int) + 1) (gc, .slice none 0 0) ((last : Int) + 1)).1 ≠ _
      rw [hCc]
      rcases hm e he with he | rfl
      · rw [hC e he]; exact (Nat.ne_of_lt (hlt e he)).symm
      · exact absurd rfl hne'
  · have hnil : ∀ g, ¬ ((updC C ((last : Int) + 1) (gc, .slice none 0 0) ((last : Int) + 1)).2.ownBlock = some g) := fun g hg => by
      rw [hCc] at hg
      cases hg
    rcases hm d hd with hd | rfl
    · rw [hC d hd] at hg
      rcases hm e he with he | rfl
      · rw [hC e he] at hx; exact h.vs d hd e he hne' g hg hx
      · exact hnil g hx
    · exact hnil g hg
  · rw [List.pairwise_append]
    refine ⟨h.ids, List.pairwise_singleton _ _, fun d hd e he => ?_⟩
    rw [List.mem_singleton.1 he]
    have := (h.le d hd).2
    show d.1 < (last : Int) + 1
    omega
  · rcases hm d hd with hd | rfl
    · have := h.le d hd; omega
    · show 1 ≤ (last : Int) + 1 ∧ (last : Int) + 1 ≤ ((last + 1 : Nat) : Int)
      omega
  · rcases footN_cases hx with rfl | rfl | ⟨d, hd, hx⟩
    · exact .inl (by simp [footN])
    · exact .inl (by simp [footN])
    · rcases hm d hd with hd | rfl
      · rw [hC d hd] at hx
        rcases hx with rfl | hx
        · exact .inl (footN_conn hd)
        · exact .inl (footN_own hd hx)
      · have hx' : x = gc ∨ (Value.slice none 0 0).ownBlock = some x := by
          have h1 : x = (updC C ((last : Int) + 1) (gc, .slice none 0 0) ((last : Int) + 1)).1 ∨ (updC C ((last : Int) + 1) (gc, .slice none 0 0) ((last : Int) + 1)).2.ownBlock = some x := hx
          rwa [hCc] at h1
        rcases hx' with rfl | hx'
        · exact .inr hgc
        · cases hx'
def dr (L : List Cn) (a : Int) : List Cn := L.filter fun c => !(c.1 == a)
theorem dr_mem {a : Int} {c : Cn} (h : c ∈ dr L a) : c ∈ L ∧ c.1 ≠ a := by
  unfold dr at h
  simpa using h
theorem NetS.drop (h : NetS w gn gm last n f L C) (a : Int) (hn : NetAt w' gn gm last n (turned f (kint a) none)) (hk : Kb w w' [gm]) :
    NetS w' gn gm last n (turned f (kint a) none) (dr L a) C ∧ ∀ x ∈ footN gn gm (dr L a) C, x ∈ footN gn gm L C ∨ w.heap.size ≤ x := by
  refine ⟨⟨hn, fun x => ?_, fun d hd => ?_, fun d hd => ?_, fun d hd e he hne' => ?_, fun d hd e he hne' g hg hx => ?_, ?_, fun d hd => ?_⟩, fun x hx => ?_⟩
  · unfold turned
    by_cases hx : x = a
    · subst hx
      rw [if_pos rfl, if_neg]
      intro hm
      obtain ⟨c, hc, e⟩ := List.mem_map.1 hm
      exact (dr_mem hc).2 e
    · rw [if_neg (fun e => hx (kint_inj e)), h.hf x]
      have : (x ∈ (dr L a).map (·.1)) ↔ x ∈ L.map (·.1) := by
        constructor
        · intro hm
          obtain ⟨c, hc, e⟩ := List.mem_map.1 hm
          exact List.mem_map.2 ⟨c, (dr_mem hc).1, e⟩
        · intro hm
          obtain ⟨c, hc, e⟩ := List.mem_map.1 hm
          refine List.mem_map.2 ⟨c, ?_, e⟩
          unfold dr
          rw [List.mem_filter]
          exact ⟨hc, by simpa using fun e' => hx (e ▸ e')⟩
      simp only [this]
  · exact hk.blk (h.conn d (dr_mem hd).1) (by simpa using (h.conn_ne (dr_mem hd).1).2)
  · exact hk.own (h.own d (dr_mem hd).1) fun g hg => by simpa using (h.own_ne (dr_mem hd).1 hg).2.1
  · exact h.gs d (dr_mem hd).1 e (dr_mem he).1 hne'
  · exact h.vs d (dr_mem hd).1 e (dr_mem he).1 hne' g hg hx
  · exact h.ids.filter _
  · exact h.le d (dr_mem hd).1
  · rcases footN_cases hx with rfl | rfl | ⟨d, hd, rfl | hx⟩
    · exact .inl (by simp [footN])
    · exact .inl (by simp [footN])
    · exact .inl (footN_conn (dr_mem hd).1)
    · exact .inl (footN_own (dr_mem hd).1 hx)
end
end Go.Proofs.Ytdnbdmffaoimgaa
