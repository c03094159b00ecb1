/- Walk: the law FilesFuse answers true. -/
import Derived.Test.YtjmaimpfplojpaaNew2
import Derived.Test.YtjmaimpfplojpaaShort
namespace Go.Proofs.Ytjmaimpfplojpaa
open Go.RowKit Go.Maps
set_option linter.unusedSimpArgs false
set_option linter.unusedVariables false
set_option maxRecDepth 100000

/-- the address holds n steps -/
def RdP (w : World) (A : Option Addr) (n : Nat) : Prop :=
  ∀ k, k < n → ∃ (ad : Addr) (x y : Int) (s t : ByteArray) (B : Option Addr) (m c : Nat) (D : Option Addr) (tm tc : Nat), A = some ad ∧ w.cell? (ad.add (k * 6)) = some (.int .i64 x) ∧
    w.cell? ⟨(ad.add (k * 6)).block, (ad.add (k * 6)).off + 1, none⟩ = some (.int .i64 y) ∧ w.cell? ⟨(ad.add (k * 6)).block, (ad.add (k * 6)).off + 2, none⟩ = some (.string s) ∧
    w.cell? ⟨(ad.add (k * 6)).block, (ad.add (k * 6)).off + 3, none⟩ = some (.string t) ∧ w.cell? ⟨(ad.add (k * 6)).block, (ad.add (k * 6)).off + 4, none⟩ = some (.slice B m c) ∧
    w.cell? ⟨(ad.add (k * 6)).block, (ad.add (k * 6)).off + 5, none⟩ = some (.slice D tm tc)
/-- a law's own disk, beside bytes of which no call on the disk takes anything -/
structure Bes (w0 w : World) (gd n : Nat) (S : List Fl) (room short fuse : Int) (v : Value) (b : List UInt8) : Prop where
  go : ∃ F, Dsk w gd F n S room short fuse ∧ ∀ x ∈ F, w0.heap.size ≤ x ∧ v.ownBlock ≠ some x
  below : Below w0.heap.size w0 w
  own : Own w 5 1 v b.length (bys b)
section
variable {w0 w w' : World} {gd n : Nat} {S : List Fl} {room short fuse : Int} {v : Value} {b : List UInt8}
theorem Bes.nw (h : Bes w0 w gd n S room short fuse v b) : Nw w0 w gd n S room short fuse := by
  obtain ⟨F, h1, h2⟩ := h.go
  exact ⟨⟨F, h1, fun x hx => (h2 x hx).1⟩, h.below⟩
theorem Bes.of (h : Nw w0 w gd n S room short fuse) (hb : Below w.heap.size w w') (ho : Own w' 5 1 v b.length (bys b)) (hv : ∀ g, v.ownBlock = some g → w.heap.size ≤ g) : Bes w0 w' gd n S room short fuse v b := by
  obtain ⟨F, ⟨gm, es, h1, h2, h3⟩, h4⟩ := h.go
  refine ⟨⟨foot gd gm es, ⟨gm, es, h1.below hb, h2, fun x hx => hx⟩, fun x hx => ⟨h4 x (h3 x hx), fun e => ?_⟩⟩, (nw_quiet h hb).below, ho⟩
  have := h1.lt hx
  have := hv x e
  omega
theorem Bes.quiet (h : Bes w0 w gd n S room short fuse v b) (hb : Below w.heap.size w w') : Bes w0 w' gd n S room short fuse v b := by
  obtain ⟨F, h1, h2⟩ := h.go
  exact ⟨⟨F, h1.below hb, h2⟩, (nw_quiet h.nw hb).below, h.own.below hb fun g hg => h.own.block_lt hg⟩
theorem Bes.at (h : Bes w0 w gd n S room short fuse v b) : ∃ gm es, DiskAt w gd gm n es room short fuse ∧ fls es = S ∧ ∀ w' n' S' room' short' fuse', After w w' gd gm es n' S' room' short' fuse' → Bes w0 w' gd n' S' room' short' fuse' v b := by
  obtain ⟨F, ⟨gm, es, h1, h2, h3⟩, h4⟩ := h.go
  refine ⟨gm, es, h1, h2, fun w' n' S' r s f ha => ?_⟩
  have hw := h.below.size
  have hN := h.nw.step hw (P := fun _ => True) F (fun x hx => (h4 x hx).1) (Stp.of_after ha h3)
  obtain ⟨⟨es', h5, h6, h7⟩, h8⟩ := ha
  refine ⟨⟨foot gd gm es', ⟨gm, es', h5, h6, fun x hx => hx⟩, fun x hx => ?_⟩, hN.below, h8.own h.own fun g hg hf => (h4 g (h3 g hf)).2 hg⟩
  rcases h7 x hx with h | h'
  · exact h4 x (h3 x h)
  · refine ⟨Nat.le_trans hw h', fun e => ?_⟩
    have := h.own.block_lt e
    omega
theorem after_same {gm : Nat} {es : List Ent} {room' short' fuse' : Int} {n' : Nat} (h : DiskAt w' gd gm n' es room' short' fuse') (hk : Kb w w' [gd]) : After w w' gd gm es n' (fls es) room' short' fuse' :=
  ⟨⟨es, h, rfl, fun x hx => .inl hx⟩, hk.mono (by simp [foot])⟩
theorem bes_append_stop (h : Bes w0 w gd n S room short 0 v b) (s : ByteArray) (A : Option Addr) (m c : Nat) (hs : s.size ≤ reach) (hok : nameOk s.data.toList = true) :
    Calls Try.prog 11 #[gp gd, .string s, .slice A m c] w fun e w' => e = .returned (.tuple #[.int .i64 0, .int .i64 62]) ∧ Bes w0 w' gd n S room short 0 v b := by
  obtain ⟨gm, es, hD, rfl, hst⟩ := h.at
  have h1 : chErr (nameOk s.data.toList) 0 = 62 := by rw [hok]; rfl
  have h2 : chFuse (nameOk s.data.toList) 0 = 0 := by rw [hok]; rfl
  have hc := append_stop hD s A m c hs (by omega) (by omega) (by rw [h1]; decide)
  rw [h1, h2] at hc
  refine hc.mono ?_
  rintro e w' ⟨he, hD', hk⟩
  exact ⟨he, hst _ _ _ _ _ _ (after_same hD' hk)⟩
theorem bes_sync_stop (h : Bes w0 w gd n S room short 0 v b) (s : ByteArray) : Calls Try.prog 18 #[gp gd, .string s] w fun e w' => e = .returned (.int .i64 62) ∧ Bes w0 w' gd n S room short 0 v b := by
  obtain ⟨gm, es, hD, rfl, hst⟩ := h.at
  refine (sync_stop hD s rfl).mono ?_
  rintro e w' ⟨he, ha⟩
  exact ⟨he, hst _ _ _ _ _ _ ha⟩
theorem bes_remove_stop (h : Bes w0 w gd n S room short 0 v b) (s : ByteArray) : Calls Try.prog 22 #[gp gd, .string s] w fun e w' => e = .returned (.int .i64 62) ∧ Bes w0 w' gd n S room short 0 v b := by
  obtain ⟨gm, es, hD, rfl, hst⟩ := h.at
  refine (remove_stop hD s rfl).mono ?_
  rintro e w' ⟨he, ha⟩
  exact ⟨he, hst _ _ _ _ _ _ ha⟩
theorem bes_rename_stop (h : Bes w0 w gd n S room short 0 v b) (s t : ByteArray) (ht : t.size ≤ reach) (hok : nameOk t.data.toList = true) :
    Calls Try.prog 23 #[gp gd, .string s, .string t] w fun e w' => e = .returned (.int .i64 62) ∧ Bes w0 w' gd n S room short 0 v b := by
  obtain ⟨gm, es, hD, rfl, hst⟩ := h.at
  have h1 : chErr (nameOk t.data.toList) 0 = 62 := by rw [hok]; rfl
  have h2 : chFuse (nameOk t.data.toList) 0 = 0 := by rw [hok]; rfl
  have hc := rename_stop hD s t ht (by omega) (by omega) (by rw [h1]; decide)
  rw [h1, h2] at hc
  refine hc.mono ?_
  rintro e w' ⟨he, ha⟩
  exact ⟨he, hst _ _ _ _ _ _ ha⟩
theorem bes_cut_stop (h : Bes w0 w gd n S room short 0 v b) (s : ByteArray) (hs : s.size ≤ reach) : Calls Try.prog 24 #[gp gd, .string s, .int .i64 0] w fun e w' => e = .returned (.int .i64 62) ∧ Bes w0 w' gd n S room short 0 v b := by
  obtain ⟨gm, es, hD, rfl, hst⟩ := h.at
  have h1 : chErr true 0 = 62 := rfl
  have h2 : chFuse true 0 = 0 := rfl
  cases hx : lookE es s.data.toList with
  | none =>
    have hc := cut_stop_none hD s 0 hs (by omega) (by omega) hx
    rw [decide_eq_true (Int.le_refl 0), h1, h2, if_neg (by decide)] at hc
    refine hc.mono ?_
    rintro e w' ⟨he, ha⟩
    exact ⟨he, hst _ _ _ _ _ _ ha⟩
  | some x =>
    have hd : decide ((0 : Int) ≤ 0 ∧ (0 : Int) ≤ x.b.length) = true := decide_eq_true ⟨Int.le_refl 0, by omega⟩
    have hc := cut_stop_some hD s 0 hs (by omega) (by omega) hx (by rw [hd, h1]; decide)
    rw [hd, h1, h2] at hc
    refine hc.mono ?_
    rintro e w' ⟨he, ha⟩
    exact ⟨he, hst _ _ _ _ _ _ ha⟩
end
/-- the disk's one file behind k writes of one byte -/
def SA (k : Nat) : List Fl := if k = 0 then [] else [([97], List.replicate k 1, 0)]
theorem sa_add (k : Nat) : addF (SA k) [97] [1] = SA (k + 1) := by
  rcases k with _ | k
  · rfl
  · unfold SA addF look
    simp [List.replicate_succ']
theorem sa_look (k : Nat) : look (SA k) [97] = if k = 0 then none else some (List.replicate k 1, 0) := by
  unfold SA look
  by_cases h : k = 0 <;> simp [h]
theorem sa_crash (k : Nat) : crashF (fun _ => zeroT) (SA k) = if k = 0 then [] else [([97], [], 0)] := by
  unfold SA
  by_cases h : k = 0
  · simp [h, crashF]
  · have e1 : crashN zeroT k 0 = 0 := by simp [crashN, zeroT, default, instInhabitedTl]
    have e2 : (default : Tl).turn = false := rfl
    simp [h, crashF, crashB, e1]
theorem sa_end (k : Nat) : addF (if k = 0 then [] else [([97], [], 0)]) [97] [2] = [([97], [2], 0)] := by
  by_cases h : k = 0 <;> simp [h, addF, look]
theorem sa_len (k : Nat) : lenF (SA k) [97] = k := by
  unfold lenF
  rw [sa_look]
  by_cases h : k = 0 <;> simp [h]
theorem sa_used (k : Nat) : used (SA k) = k := by
  unfold SA
  by_cases h : k = 0 <;> simp [h, used]
end Go.Proofs.Ytjmaimpfplojpaa
