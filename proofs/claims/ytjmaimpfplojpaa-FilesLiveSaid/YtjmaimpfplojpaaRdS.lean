/- The calls on the document's disk in the words of its files alone. -/
import Derived.Test.YtjmaimpfplojpaaRdAp
import Derived.Test.YtjmaimpfplojpaaRdApL
import Derived.Test.YtjmaimpfplojpaaRdApC
import Derived.Test.YtjmaimpfplojpaaRd9
import Derived.Test.YtjmaimpfplojpaaRdC
import Derived.Test.YtjmaimpfplojpaaDs
import Derived.Test.YtjmaimpfplojpaaList
namespace Go.Proofs.Ytjmaimpfplojpaa
open Go.RowKit Go.Maps
set_option linter.unusedSimpArgs false
set_option linter.unusedVariables false
set_option maxRecDepth 100000

def NRd (w : World) (gx : Nat) (G : List Nat) (T : List Fl) (room short fuse : Int) : Prop := ∃ v R, RdAt w gx v R room short fuse ∧ R.map RF.fl = T ∧ ∀ x ∈ footD gx v R, x ∈ G
def RSt (w w' : World) (gx : Nat) (G : List Nat) (T : List Fl) (room short fuse : Int) : Prop := ∃ G', NRd w' gx G' T room short fuse ∧ Kb w w' G ∧ ∀ x ∈ G', x ∈ G ∨ w.heap.size ≤ x
/-- the files as the document has them: rising names, not too much -/
structure TOk (T : List Fl) : Prop where
  rising : T.Pairwise fun a b => a.1 < b.1
  sum : used T ≤ 1099511627776
  lens : ∀ x ∈ T, x.2.2 ≤ x.2.1.length ∧ x.2.1.length ≤ 1048576
  len : T.length < 900000
theorem TOk.keys {T : List Fl} (h : TOk T) : T.Pairwise fun a b => a.1 ≠ b.1 := h.rising.imp fun {a b} h => (fun (e : a.1 = b.1) => List.lt_irrefl b.1 (by rw [e] at h; exact h))
def addT (T : List Fl) (k b : List UInt8) : List Fl :=
  match look T k with
  | some _ => addF T k b
  | none => insF (k, b, 0) T
/-- what the document's Append leaves -/
def appT (T : List Fl) (room short fuse : Int) (s b : List UInt8) : List Fl :=
  if chErr (nameOk s) fuse ≠ 0 then T
  else if 1048576 < lenF T s + appLen short b.length ∨ room < used T + appLen short b.length then T
  else addT T s (b.take (appLen short b.length))
section
variable {w w' : World} {gx : Nat} {G : List Nat} {T : List Fl} {room short fuse : Int}
theorem RSt.of_after {v : Value} {R : List RF} {T' : List Fl} {room' short' fuse' : Int} (h : AfterD w w' gx v R T' room' short' fuse') (hG : ∀ x ∈ footD gx v R, x ∈ G) : RSt w w' gx G T' room' short' fuse' := by
  obtain ⟨⟨v', R', h1, h2, h3⟩, h4⟩ := h
  exact ⟨footD gx v' R', ⟨v', R', h1, h2, fun x hx => hx⟩, h4.mono hG, fun x hx => (h3 x hx).elim (fun h => .inl (hG x h)) .inr⟩
theorem NRd.below (h : NRd w gx G T room short fuse) (hb : Below w.heap.size w w') : NRd w' gx G T room short fuse := by
  obtain ⟨v, R, h1, h2, h3⟩ := h
  exact ⟨v, R, h1.below hb, h2, h3⟩
theorem NRd.kept (h : NRd w gx G T room short fuse) {L : List Nat} (hk : Kb w w' L) (hL : ∀ x ∈ G, x ∉ L) : NRd w' gx G T room short fuse := by
  obtain ⟨v, R, h1, h2, h3⟩ := h
  exact ⟨v, R, h1.keep hk fun x hx => hL x (h3 x hx), h2, h3⟩
theorem NRd.tight (h : NRd w gx G T room short fuse) : ∃ G0, NRd w gx G0 T room short fuse ∧ (∀ x ∈ G0, x ∈ G) ∧ ∀ x ∈ G0, x < w.heap.size := by
  obtain ⟨v, R, h1, h2, h3⟩ := h
  exact ⟨footD gx v R, ⟨v, R, h1, h2, fun x hx => hx⟩, h3, fun x hx => h1.lt hx⟩
theorem RSt.same (h : NRd w gx G T room short fuse) : RSt w w gx G T room short fuse := ⟨G, h, Kb.refl _ _, fun x hx => .inl hx⟩
theorem RSt.quiet (h : NRd w gx G T room short fuse) (hb : Below w.heap.size w w') : RSt w w' gx G T room short fuse := ⟨G, h.below hb, Kb.of_below hb _, fun x hx => .inl hx⟩
theorem look_some_idx {R : List RF} {s : List UInt8} {b : List UInt8} {sy : Nat} (h : look (R.map RF.fl) s = some (b, sy)) : ∃ x, R[idxD R s]? = some x ∧ x.b = b ∧ x.syn = sy ∧ x.k.data.toList = s := by
  rw [look_idx] at h
  cases hx : R[idxD R s]? with
  | none => rw [hx] at h; cases h
  | some x =>
    rw [hx] at h
    injection h with h
    injection h with h1 h2
    refine ⟨x, rfl, h1, h2, ?_⟩
    obtain ⟨c, hc, he⟩ := rf_at (List.getElem?_eq_some_iff.1 hx).1
    rw [hx] at hc
    injection hc with hc
    rw [hc]
    exact he
theorem lenF_idx {R : List RF} {s : List UInt8} {x : RF} (h : R[idxD R s]? = some x) : lenF (R.map RF.fl) s = x.b.length := by
  unfold lenF
  rw [look_idx, h]
  rfl
theorem lenF_idx_none {R : List RF} {s : List UInt8} (h : R[idxD R s]? = none) : lenF (R.map RF.fl) s = 0 := by
  unfold lenF
  rw [look_idx, h]
  rfl
theorem addF_setF {T : List Fl} {k b b0 : List UInt8} {sy : Nat} (h : look T k = some (b0, sy)) : addF T k b = setF T k (b0 ++ b) sy := by
  unfold addF setF
  rw [h]
theorem rd_append (h : NRd w gx G T room short fuse) (ht : TOk T) (hr0 : 0 ≤ room) (hr1 : room ≤ 1099511627776) (hs0 : -1 ≤ short) (hs1 : short ≤ 9223372036854775807) (f0 : -1 ≤ fuse) (f1 : fuse ≤ 9223372036854775807) (s : ByteArray) (A : Option Addr) (m c : Nat) (b : List UInt8) (hs : s.size ≤ reach) (hr : RdB w A b) (hm : b.length = m) (hmc : m ≤ c) (hml : m ≤ reach) :
    Calls Try.prog 39 #[.pointer (some ⟨gx, 0, none⟩), .string s, .slice A m c] w fun e w' => e = .returned (.tuple #[.int .i64 ((dApp ⟨T, 0, room, short, fuse⟩ s.data.toList b).2.1 : Int), .int .i64 (dApp ⟨T, 0, room, short, fuse⟩ s.data.toList b).1]) ∧
      RSt w w' gx G (appT T room short fuse s.data.toList b) room (dApp ⟨T, 0, room, short, fuse⟩ s.data.toList b).2.2.short (dApp ⟨T, 0, room, short, fuse⟩ s.data.toList b).2.2.fuse := by
  subst hm
  obtain ⟨v, R, hR, rfl, hG⟩ := h
  unfold dApp appT
  have hlen : R.length < 900000 := by have := ht.len; rwa [List.length_map] at this
  have hu : usedR R ≤ 1099511627776 := by rw [← usedR_fl]; exact ht.sum
  have hur : used (R.map RF.fl) = usedR R := usedR_fl R
  cases hok : nameOk s.data.toList with
  | false =>
    have h1 : chErr false fuse = 1 := rfl
    rw [h1, if_pos (by decide), if_pos (by decide)]
    refine (rappend_bad s A b.length c hs hok w).mono ?_
    rintro e w' ⟨rfl, rfl⟩
    exact ⟨rfl, RSt.same ⟨v, R, hR, rfl, hG⟩⟩
  | true =>
    by_cases hf : fuse = 0
    · subst hf
      have h1 : chErr true 0 = 62 := rfl
      rw [h1, if_pos (by decide), if_pos (by decide)]
      refine (rappend_dead hR s A b.length c hs hok).mono ?_
      rintro e w' ⟨rfl, h2, h3⟩
      exact ⟨rfl, RSt.of_after (AfterD.num h2 h3) hG⟩
    · have h1 : chErr true fuse = 0 := chErr_tt hf
      rw [h1, if_neg (show ¬ (0 : Int) ≠ 0 by decide), if_neg (show ¬ (0 : Int) ≠ 0 by decide)]
      simp only [hur]
      have hta : b.take b.length = b := List.take_length
      by_cases h1 : short = -1
      · subst h1
        have ha : appLen (-1) b.length = b.length := by simp [appLen]
        simp only [ha]
        cases hx : R[idxD R s.data.toList]? with
        | none =>
          have hx' : ¬ idxD R s.data.toList < R.length := fun h => by rw [List.getElem?_eq_getElem h] at hx; cases hx
          rw [lenF_idx_none hx]
          by_cases hA : 1048576 < 0 + b.length
          · rw [if_pos (.inl hA), if_pos (.inl hA)]
            refine (rappend_nn1 hR ht.keys hlen hu s A b.length c b hs f0 f1 hok hf hr rfl hmc hml hr0 hr1 hx' hA).mono ?_
            rintro e w' ⟨he, ha⟩
            exact ⟨he, RSt.of_after ha hG⟩
          · by_cases hB : room < (usedR R : Int) + (b.length : Nat)
            · rw [if_pos (.inr hB), if_pos (.inr hB)]
              refine (rappend_nn2 hR ht.keys hlen hu s A b.length c b hs f0 f1 hok hf hr rfl hmc hml hr0 hr1 hx' (by omega) hB).mono ?_
              rintro e w' ⟨he, ha⟩
              exact ⟨he, RSt.of_after ha hG⟩
            · rw [if_neg (fun h : _ ∨ _ => h.elim hA hB), if_neg (fun h : _ ∨ _ => h.elim hA hB)]
              refine (rappend_nn3 hR ht.keys hlen hu s A b.length c b hs f0 f1 hok hf hr rfl hmc hml hr0 hr1 hx' (by omega) (by omega)).mono ?_
              rintro e w' ⟨he, ha⟩
              refine ⟨?_, ?_⟩
              · rw [he]
                simp only []
                rw [if_neg (Nat.lt_irrefl _)]
              · have h8 := RSt.of_after ha hG
                unfold addT
                rw [look_idx, hx]
                simp only [Option.map_some, Option.map_none]
                rw [hta]
                exact h8
        | some x =>
          rw [lenF_idx hx]
          by_cases hA : 1048576 < x.b.length + b.length
          · rw [if_pos (.inl hA), if_pos (.inl hA)]
            refine (rappend_no1 hR ht.keys hlen hu s A b.length c b hs f0 f1 hok hf hr rfl hmc hml hr0 hr1 hx hA).mono ?_
            rintro e w' ⟨he, ha⟩
            exact ⟨he, RSt.of_after ha hG⟩
          · by_cases hB : room < (usedR R : Int) + (b.length : Nat)
            · rw [if_pos (.inr hB), if_pos (.inr hB)]
              refine (rappend_no2 hR ht.keys hlen hu s A b.length c b hs f0 f1 hok hf hr rfl hmc hml hr0 hr1 hx (by omega) hB).mono ?_
              rintro e w' ⟨he, ha⟩
              exact ⟨he, RSt.of_after ha hG⟩
            · rw [if_neg (fun h : _ ∨ _ => h.elim hA hB), if_neg (fun h : _ ∨ _ => h.elim hA hB)]
              refine (rappend_no3 hR ht.keys hlen hu s A b.length c b hs f0 f1 hok hf hr rfl hmc hml hr0 hr1 hx (by omega) (by omega)).mono ?_
              rintro e w' ⟨he, ha⟩
              refine ⟨?_, ?_⟩
              · rw [he]
                simp only []
                rw [if_neg (Nat.lt_irrefl _)]
              · have h8 := RSt.of_after ha hG
                unfold addT
                rw [look_idx, hx]
                simp only [Option.map_some, Option.map_none]
                rw [addF_setF (by rw [look_idx, hx]; rfl)]
                rw [hta]
                exact h8
      · obtain ⟨sh, rfl⟩ : ∃ sh : Nat, short = (sh : Int) := ⟨short.toNat, by omega⟩
        by_cases h2 : sh < b.length
        · have ha : appLen (sh : Int) b.length = sh := by
            unfold appLen
            rw [if_pos ⟨by omega, by omega⟩]
            rfl
          simp only [ha]
          cases hx : R[idxD R s.data.toList]? with
          | none =>
            have hx' : ¬ idxD R s.data.toList < R.length := fun h => by rw [List.getElem?_eq_getElem h] at hx; cases hx
            rw [lenF_idx_none hx]
            by_cases hA : 1048576 < 0 + sh
            · rw [if_pos (.inl hA), if_pos (.inl hA)]
              refine (rappend_cn1 sh hR ht.keys hlen hu s A b.length c b hs f0 f1 hok hf hr rfl hmc hml hr0 hr1 h2 hx' hA).mono ?_
              rintro e w' ⟨he, ha⟩
              exact ⟨he, RSt.of_after ha hG⟩
            · by_cases hB : room < (usedR R : Int) + (sh : Nat)
              · rw [if_pos (.inr hB), if_pos (.inr hB)]
                refine (rappend_cn2 sh hR ht.keys hlen hu s A b.length c b hs f0 f1 hok hf hr rfl hmc hml hr0 hr1 h2 hx' (by omega) hB).mono ?_
                rintro e w' ⟨he, ha⟩
                exact ⟨he, RSt.of_after ha hG⟩
              · rw [if_neg (fun h : _ ∨ _ => h.elim hA hB), if_neg (fun h : _ ∨ _ => h.elim hA hB)]
                refine (rappend_cn3 sh hR ht.keys hlen hu s A b.length c b hs f0 f1 hok hf hr rfl hmc hml hr0 hr1 h2 hx' (by omega) (by omega)).mono ?_
                rintro e w' ⟨he, ha⟩
                refine ⟨?_, ?_⟩
                · rw [he]
                  simp only []
                  rw [if_pos h2]
                · have h8 := RSt.of_after ha hG
                  unfold addT
                  rw [look_idx, hx]
                  simp only [Option.map_some, Option.map_none]
                  skip
                  exact h8
          | some x =>
            rw [lenF_idx hx]
            by_cases hA : 1048576 < x.b.length + sh
            · rw [if_pos (.inl hA), if_pos (.inl hA)]
              refine (rappend_co1 sh hR ht.keys hlen hu s A b.length c b hs f0 f1 hok hf hr rfl hmc hml hr0 hr1 h2 hx hA).mono ?_
              rintro e w' ⟨he, ha⟩
              exact ⟨he, RSt.of_after ha hG⟩
            · by_cases hB : room < (usedR R : Int) + (sh : Nat)
              · rw [if_pos (.inr hB), if_pos (.inr hB)]
                refine (rappend_co2 sh hR ht.keys hlen hu s A b.length c b hs f0 f1 hok hf hr rfl hmc hml hr0 hr1 h2 hx (by omega) hB).mono ?_
                rintro e w' ⟨he, ha⟩
                exact ⟨he, RSt.of_after ha hG⟩
              · rw [if_neg (fun h : _ ∨ _ => h.elim hA hB), if_neg (fun h : _ ∨ _ => h.elim hA hB)]
                refine (rappend_co3 sh hR ht.keys hlen hu s A b.length c b hs f0 f1 hok hf hr rfl hmc hml hr0 hr1 h2 hx (by omega) (by omega)).mono ?_
                rintro e w' ⟨he, ha⟩
                refine ⟨?_, ?_⟩
                · rw [he]
                  simp only []
                  rw [if_pos h2]
                · have h8 := RSt.of_after ha hG
                  unfold addT
                  rw [look_idx, hx]
                  simp only [Option.map_some, Option.map_none]
                  rw [addF_setF (by rw [look_idx, hx]; rfl)]
                  skip
                  exact h8
        · have ha : appLen (sh : Int) b.length = b.length := by
            unfold appLen
            rw [if_neg (by omega)]
          simp only [ha]
          cases hx : R[idxD R s.data.toList]? with
          | none =>
            have hx' : ¬ idxD R s.data.toList < R.length := fun h => by rw [List.getElem?_eq_getElem h] at hx; cases hx
            rw [lenF_idx_none hx]
            by_cases hA : 1048576 < 0 + b.length
            · rw [if_pos (.inl hA), if_pos (.inl hA)]
              refine (rappend_ln1 sh hR ht.keys hlen hu s A b.length c b hs f0 f1 hok hf hr rfl hmc hml hr0 hr1 (by omega) (by omega) hx' hA).mono ?_
              rintro e w' ⟨he, ha⟩
              exact ⟨he, RSt.of_after ha hG⟩
            · by_cases hB : room < (usedR R : Int) + (b.length : Nat)
              · rw [if_pos (.inr hB), if_pos (.inr hB)]
                refine (rappend_ln2 sh hR ht.keys hlen hu s A b.length c b hs f0 f1 hok hf hr rfl hmc hml hr0 hr1 (by omega) (by omega) hx' (by omega) hB).mono ?_
                rintro e w' ⟨he, ha⟩
                exact ⟨he, RSt.of_after ha hG⟩
              · rw [if_neg (fun h : _ ∨ _ => h.elim hA hB), if_neg (fun h : _ ∨ _ => h.elim hA hB)]
                refine (rappend_ln3 sh hR ht.keys hlen hu s A b.length c b hs f0 f1 hok hf hr rfl hmc hml hr0 hr1 (by omega) (by omega) hx' (by omega) (by omega)).mono ?_
                rintro e w' ⟨he, ha⟩
                refine ⟨?_, ?_⟩
                · rw [he]
                  simp only []
                  rw [if_neg (Nat.lt_irrefl _)]
                · have h8 := RSt.of_after ha hG
                  unfold addT
                  rw [look_idx, hx]
                  simp only [Option.map_some, Option.map_none]
                  rw [hta]
                  exact h8
          | some x =>
            rw [lenF_idx hx]
            by_cases hA : 1048576 < x.b.length + b.length
            · rw [if_pos (.inl hA), if_pos (.inl hA)]
              refine (rappend_lo1 sh hR ht.keys hlen hu s A b.length c b hs f0 f1 hok hf hr rfl hmc hml hr0 hr1 (by omega) (by omega) hx hA).mono ?_
              rintro e w' ⟨he, ha⟩
              exact ⟨he, RSt.of_after ha hG⟩
            · by_cases hB : room < (usedR R : Int) + (b.length : Nat)
              · rw [if_pos (.inr hB), if_pos (.inr hB)]
                refine (rappend_lo2 sh hR ht.keys hlen hu s A b.length c b hs f0 f1 hok hf hr rfl hmc hml hr0 hr1 (by omega) (by omega) hx (by omega) hB).mono ?_
                rintro e w' ⟨he, ha⟩
                exact ⟨he, RSt.of_after ha hG⟩
              · rw [if_neg (fun h : _ ∨ _ => h.elim hA hB), if_neg (fun h : _ ∨ _ => h.elim hA hB)]
                refine (rappend_lo3 sh hR ht.keys hlen hu s A b.length c b hs f0 f1 hok hf hr rfl hmc hml hr0 hr1 (by omega) (by omega) hx (by omega) (by omega)).mono ?_
                rintro e w' ⟨he, ha⟩
                refine ⟨?_, ?_⟩
                · rw [he]
                  simp only []
                  rw [if_neg (Nat.lt_irrefl _)]
                · have h8 := RSt.of_after ha hG
                  unfold addT
                  rw [look_idx, hx]
                  simp only [Option.map_some, Option.map_none]
                  rw [addF_setF (by rw [look_idx, hx]; rfl)]
                  rw [hta]
                  exact h8
theorem rd_sync (h : NRd w gx G T room short fuse) (ht : TOk T) (f0 : -1 ≤ fuse) (f1 : fuse ≤ 9223372036854775807) (s : ByteArray) :
    Calls Try.prog 41 #[.pointer (some ⟨gx, 0, none⟩), .string s] w fun e w' => e = .returned (.int .i64 (rSyncE T s.data.toList fuse)) ∧ RSt w w' gx G (syncT T s.data.toList fuse) room short (chFuse true fuse) := by
  obtain ⟨v, R, hR, rfl, hG⟩ := h
  have hlen : R.length < 900000 := by have := ht.len; rwa [List.length_map] at this
  exact (rsync_calls hR ht.keys s hlen f0 f1).mono fun e w' ⟨he, ha⟩ => ⟨he, RSt.of_after ha hG⟩
theorem rd_remove (h : NRd w gx G T room short fuse) (ht : TOk T) (f0 : -1 ≤ fuse) (f1 : fuse ≤ 9223372036854775807) (s : ByteArray) :
    Calls Try.prog 44 #[.pointer (some ⟨gx, 0, none⟩), .string s] w fun e w' => e = .returned (.int .i64 (rDelE T s.data.toList fuse)) ∧ RSt w w' gx G (delT T s.data.toList fuse) room short (chFuse true fuse) := by
  obtain ⟨v, R, hR, rfl, hG⟩ := h
  have hlen : R.length < 900000 := by have := ht.len; rwa [List.length_map] at this
  exact (rremove_calls hR s hlen f0 f1).mono fun e w' ⟨he, ha⟩ => ⟨he, RSt.of_after ha hG⟩
theorem rd_rename (h : NRd w gx G T room short fuse) (ht : TOk T) (f0 : -1 ≤ fuse) (f1 : fuse ≤ 9223372036854775807) (s t : ByteArray) (hts : t.size ≤ reach) :
    Calls Try.prog 43 #[.pointer (some ⟨gx, 0, none⟩), .string s, .string t] w fun e w' => e = .returned (.int .i64 (rRenE T s.data.toList t.data.toList fuse)) ∧ RSt w w' gx G (renT T s.data.toList t.data.toList fuse) room short (chFuse (nameOk t.data.toList) fuse) := by
  obtain ⟨v, R, hR, rfl, hG⟩ := h
  have hlen : R.length < 900000 := by have := ht.len; rwa [List.length_map] at this
  exact (rrename_calls hR s t hlen hts f0 f1).mono fun e w' ⟨he, ha⟩ => ⟨he, RSt.of_after ha hG⟩
theorem look_lens {T : List Fl} (ht : ∀ x ∈ T, x.2.2 ≤ x.2.1.length ∧ x.2.1.length ≤ 1048576) {s b : List UInt8} {sy : Nat} (h : look T s = some (b, sy)) : sy ≤ b.length ∧ b.length ≤ 1048576 := by
  unfold look at h
  cases hx : T.find? fun x => x.1 == s with
  | none => rw [hx] at h; cases h
  | some x =>
    rw [hx] at h
    have h : x.2 = (b, sy) := by injection h
    have := ht x (List.mem_of_find?_eq_some hx)
    rw [h] at this
    exact this
theorem rd_cut (h : NRd w gx G T room short fuse) (ht : TOk T) (f0 : -1 ≤ fuse) (f1 : fuse ≤ 9223372036854775807) (s : ByteArray) (k : Int) :
    Calls Try.prog 42 #[.pointer (some ⟨gx, 0, none⟩), .string s, .int .i64 k] w fun e w' => e = .returned (.int .i64 (rCutE T s.data.toList k fuse)) ∧ RSt w w' gx G (cutT T s.data.toList k fuse) room short (chFuse (cutOkF T s.data.toList k) fuse) := by
  obtain ⟨v, R, hR, rfl, hG⟩ := h
  have hlen : R.length < 900000 := by have := ht.len; rwa [List.length_map] at this
  cases hk : look (R.map RF.fl) s.data.toList with
  | none => exact (rcut_none hR s k hlen f0 f1 hk).mono fun e w' ⟨he, ha⟩ => ⟨he, RSt.of_after ha hG⟩
  | some p =>
    obtain ⟨b, sy⟩ := p
    have hl := look_lens ht.lens hk
    exact (rcut_some hR ht.keys s k hlen f0 f1 hk (by omega) (by omega)).mono fun e w' ⟨he, ha⟩ => ⟨he, RSt.of_after ha hG⟩
theorem rd_short (h : NRd w gx G T room short fuse) (x : Int) :
    Calls Try.prog 45 #[.pointer (some ⟨gx, 0, none⟩), .int .i64 x] w fun e w' => e = .returned (.int .i64 (if x < 0 then 1 else 0)) ∧ RSt w w' gx G T room (if x < 0 then short else x) fuse := by
  obtain ⟨v, R, hR, rfl, hG⟩ := h
  exact (rshort_calls hR x).mono fun e w' ⟨he, h1, h2⟩ => ⟨he, RSt.of_after (AfterD.num h1 h2) hG⟩
theorem rd_fuse (h : NRd w gx G T room short fuse) (x : Int) :
    Calls Try.prog 47 #[.pointer (some ⟨gx, 0, none⟩), .int .i64 x] w fun e w' => e = .returned (.int .i64 (if x < 0 then 1 else 0)) ∧ RSt w w' gx G T room short (if x < 0 then fuse else x) := by
  obtain ⟨v, R, hR, rfl, hG⟩ := h
  exact (rfuse_calls hR x).mono fun e w' ⟨he, h1, h2⟩ => ⟨he, RSt.of_after (AfterD.num h1 h2) hG⟩
theorem rd_room (h : NRd w gx G T room short fuse) (x : Int) :
    Calls Try.prog 46 #[.pointer (some ⟨gx, 0, none⟩), .int .i64 x] w fun e w' => e = .returned (.int .i64 (if x < 0 ∨ 1099511627776 < x then 1 else 0)) ∧ RSt w w' gx G T (if x < 0 ∨ 1099511627776 < x then room else x) short fuse := by
  obtain ⟨v, R, hR, rfl, hG⟩ := h
  exact (rroom_calls hR x).mono fun e w' ⟨he, h1, h2⟩ => ⟨he, RSt.of_after (AfterD.num h1 h2) hG⟩
theorem rd_crash (h : NRd w gx G T room short fuse) (ht : TOk T) (A : Option Addr) (cap : Nat) (tl : List Tl) (htl : tl.length < 9000000000000) (hT : RdT w A tl) (hA : ∀ ad, A = some ad → tl ≠ [] → ad.block < w.heap.size ∧ ad.block ∉ G) :
    Calls Try.prog 48 #[.pointer (some ⟨gx, 0, none⟩), .slice A tl.length cap] w fun e w' => e = .returned (.tuple #[]) ∧ RSt w w' gx G (crashF (fun s => (tailOf tl s).getD zeroT) T) room (-1) (-1) := by
  obtain ⟨v, R, hR, rfl, hG⟩ := h
  have hlen : R.length < 900000 := by have := ht.len; rwa [List.length_map] at this
  exact (rcrash_calls hR hlen (fun c hc => ht.lens c.fl (List.mem_map.2 ⟨c, hc, rfl⟩)) A cap tl htl hT (fun ad h1 h2 => ⟨(hA ad h1 h2).1, fun h => (hA ad h1 h2).2 (hG _ h)⟩)).mono fun e w' ⟨he, ha⟩ => ⟨he, RSt.of_after ha hG⟩
theorem rd_used (h : NRd w gx G T room short fuse) (ht : TOk T) :
    Calls Try.prog 50 #[.pointer (some ⟨gx, 0, none⟩)] w fun e w' => e = .returned (.int .i64 (used T : Int)) ∧ Below w.heap.size w w' := by
  obtain ⟨v, R, hR, rfl, hG⟩ := h
  have hlen : R.length < 900000 := by have := ht.len; rwa [List.length_map] at this
  have hu := usedR_fl R
  have hs := ht.sum
  rw [hu] at hs ⊢
  exact rused_calls hR (by omega) hs
theorem rd_list (h : NRd w gx G T room short fuse) (ht : TOk T) :
    Calls Try.prog 49 #[.pointer (some ⟨gx, 0, none⟩)] w fun e w' => ∃ u, e = .returned u ∧ Own w' 9 1 u (T.map (·.1)).length ((T.map (·.1)).map Proofs.encStr) ∧ Below w.heap.size w w' ∧ ∀ g, u.ownBlock = some g → w.heap.size ≤ g := by
  obtain ⟨v, R, hR, rfl, hG⟩ := h
  have hlen : R.length < 900000 := by have := ht.len; rwa [List.length_map] at this
  refine (rlist_calls hR (by omega)).mono ?_
  rintro e w' ⟨u, he, ho, hb, hn⟩
  have e1 : ((R.map RF.fl).map (·.1)).map Proofs.encStr = (R.map (·.k)).map Value.string := by
    rw [List.map_map, List.map_map, List.map_map]
    refine List.map_congr_left fun c _ => ?_
    show Proofs.encStr c.k.data.toList = .string c.k
    unfold Proofs.encStr
    rfl
  exact ⟨u, he, ho.cast (by simp) e1.symm, hb, hn⟩
theorem rd_synced (h : NRd w gx G T room short fuse) (ht : TOk T) (s : ByteArray) :
    Calls Try.prog 52 #[.pointer (some ⟨gx, 0, none⟩), .string s] w fun e w' => e = .returned (.int .i64 ((((look T s.data.toList).map (·.2)).getD 0 : Nat) : Int)) ∧ Below w.heap.size w w' := by
  obtain ⟨v, R, hR, rfl, hG⟩ := h
  have hlen : R.length < 900000 := by have := ht.len; rwa [List.length_map] at this
  exact rsynced_calls hR s (by omega)
theorem rd_read (h : NRd w gx G T room short fuse) (ht : TOk T) (s : ByteArray) :
    Calls Try.prog 51 #[.pointer (some ⟨gx, 0, none⟩), .string s] w fun e w' => ∃ A c, e = .returned (.tuple #[.slice A (((look T s.data.toList).map (·.1)).getD []).length c, .int .i64 (if (look T s.data.toList).isSome then 0 else 60)]) ∧ Own w' 5 1 (.slice A (((look T s.data.toList).map (·.1)).getD []).length c) (((look T s.data.toList).map (·.1)).getD []).length (bys (((look T s.data.toList).map (·.1)).getD [])) ∧ Below w.heap.size w w' ∧ ∀ g, (Value.slice A (((look T s.data.toList).map (·.1)).getD []).length c).ownBlock = some g → w.heap.size ≤ g := by
  obtain ⟨v, R, hR, rfl, hG⟩ := h
  have hlen : R.length < 900000 := by have := ht.len; rwa [List.length_map] at this
  cases hx : look (R.map RF.fl) s.data.toList with
  | none =>
    refine (rread_none hR s hlen hx).mono ?_
    rintro e w' ⟨rfl, hb⟩
    exact ⟨none, 0, rfl, Own.nil _ _ _, hb, fun g hg => by cases hg⟩
  | some p =>
    obtain ⟨b, sy⟩ := p
    have hl := look_lens ht.lens hx
    refine (rread_calls hR s hlen hx (by omega)).mono ?_
    rintro e w' ⟨v, rfl, ho, hb, hv⟩
    obtain ⟨A, c, rfl, _⟩ := ho.rdB
    exact ⟨A, c, rfl, ho, hb, hv⟩
end
end Go.Proofs.Ytjmaimpfplojpaa
