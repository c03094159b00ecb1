/- Walk: the law FilesNames answers true. -/
import Derived.Test.YtjmaimpfplojpaaList
import Derived.Test.YtjmaimpfplojpaaShort
namespace Go.Proofs.Ytjmaimpfplojpaa
open Go.RowKit Go.Maps
set_option linter.unusedSimpArgs false
set_option linter.unusedVariables false
set_option maxRecDepth 100000

/-- a law's own disk, beside a block of which no call on the disk takes anything -/
structure Bsb (w0 w : World) (gd n : Nat) (S : List Fl) (room short fuse : Int) (g : Nat) (o : Obj) : Prop where
  go : ∃ F, Dsk w gd F n S room short fuse ∧ ∀ x ∈ F, w0.heap.size ≤ x ∧ x ≠ g
  below : Below w0.heap.size w0 w
  blk : w.heap[g]? = some o
section
variable {w0 w w' : World} {gd n : Nat} {S : List Fl} {room short fuse : Int} {g : Nat} {o : Obj}
theorem lt_of_heap {w : World} {g : Nat} {o : Obj} (h : w.heap[g]? = some o) : g < w.heap.size := by
  rcases Nat.lt_or_ge g w.heap.size with h' | h'
  · exact h'
  · rw [Array.getElem?_eq_none h'] at h; cases h
theorem Bsb.nw (h : Bsb w0 w gd n S room short fuse g o) : Nw w0 w gd n S room short fuse := by
  obtain ⟨F, h1, h2⟩ := h.go
  exact ⟨⟨F, h1, fun x hx => (h2 x hx).1⟩, h.below⟩
theorem Bsb.of (h : Nw w0 w gd n S room short fuse) (o : Obj) : Bsb w0 (w.alloc o) gd n S room short fuse w.heap.size o := by
  obtain ⟨F, ⟨gm, es, h1, h2, h3⟩, h4⟩ := h.go
  have hb : Below w.heap.size w (w.alloc o) := (Below.refl _ w).alloc (Nat.le_refl _) o
  refine ⟨⟨foot gd gm es, ⟨gm, es, h1.below hb, h2, fun x hx => hx⟩, fun x hx => ⟨h4 x (h3 x hx), fun e => ?_⟩⟩, (nw_quiet h hb).below, heap_alloc_new w o⟩
  have := h1.lt hx
  omega
theorem Bsb.step (h : Bsb w0 w gd n S room short fuse g o) : ∃ F, Dsk w gd F n S room short fuse ∧ ∀ w' n' S' room' short' fuse', Stp w w' gd F n' S' room' short' fuse' → Bsb w0 w' gd n' S' room' short' fuse' g o := by
  obtain ⟨F, h1, h2⟩ := h.go
  refine ⟨F, h1, fun w' n' S' r s f hs => ?_⟩
  have hw := h.below.size
  have hlt := lt_of_heap h.blk
  have hN := h.nw.step hw (P := fun _ => True) F (fun x hx => (h2 x hx).1) hs
  obtain ⟨F', h3, h4, h5⟩ := hs
  refine ⟨⟨F', h3, fun x hx => ?_⟩, hN.below, (h4.block g hlt fun hg => (h2 g hg).2 rfl).trans h.blk⟩
  rcases h5 x hx with h' | h'
  · exact h2 x h'
  · exact ⟨Nat.le_trans hw h', by omega⟩
theorem bsb_append (h : Bsb w0 w gd n S room short fuse g o) (s : ByteArray) (A : Option Addr) (m c : Nat) (b : List UInt8) (hs : s.size ≤ reach) (hf1 : -9223372036854775808 ≤ fuse) (hf2 : fuse ≤ 9223372036854775807) (hok : nameOk s.data.toList = true) (hf : fuse ≠ 0)
    (hr : RdB w A b) (hm : b.length = m) (hmc : m ≤ c) (hml : m ≤ reach) (hn : n < 1000000000) (hr1 : 0 ≤ room) (hr2 : room ≤ 1099511627776) (hs1 : -1 ≤ short) (hs2 : short ≤ 9223372036854775807)
    (hfit : lenF S s.data.toList + appLen short m ≤ 1048576) (hfit2 : used S + appLen short m ≤ room) :
    Calls Try.prog 11 #[gp gd, .string s, .slice A m c] w fun e w' =>
      e = .returned (.tuple #[.int .i64 (appLen short m : Int), .int .i64 (if appLen short m < m then 61 else 0)]) ∧ Bsb w0 w' gd (n + 1) (addF S s.data.toList (b.take (appLen short m))) room (-1) (chFuse true fuse) g o := by
  obtain ⟨F, hD, hst⟩ := h.step
  refine (dk_append hD s A m c b hs hf1 hf2 hok hf hr hm hmc hml hn hr1 hr2 hs1 hs2).mono ?_
  rintro e w' ⟨_, hp⟩
  obtain ⟨he, hs⟩ := hp (by omega)
  exact ⟨he, hst _ _ _ _ _ _ hs⟩
theorem nw_list (h : Nw w0 w gd n S room short fuse) (hn : n < 1000000000) {want : List (List UInt8)} (hw : want.Pairwise (· < ·)) (hm : ∀ a, a ∈ want ↔ look S a ≠ none) :
    Calls Try.prog 26 #[gp gd] w fun e w' => ∃ v, e = .returned v ∧ Own w' 9 1 v want.length (want.map Proofs.encStr) ∧ Nw w0 w' gd n S room short fuse ∧ Below w.heap.size w w' ∧ ∀ g, v.ownBlock = some g → w.heap.size ≤ g := by
  obtain ⟨gm, es, hD, rfl, hst⟩ := nw_at h
  refine (list_calls hD hn hw fun a => ?_).mono ?_
  · rw [hm a]
    unfold fls
    rw [look_map]
    cases lookE es a <;> simp
  · rintro e w' ⟨v, he, ho, hb, hv⟩
    exact ⟨v, he, ho, nw_quiet h hb, hb, hv⟩
end
theorem own_lits (w : World) (l : List (List UInt8)) (hl : l.length ≤ maxLen) : Own (w.alloc (.cells (l.map Proofs.encStr).toArray 9)) 9 1 (.slice (some ⟨w.heap.size, 0, none⟩) l.length l.length) l.length (l.map Proofs.encStr) :=
  ⟨by simp, .inr ⟨w.heap.size, l.length, _, rfl, heap_alloc_new w _, Nat.le_refl _, hl, by simp, by simp [List.take_of_length_le]⟩⟩
/-- the files of the law behind k writes -/
def SN (b : List UInt8) (k : Nat) : List Fl := [(([122] : List UInt8), b, 0), ([109], b, 0), ([97], b, 0)].take k
theorem sn_step (b : List UInt8) (k : Nat) (hk : k < 3) : ∃ nm : ByteArray, (#[.string ⟨#[122]⟩, .string ⟨#[109]⟩, .string ⟨#[97]⟩] : Array Value)[k]? = some (.string nm) ∧ nameOk nm.data.toList = true ∧ nm.size ≤ reach ∧ addF (SN b k) nm.data.toList b = SN b (k + 1) ∧ lenF (SN b k) nm.data.toList = 0 ∧ used (SN b k) = k * b.length := by
  rcases k with _ | _ | _ | k
  · exact ⟨⟨#[122]⟩, rfl, by decide, by simp [ByteArray.size, reach], rfl, rfl, by simp [SN, used]⟩
  · exact ⟨⟨#[109]⟩, rfl, by decide, by simp [ByteArray.size, reach], rfl, rfl, by simp [SN, used]⟩
  · exact ⟨⟨#[97]⟩, rfl, by decide, by simp [ByteArray.size, reach], rfl, rfl, by simp [SN, used]; omega⟩
  · omega
set_option maxHeartbeats 2000000 in
theorem filesNames_walk (A : Option Addr) (la : List UInt8) (ca : Nat) (B : Option Addr) (lb : List UInt8) (cb : Nat) (w : World)
    (hA : RdB w A la) (hca : la.length ≤ ca) (hcam : ca ≤ maxLen) (_ : la.length ≤ reach) (hB : RdB w B lb) (hcb : lb.length ≤ cb) (hcbm : cb ≤ maxLen) (_ : lb.length ≤ reach) :
    Calls Try.prog 7 #[.slice A la.length ca, .slice B lb.length cb] w fun e w' => e = .returned (.bool true) ∧ Below w.heap.size w w' := by
  unfold maxLen at hcam hcbm
  have HA := Shut.mk (hA.take (min la.length 500))
  have HLA := Shut.mk (show (la.take (min la.length 500)).length = min la.length 500 by rw [List.length_take]; omega)
  go_enter Try.func7, Try.ntmps7
  go_wp2_with fail
  refine (dk_new 1048576 w (by omega) (by omega)).mono ?_
  rintro e w1 ⟨gd, rfl, hN1⟩
  have HN1 := Shut.mk hN1
  clear hN1 hA hB
  have hma : (if (500 : Int) < (la.length : Int) then (500 : Int) else (la.length : Int)) = ((min la.length 500 : Nat) : Int) := by split <;> omega
  have hna : min la.length 500 ≤ ca := by omega
  have hna2 : min la.length 500 ≤ 500 := by omega
  go_wp2_with fail
  rw [show min (la.length : Int) 500 = ((min la.length 500 : Nat) : Int) by omega]
  simp only [Int.toNat_natCast]
  generalize min la.length 500 = na at HA HLA hna hna2 ⊢
  generalize la.take na = xa at HA HLA
  have HB1 := Shut.mk (Bsb.of HN1.out (.cells #[.string ⟨#[122]⟩, .string ⟨#[109]⟩, .string ⟨#[97]⟩] 9))
  generalize w1.alloc (.cells #[.string ⟨#[122]⟩, .string ⟨#[109]⟩, .string ⟨#[97]⟩] 9) = w2 at HB1 ⊢
  generalize w1.heap.size = BG at HB1 ⊢
  clear hma HN1 hca
  go_loopw [25] (fun i wr => ∃ k : Nat, k ≤ 3 ∧ i = .int .i64 k ∧ Bsb w wr gd k (SN xa k) 1048576 (-1) (-1) BG (.cells #[.string ⟨#[122]⟩, .string ⟨#[109]⟩, .string ⟨#[97]⟩] 9)) (fun i _ => 3 - (intOf i).toNat)
  case atStart => exact ⟨0, Nat.zero_le _, rfl, HB1.out⟩
  case round =>
    obtain ⟨k, hk, rfl, hB2⟩ := hrel
    have HB2 := Shut.mk hB2
    by_cases hlt : k < 3
    · obtain ⟨nm, hnm, hok, hsz, hadd, hlen, hus⟩ := sn_step xa k hlt
      have hcell : wr.cell? ⟨BG, k, none⟩ = some (.string nm) := by rw [cell_of_row wr BG k _ _ _ hB2.blk]; exact hnm
      have hap : appLen (-1) na = na := by simp [appLen]
      have hku : k * xa.length ≤ 3 * 500 := Nat.mul_le_mul (by omega) (by rw [HLA.out]; omega)
      have hA2 := bsb_append hB2 nm A na ca xa hsz (by omega) (by omega) hok (by omega) (HA.out.keep hB2.below) HLA.out hna (by unfold reach; omega) (by omega) (by omega) (by omega) (by omega) (by omega) (by rw [hap, hlen]; omega) (by rw [hap, hus]; omega)
      rw [hap, if_neg (Nat.lt_irrefl na), List.take_of_length_le (by rw [HLA.out]; exact Nat.le_refl _), hadd] at hA2
      have hc1 : chFuse true (-1) = -1 := rfl
      rw [hc1] at hA2
      have HA2 := Shut.mk hA2
      clear hA2 hB2 hnm hadd hlen hus hku hap hc1 hok hsz
      have hkI : (k : Int) < 3 := by omega
      go_wp2_with fail
      refine HA2.out.mono ?_
      rintro e w3 ⟨rfl, hB3⟩
      have HB3 := Shut.mk hB3
      clear hB3
      go_wp2_with fail
      go_roundw
      case rel => exact ⟨k + 1, by omega, by go_num, HB3.out⟩
      case measure => simp [intOf]; omega
    · obtain rfl : k = 3 := by omega
      clear hB2
      have hs : ∀ x : UInt8, (⟨#[x]⟩ : ByteArray).size ≤ reach := fun x => by simp [ByteArray.size, reach]
      have hs0 : (⟨#[]⟩ : ByteArray).size ≤ reach := by simp [ByteArray.size, reach]
      have hc1 : chFuse true (-1) = -1 := rfl
      have hR1 := nw_rename HB2.out.nw ⟨#[122]⟩ ⟨#[109]⟩ (hs _) (hs _) (by omega) (by omega) (by omega) (by decide) (by omega) (b := xa) (sy := 0) rfl
      have e1 : renF (SN xa 3) (⟨#[122]⟩ : ByteArray).data.toList (⟨#[109]⟩ : ByteArray).data.toList xa 0 = [([97], xa, 0), ([109], xa, 0)] := rfl
      rw [e1, hc1] at hR1
      have HR1 := Shut.mk hR1
      clear hR1 e1
      go_wp2_with fail
      refine HR1.out.mono ?_
      rintro e w3 ⟨rfl, hN3⟩
      have hR2 := nw_rename_none hN3 ⟨#[113]⟩ ⟨#[114]⟩ (hs _) (hs _) (by omega) (by omega) (by omega) (by decide) rfl
      rw [hc1] at hR2
      have HR2 := Shut.mk hR2
      clear hR2 hN3 HR1
      go_wp2_with fail
      refine HR2.out.mono ?_
      rintro e w4 ⟨rfl, hN4⟩
      have e2 : chErr (nameOk (⟨#[]⟩ : ByteArray).data.toList) (-1) = 1 := rfl
      have e3 : chFuse (nameOk (⟨#[]⟩ : ByteArray).data.toList) (-1) = -1 := rfl
      have hR3 := nw_rename_stop hN4 ⟨#[97]⟩ ⟨#[]⟩ hs0 (by omega) (by omega) (by rw [e2]; decide)
      rw [e2, e3] at hR3
      have HR3 := Shut.mk hR3
      clear hR3 hN4 e2 e3 HR2
      go_wp2_with fail
      refine HR3.out.mono ?_
      rintro e w5 ⟨rfl, hN5⟩
      have hR4 := nw_remove_none hN5 ⟨#[122]⟩ (hs _) (by omega) (by omega) (by omega) rfl
      rw [hc1] at hR4
      have HR4 := Shut.mk hR4
      clear hR4 hN5 HR3
      go_wp2_with fail
      refine HR4.out.mono ?_
      rintro e w6 ⟨rfl, hN6⟩
      have HR5 := Shut.mk (nw_read hN6 ⟨#[109]⟩ (hs _) (b := xa) (sy := 0) rfl)
      clear hN6 HR4
      go_wp2_with fail
      refine HR5.out.mono ?_
      rintro e w7 ⟨v7, rfl, ho7, hN7, hb7, _⟩
      obtain ⟨A7, c7, hv7, _⟩ := ho7.form
      subst hv7
      have HE := Shut.mk (equal_calls A7 A xa.length c7 na ca xa xa w7 (own_rdB _ ho7) (rdB_nw hN7 HA.out) rfl HLA.out)
      rw [beq_self_eq_true] at HE
      have HLI := Shut.mk (nw_list hN7 (by omega) (want := [[97], [109]]) (by simp; decide) (fun a => by
        unfold look
        by_cases h1 : a = [97]
        · subst h1; simp
        · by_cases h2 : a = [109]
          · subst h2; simp
          · have h3 : ¬ ([97] = a) := fun e => h1 e.symm
            have h4 : ¬ ([109] = a) := fun e => h2 e.symm
            simp [h1, h2, h3, h4]))
      clear hN7 ho7 hb7 HR5
      go_wp2_with fail
      refine HE.out.mono ?_
      rintro e w' ⟨rfl, rfl⟩
      go_wp2_with fail
      refine HLI.out.mono ?_
      rintro e w8 ⟨v8, rfl, ho8, hN8, hb8, _⟩
      have hb9 : Below w8.heap.size w8 (w8.alloc (.cells #[.string ⟨#[97]⟩, .string ⟨#[109]⟩] 9)) := (Below.refl _ w8).alloc (Nat.le_refl _) _
      have HQ := Shut.mk (equal_names v8 (.slice (some ⟨w8.heap.size, 0, none⟩) 2 2) [[97], [109]] (w8.alloc (.cells #[.string ⟨#[97]⟩, .string ⟨#[109]⟩] 9)) (ho8.alloc _) (own_lits w8 [[97], [109]] (by simp [maxLen])))
      have HN9 := Shut.mk (nw_quiet hN8 hb9)
      clear hN8 hb8 ho8 hb9 HLI HE
      go_wp2_with fail
      refine HQ.out.mono ?_
      rintro e w9 ⟨rfl, hb10⟩
      have hU := nw_used (nw_quiet HN9.out hb10)
      have hu1 : used [(([97] : List UInt8), xa, 0), ([109], xa, 0)] = na + na := by simp [used, HLA.out]
      rw [hu1] at hU
      have HU := Shut.mk hU
      clear hU hu1 hb10 HQ
      have hw2 : IntKind.i64.wrap (2 * (na : Int)) = ((na + na : Nat) : Int) := by rw [IntKind.wrap_i64]; omega
      go_wp2_with fail
      refine HU.out.mono ?_
      rintro e w10 ⟨rfl, hN10, _⟩
      go_wp2_with fail
      go_ret
      exact ⟨rfl, hN10.below⟩
end Go.Proofs.Ytjmaimpfplojpaa
