/- Words for a disk: its files as a list of entries, the map that leads to them, and what lies where. -/
import Derived.Test.YtmlfeljhojmbbaaGreatDoorMap
import Derived.Test.YtmlfeljhojmbbaaGreatDoorBlk
import Derived.Test.YtmlfeljhojmbbaaGreatDoorKb
import Derived.StringKeys
import Derived.Maps.RangeWalk
namespace Go.Proofs.YtmlfeljhojmbbaaGreatDoor
open Go.RowKit Go.Maps
set_option linter.unusedSimpArgs false
set_option linter.unusedVariables false
set_option maxRecDepth 100000

/-- block b is a map of at most n entries from names to pointers, none of them nil: a name leads to f of it -/
def FM (w : World) (P : Program) (k : TypeId) (b n : Nat) (f : List UInt8 → Option Nat) : Prop :=
  ∃ D : DataW Unit, w.ownsMap P k ptrElem b n D ∧ ∀ s zd, D.atKey (.string s) zd = (f s).elim zd (fun g => .lit (.int .i64 (g : Int)))
section
variable {P : Program} {w w' : World} {k b n : Nat} {f : List UInt8 → Option Nat}
theorem FM.made (w : World) (P : Program) (k : TypeId) : FM (w.alloc (.map #[] 0)) P k w.heap.size 0 (fun _ => none) :=
  ⟨.map [], World.ownsMap_made w P k ptrElem, fun s zd => rfl⟩
theorem FM.lt (h : FM w P k b n f) : b < w.heap.size := by obtain ⟨D, h, _⟩ := h; exact h.lt
theorem FM.isMap (h : FM w P k b n f) : ∃ es clock, w.heap[b]? = some (.map es clock) := by
  obtain ⟨D, ⟨es, clock, hh, _⟩, _⟩ := h
  exact ⟨es, clock, hh⟩
theorem FM.keep (h : FM w P k b n f) (hb : w'.heap[b]? = w.heap[b]?) : FM w' P k b n f := by
  obtain ⟨D, ⟨es, clock, hh, r⟩, hf⟩ := h
  exact ⟨D, ⟨es, clock, hb.trans hh, r⟩, hf⟩
theorem FM.look {t e : TypeId} (h : FM w P k b n f) (K : Keyed P k) (ht : P.underlying t = some (.map k e)) (hz : (zeroValue e).run P w = .ok (.pointer none) w)
    {key : Value} {s : List UInt8} (hkey : keyOf P k key = some (.string s)) : (Instr.lookup t (.map (some b)) key false).run P w = .ok (ptr (f s)) w := by
  obtain ⟨D, h, hf⟩ := h
  obtain ⟨v, ps, hrun, hv⟩ := h.lookup K ht hz (zd := .nil) (zp := []) rfl hkey
  rw [hf s .nil] at hv
  have : ((f s).elim (.nil : DataW Unit) fun g => .lit (.int .i64 (g : Int))) = pd (f s) := by cases f s <;> rfl
  rw [this] at hv
  rw [hrun, ptrElem_inv hv]
end
/-- the same, but for one name -/
def at_ (f : List UInt8 → Option Nat) (s : List UInt8) (o : Option Nat) : List UInt8 → Option Nat := fun x => if x = s then o else f x
section
variable {P : Program} (w : World)
theorem FM.update {t e k b n : Nat} {f : List UInt8 → Option Nat} (h : FM w P k b n f) (K : Keyed P k) (ht : P.underlying t = some (.map k e)) (hn : n < maxLen) {key : Value} {s : List UInt8} (g : Nat) (hkey : keyOf P k key = some (.string s)) :
    ∃ w', (Instr.mapUpdate t (.map (some b)) key (.pointer (some ⟨g, 0, none⟩))).run P w = .ok () w' ∧ FM w' P k b (n + 1) (at_ f s (some g)) ∧ w.grownBy w' (some b) := by
  obtain ⟨D, h, hf⟩ := h
  obtain ⟨w', hrun, h', hg'⟩ := h.update K ht hn hkey (ptrElem_mk (some g))
  refine ⟨w', hrun, ⟨_, h', fun x zd => ?_⟩, hg'⟩
  by_cases e : x = s
  · subst e
    have e1 : at_ f x (some g) x = some g := if_pos rfl
    rw [e1]
    exact atKey_put_same h.isMap (show WideAt.IsKeyLit (.string x) from True.intro) _ _
  · have e1 : at_ f s (some g) x = f x := if_neg e
    rw [e1, ← hf x zd]
    exact atKey_put_other (fun e2 => e (by injection e2)) _ _
theorem wpList_del_fm {ops : Array Oper} {rest : List Oper} {o : Oper} {a : Act} {Q : Exit → Act → World → Prop} (hg : o.guard = none) (m x : Operand) (t k : TypeId) (hop : o.op = Op.call { callee := Callee.builtin Builtin.delete, args := #[m, x], argTypes := #[t, k] })
    (e : TypeId) (K : Keyed P k) (ht : P.underlying t = some (.map k e)) (b n : Nat) (f : List UInt8 → Option Nat)
    (hm : a.eval m = .map (some b)) (hown : FM w P k b n f) (key : Value) (s : List UInt8) (hx : a.eval x = key) (hkey : keyOf P k key = some (.string s))
    (hK : ∀ w', FM w' P k b n (at_ f s none) → w.grownBy w' (some b) → wpList P ops Q rest (a.put o.dst (.tuple #[])) w') :
    wpList P ops Q (o :: rest) a w := by
  obtain ⟨D, h, hf⟩ := hown
  refine wpList_delete_own w hg m x t k hop e K ht ptrElem b n D hm h key (.string s) hx hkey fun w' h' ht' => hK w' ⟨_, h', fun y zd => ?_⟩ ht'.grown
  by_cases e : y = s
  · subst e
    have e1 : at_ f y none y = none := if_pos rfl
    rw [e1]
    exact atKey_del_same _
  · have e1 : at_ f s none y = f y := if_neg e
    rw [e1, ← hf y zd]
    exact atKey_del_other (fun e2 => e (by injection e2)) _
end
theorem ptr_elem_inv {v : Value} {y : DataW Unit × List MemPlace} (h : ptrElem v = some y) : ∃ o, v = ptr o ∧ y = (pd o, []) := by
  unfold ptrElem at h
  split at h
  · injection h with h
    exact ⟨none, rfl, h.symm⟩
  · rename_i g
    injection h with h
    exact ⟨some g, rfl, h.symm⟩
  · cases h
/-- a key of a name -/
def nameKey (s : ByteArray) : Lit := .string s.data.toList
/-- an entry that comes leads to a file -/
theorem comes {D : DataW Unit} {f : List UInt8 → Option Nat} (hf : ∀ s zd, D.atKey (.string s) zd = (f s).elim zd (fun g => .lit (.int .i64 (g : Int)))) {s : List UInt8} {o : Option Nat} (hat : ∀ zd, D.atKey (.string s) zd = pd o) :
    ∃ g, f s = some g ∧ o = some g := by
  cases h : f s with
  | none =>
    have h1 := hat .nil
    have h2 := hat (.lit (.int .i64 (-1)))
    rw [hf, h] at h1 h2
    cases o with
    | none => simp [pd] at h2
    | some g => simp [pd] at h1
  | some g =>
    have h1 := hat .nil
    rw [hf, h] at h1
    cases o with
    | none => simp [pd] at h1
    | some g' =>
      simp [pd] at h1
      exact ⟨g, rfl, by congr 1; omega⟩
theorem has_of {D : DataW Unit} {f : List UInt8 → Option Nat} (hf : ∀ s zd, D.atKey (.string s) zd = (f s).elim zd (fun g => .lit (.int .i64 (g : Int)))) {s : List UInt8} {g : Nat} (h : f s = some g) : Maps.has D (.string s) = true :=
  has_true_of_atKey (y := .lit (.int .i64 (g : Int))) fun zd => by rw [hf, h]; rfl

/-! ### the files -/
structure Ent where
  key : List UInt8
  g : Nat
  v : Value
  b : List UInt8
  syn : Nat
/-- a file as the document has it: name, bytes, how many are synced -/
abbrev Fl := List UInt8 × List UInt8 × Nat
def Ent.fl (e : Ent) : Fl := (e.key, e.b, e.syn)
def lookE (es : List Ent) (s : List UInt8) : Option Ent := es.find? fun e => e.key == s
def look (S : List Fl) (s : List UInt8) : Option (List UInt8 × Nat) := (S.find? fun x => x.1 == s).map (·.2)
theorem look_map (es : List Ent) (s : List UInt8) : look (es.map Ent.fl) s = (lookE es s).map fun e => (e.b, e.syn) := by
  unfold look lookE
  induction es with
  | nil => rfl
  | cons e r ih =>
    simp only [List.map_cons, List.find?_cons, Ent.fl] at *
    by_cases h : (e.key == s) = true
    · simp [h]
    · simp only [h]
      exact ih
theorem lookE_mem {es : List Ent} {s : List UInt8} {e : Ent} (h : lookE es s = some e) : e ∈ es ∧ e.key = s := by
  unfold lookE at h
  refine ⟨List.mem_of_find?_eq_some h, ?_⟩
  have := List.find?_some h
  simpa using this
def usedE (es : List Ent) : Nat := (es.map fun e => e.b.length).sum
def used (S : List Fl) : Nat := (S.map fun x => x.2.1.length).sum
theorem used_map (es : List Ent) : used (es.map Ent.fl) = usedE es := by simp [used, usedE, Ent.fl, Function.comp_def]
/-- the sum over the entries that are no longer to come -/
def doneE (es : List Ent) (left : Lit → Bool) : Nat := (es.map fun e => if left (.string e.key) then 0 else e.b.length).sum
theorem done_start (es : List Ent) (left : Lit → Bool) (h : ∀ e ∈ es, left (.string e.key) = true) : doneE es left = 0 := by
  unfold doneE
  induction es with
  | nil => rfl
  | cons e r ih =>
    simp only [List.map_cons, List.sum_cons, h e (by simp), if_true]
    rw [ih fun x hx => h x (by simp [hx])]
theorem done_end (es : List Ent) (left : Lit → Bool) (h : ∀ k, left k = false) : doneE es left = usedE es := by
  unfold doneE usedE
  congr 1
  refine List.map_congr_left fun e _ => ?_
  simp [h]
theorem done_le (es : List Ent) (left : Lit → Bool) : doneE es left ≤ usedE es := by
  unfold doneE usedE
  induction es with
  | nil => exact Nat.le_refl _
  | cons e r ih =>
    simp only [List.map_cons, List.sum_cons]
    split <;> omega
theorem sameKey_string (a b : List UInt8) : (Lit.string a).sameKey (.string b) = decide (a = b) := by
  by_cases h : a = b
  · subst h
    simp [Lit.sameKey]
  · rw [sameKey_ne (fun e => h (by injection e))]
    simp [h]
theorem done_same (es : List Ent) (left : Lit → Bool) (s : List UInt8) (hne : ∀ e ∈ es, e.key ≠ s) : doneE es (fun z => left z && !z.sameKey (.string s)) = doneE es left := by
  unfold doneE
  congr 1
  refine List.map_congr_left fun e he => ?_
  simp [sameKey_string, hne e he]
theorem done_step {es : List Ent} (hp : es.Pairwise fun a b => a.key ≠ b.key) {left : Lit → Bool} {s : List UInt8} {e : Ent} (h : lookE es s = some e) (hl : left (.string s) = true) :
    doneE es (fun z => left z && !z.sameKey (.string s)) = doneE es left + e.b.length := by
  induction es with
  | nil => simp [lookE] at h
  | cons x r ih =>
    rw [List.pairwise_cons] at hp
    unfold lookE at h
    rw [List.find?_cons] at h
    by_cases hx : x.key = s
    · simp [hx] at h
      subst h
      have hr := done_same r left s (fun y hy e => hp.1 y hy (hx.trans e.symm))
      unfold doneE at hr ⊢
      simp only [List.map_cons, List.sum_cons]
      rw [hr]
      simp [sameKey_string, hx, hl]
      omega
    · have hx' : (x.key == s) = false := by simp [hx]
      rw [hx'] at h
      have hr := ih hp.2 h
      unfold doneE at hr ⊢
      simp only [List.map_cons, List.sum_cons]
      rw [hr]
      simp [sameKey_string, hx]
      omega
end Go.Proofs.YtmlfeljhojmbbaaGreatDoor
