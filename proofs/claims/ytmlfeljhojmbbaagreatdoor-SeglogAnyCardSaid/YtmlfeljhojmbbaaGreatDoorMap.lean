/- Words for a map whose elements are pointers: block b is such a map, key by key. -/
import Derived.Test.YtmlfeljhojmbbaaGreatDoorMem
import Derived.Maps.OwnSet
import Derived.Maps.OwnOps
import Derived.Maps.Views
namespace Go.Proofs.YtmlfeljhojmbbaaGreatDoor
open Go.RowKit Go.Maps
set_option linter.unusedSimpArgs false
set_option linter.unusedVariables false

def ptrElem (v : Value) : Option (DataW Unit × List MemPlace) :=
  match v with
  | .pointer none => some (.nil, [])
  | .pointer (some ⟨g, 0, none⟩) => some (.lit (.int .i64 (g : Int)), [])
  | _ => none
def ptr (o : Option Nat) : Value := .pointer (o.map fun g => ⟨g, 0, none⟩)
def pd : Option Nat → DataW Unit
  | none => .nil
  | some g => .lit (.int .i64 (g : Int))
theorem ptrElem_mk (o : Option Nat) : ptrElem (ptr o) = some (pd o, []) := by cases o <;> rfl
theorem ptrElem_inv {v : Value} {o : Option Nat} {ps : List MemPlace} (h : ptrElem v = some (pd o, ps)) : v = ptr o := by
  unfold ptrElem at h
  split at h
  · cases o with
    | none => rfl
    | some g => simp [pd] at h
  · cases o with
    | none => simp [pd] at h
    | some g =>
      simp [pd] at h
      obtain ⟨h1, _⟩ := h
      simp [ptr, h1]
  · cases h
/-- block b is a map of at most n entries: a key leads to f of it -/
def PM (w : World) (P : Program) (k : TypeId) (b n : Nat) (f : Lit → Option Nat) : Prop :=
  ∃ D : DataW Unit, w.ownsMap P k ptrElem b n D ∧ ∀ kl, WideAt.IsKeyLit kl → ∀ zd, D.atKey kl zd = (f kl).elim zd (fun g => .lit (.int .i64 (g : Int)))
theorem pd_elim (o : Option Nat) : (o.elim (.nil : DataW Unit) fun g => .lit (.int .i64 (g : Int))) = pd o := by cases o <;> rfl
section
variable {P : Program} {w w' : World} {k b n : Nat} {f : Lit → Option Nat}
theorem PM.made (w : World) (P : Program) (k : TypeId) : PM (w.alloc (.map #[] 0)) P k w.heap.size 0 (fun _ => none) :=
  ⟨.map [], World.ownsMap_made w P k ptrElem, fun kl _ zd => rfl⟩
theorem PM.lt (h : PM w P k b n f) : b < w.heap.size := by obtain ⟨D, h, _⟩ := h; exact h.lt
theorem PM.grown (h : PM w P k b n f) {row : Option Nat} (hg : w.grownBy w' row) (hne : some b ≠ row) : PM w' P k b n f := by
  obtain ⟨D, h, hf⟩ := h
  exact ⟨D, h.kept hg hne, hf⟩
theorem PM.alloc (h : PM w P k b n f) (o : Obj) : PM (w.alloc o) P k b n f := h.grown (World.grownBy_alloc w o none) (by simp)
theorem PM.setCell (h : PM w P k b n f) {a : Addr} (ha : b ≠ a.block) (u : Value) : PM (w.setCell a u) P k b n f := by
  obtain ⟨D, h, hf⟩ := h
  exact ⟨D, h.setCell ha u, hf⟩
theorem PM.below (h : PM w P k b n f) {B : Nat} (hb : Below B w w') (hlt : b < B) : PM w' P k b n f := by
  obtain ⟨D, ⟨es, clock, hh, r⟩, hf⟩ := h
  exact ⟨D, ⟨es, clock, (hb.block b hlt).trans hh, r⟩, hf⟩
theorem PM.look {t e : TypeId} (h : PM w P k b n f) (K : Keyed P k) (ht : P.underlying t = some (.map k e)) (hz : (zeroValue e).run P w = .ok (.pointer none) w)
    {key : Value} {kl : Lit} (hkey : keyOf P k key = some kl) (hkl : WideAt.IsKeyLit kl) : (Instr.lookup t (.map (some b)) key false).run P w = .ok (ptr (f kl)) w := by
  obtain ⟨D, h, hf⟩ := h
  obtain ⟨v, ps, hrun, hv⟩ := h.lookup K ht hz (zd := .nil) (zp := []) rfl hkey
  rw [hf kl hkl, pd_elim] at hv
  rw [hrun, ptrElem_inv hv]
end
open Classical in
/-- the same, but for one key -/
noncomputable def turned (f : Lit → Option Nat) (kl : Lit) (o : Option Nat) : Lit → Option Nat := fun x => if x = kl then o else f x
theorem turned_same (f : Lit → Option Nat) (kl : Lit) (o : Option Nat) : turned f kl o kl = o := by simp [turned]
theorem turned_other (f : Lit → Option Nat) {kl x : Lit} (o : Option Nat) (h : x ≠ kl) : turned f kl o x = f x := by simp [turned, h]
section
variable {P : Program} (w : World) {ops : Array Oper} {rest : List Oper} {o : Oper} {a : Act} {Q : Exit → Act → World → Prop}
theorem PM.update {t e k b n : Nat} {f : Lit → Option Nat} (h : PM w P k b n f) (K : Keyed P k) (ht : P.underlying t = some (.map k e)) (hn : n < maxLen) {key : Value} {kl : Lit} (p : Nat) (hkey : keyOf P k key = some kl) :
    ∃ w', (Instr.mapUpdate t (.map (some b)) key (ptr (some p))).run P w = .ok () w' ∧ PM w' P k b (n + 1) (turned f kl (some p)) ∧ w.grownBy w' (some b) := by
  obtain ⟨D, h, hf⟩ := h
  obtain ⟨w', hrun, h', hg'⟩ := h.update K ht hn hkey (ptrElem_mk (some p))
  refine ⟨w', hrun, ⟨_, h', fun y hy zd => ?_⟩, hg'⟩
  by_cases e : y = kl
  · subst e
    rw [turned_same]
    exact atKey_put_same h.isMap hy _ _
  · rw [turned_other f _ e, ← hf y hy zd]
    exact atKey_put_other e _ _
theorem wpList_del_pm (hg : o.guard = none) (m x : Operand) (t k : TypeId) (hop : o.op = Op.call { callee := Callee.builtin Builtin.delete, args := #[m, x], argTypes := #[t, k] })
    (e : TypeId) (K : Keyed P k) (ht : P.underlying t = some (.map k e)) (b n : Nat) (f : Lit → Option Nat)
    (hm : a.eval m = .map (some b)) (hown : PM w P k b n f) (key : Value) (kl : Lit) (hx : a.eval x = key) (hkey : keyOf P k key = some kl)
    (hK : ∀ w', PM w' P k b n (turned f kl none) → w.grownBy w' (some b) → wpList P ops Q rest (a.put o.dst (.tuple #[])) w') :
    wpList P ops Q (o :: rest) a w := by
  obtain ⟨D, h, hf⟩ := hown
  refine wpList_delete_own w hg m x t k hop e K ht ptrElem b n D hm h key kl hx hkey fun w' h' ht' => hK w' ⟨_, h', fun y hy zd => ?_⟩ ht'.grown
  by_cases e : y = kl
  · subst e
    rw [turned_same]
    exact atKey_del_same _
  · rw [turned_other f none e, ← hf y hy zd]
    exact atKey_del_other e _
end
end Go.Proofs.YtmlfeljhojmbbaaGreatDoor
