/- Slices that never change again, read as lists. -/
import Derived.Test.YtffkmfgmdepfcaaGreatDoorSl5
set_option linter.unusedSimpArgs false
namespace Go.Sl
open Go.RowKit

/-- How a Lean value lies in cells: by a ghost (where its own slices lie), with what must hold of the unchanging blocks. -/
class Rp (α : Type) where
  sz : Nat
  Gh : Type
  cells : α → Gh → List Value
  facts : α → Gh → List Assn
  len : ∀ a g, (cells a g).length = sz
  ones : ∀ a g v, v ∈ cells a g → one v = true
  pers : ∀ a g A, A ∈ facts a g → ∀ D h, A.holds D h → h = []

/-- all facts hold -/
def allF (As : List Assn) (D : Dat) : Prop := ∀ A ∈ As, A.holds D []
theorem allF_mono {As : List Assn} {D D' : Dat} (hl : Dat.le D D') (h : allF As D) : allF As D' := fun A hA => A.mono hl (h A hA)
theorem allF_stars {As : List Assn} {D : Dat} (h : allF As D) : stars As D [] := by
  induction As with
  | nil => rfl
  | cons A As ih => exact ⟨[], [], rfl, h A (by simp), ih (fun B hB => h B (by simp [hB]))⟩

/-- an address k + o cells behind a slice's first one -/
def eaddr (p : Option Addr) (k o : Nat) : Addr := match p with | some a => a.add (k + o) | none => ⟨0, 0, none⟩

/-- cells that never change again, k behind a slice's first one -/
def eltA (p : Option Addr) (k : Nat) (cs : List Value) : Assn :=
  pers (fun D => ∃ b o, p = some ⟨b, o, none⟩ ∧ ∀ j v, cs[j]? = some v → cellD D b (o + k + j) v) (fun hl ⟨b, o, hp, hc⟩ => ⟨b, o, hp, fun j v hv => (hc j v hv).mono hl⟩)

def dSp {α : Type} [Rp α] (p : Option Addr) (n c : Nat) (xs : List α) (D : Dat) : Prop :=
  n = xs.length ∧ n ≤ c ∧ (xs ≠ [] → ∃ b o, p = some ⟨b, o, none⟩ ∧
    ∀ i x, xs[i]? = some x → ∃ g, (∀ j v, (Rp.cells x g)[j]? = some v → cellD D b (o + i * Rp.sz α + j) v) ∧ allF (Rp.facts x g) D)
/-- a slice that reads as a list, and never changes again -/
def dS {α : Type} [Rp α] (p : Option Addr) (n c : Nat) (xs : List α) : Assn :=
  pers (dSp p n c xs) (fun hl ⟨h1, h2, h3⟩ => ⟨h1, h2, fun hne => by
    obtain ⟨b, o, hp, hx⟩ := h3 hne
    exact ⟨b, o, hp, fun i x hi => by
      obtain ⟨g, hc, hf⟩ := hx i x hi
      exact ⟨g, fun j v hv => (hc j v hv).mono hl, allF_mono hl hf⟩⟩⟩)

instance {p : Option Addr} {k : Nat} {cs : List Value} : Pers (eltA p k cs) := ⟨fun _ _ h => h.1⟩
instance {α : Type} [Rp α] {p : Option Addr} {n c : Nat} {xs : List α} : Pers (dS p n c xs) := ⟨fun _ _ h => h.1⟩

class EltAt (As : List Assn) (p : Option Addr) (k : Nat) (cs : outParam (List Value)) : Prop where
  ent : ∀ {B0 w0 D w}, St B0 w0 D As w → ∃ b o, p = some ⟨b, o, none⟩ ∧ ∀ j v, cs[j]? = some v → cellD D b (o + k + j) v
instance EltAt.here {As : List Assn} {p : Option Addr} {k : Nat} {cs : List Value} : EltAt (eltA p k cs :: As) p k cs := ⟨fun s => by
  unfold eltA at s
  exact s.pers⟩
instance (priority := low) EltAt.there {A : Assn} {As : List Assn} {p : Option Addr} {k : Nat} {cs : List Value} [h : EltAt As p k cs] : EltAt (A :: As) p k cs := ⟨fun s => h.ent s.tail⟩

class SlcAt {α : Type} [Rp α] (As : List Assn) (p : Option Addr) (n c : outParam Nat) (xs : outParam (List α)) : Prop where
  ent : ∀ {B0 w0 D w}, St B0 w0 D As w → dSp p n c xs D
instance SlcAt.here {α : Type} [Rp α] {As : List Assn} {p : Option Addr} {n c : Nat} {xs : List α} : SlcAt (dS p n c xs :: As) p n c xs := ⟨fun s => by
  unfold dS at s
  exact s.pers⟩
instance (priority := low) SlcAt.there {α : Type} [Rp α] {A : Assn} {As : List Assn} {p : Option Addr} {n c : Nat} {xs : List α} [h : SlcAt As p n c xs] : SlcAt (A :: As) p n c xs := ⟨fun s => h.ent s.tail⟩

section
variable {x : Cx} {E : Env} {As : List Assn} {K : Act → World → Prop}

/-- An element is looked into. -/
theorem F.openElt {α : Type} [Rp α] {p : Option Addr} {n c : Nat} {xs : List α} (i : Nat) (e : α) (hi : xs[i]? = some e) [h : SlcAt As p n c xs]
    (k : ∀ g : Rp.Gh α, F x K E (eltA p (i * Rp.sz α) (Rp.cells e g) :: (Rp.facts e g ++ As))) : F x K E As := fun D a w hl r st => by
  obtain ⟨h1, h2, h3⟩ := h.ent st
  obtain ⟨b, o, hp, hx⟩ := h3 (by intro e'; subst e'; simp at hi)
  obtain ⟨g, hc, hf⟩ := hx i e hi
  refine k g D a w hl r ?_
  refine St.persI (hm := _) ?_ ⟨b, o, hp, hc⟩
  obtain ⟨hh, rr, oo⟩ := st.own
  exact ⟨st.dat, ⟨hh, stars_append.2 ⟨[], hh, rfl, allF_stars hf, rr⟩, oo⟩, st.below, st.low⟩

theorem elt_cell {p : Option Addr} {b o k : Nat} {cs : List Value} {D : Dat} {w : World} (hw : DH D w) (hp : p = some ⟨b, o, none⟩) (hc : ∀ j v, cs[j]? = some v → cellD D b (o + k + j) v) {j : Nat} {v : Value} (hj : cs[j]? = some v) :
    w.cell? (eaddr p k j) = some v := by
  subst hp
  simp only [eaddr, add_mk]
  rw [← Nat.add_assoc]
  exact hw.cell (hc j v hj)

theorem op_indexE {T : TypeId} {y z : Operand} {p : Option Addr} {n c e sz k : Nat} {i : Int} {ik : IntKind} {cs : List Value} [h : TU x.P T (.slice e)] [hs : TSz x.P e sz] (hy : ev E y = some (.slice p n c)) (hz : ev E z = some (.int ik i)) (hk : i.toNat = k) (h0 : 0 ≤ i ∧ i < n) [he : EltAt As p (k * sz) cs] :
    ReadOp x E As (.indexAddr T y z) (.pointer (some (eaddr p (k * sz) 0))) := fun D a w hl r st w' hd dst t pos after g => by
  obtain ⟨b, o, hp, _⟩ := he.ent st
  subst hp hk
  simp only [execOp, r.ev hy, r.ev hz, Instr.indexAt, asIntOf, Bind.bind, run_bind, run_underlying' h.eq, Pure.pure, Sem.run, h0, and_self, if_true, run_sizeOf hs.eq, eaddr, Nat.add_zero]

theorem op_fieldAddrE {T : TypeId} {y : Operand} {f off k o o' : Nat} {p : Option Addr} {cs : List Value} [h : FA x.P T f off] (hy : ev E y = some (.pointer (some (eaddr p k o)))) [ha : AddN o off o'] [he : EltAt As p k cs] :
    ReadOp x E As (.fieldAddr T y f) (.pointer (some (eaddr p k o'))) := fun D a w hl r st w' hd dst t pos after g => by
  obtain ⟨b, oo, hp, _⟩ := he.ent st
  subst hp
  rw [← ha.eq]
  simp only [eaddr, add_mk] at hy ⊢
  have := op_fieldAddr (P := x.P) (E := E) (T := T) (f := f) (off := off) (o' := oo + (k + o) + off) hy (ha := ⟨rfl⟩)
  have h2 := this a.eval r.ok dst t pos after g w'
  rw [show oo + (k + (o + off)) = oo + (k + o) + off from by omega]
  exact h2

theorem rd_elt1 {T : TypeId} {y : Operand} {k o sz : Nat} {p : Option Addr} {cs : List Value} {v : Value} [h : TL x.P T false sz] (hy : ev E y = some (.pointer (some (eaddr p k o)))) [he : EltAt As p k cs] [hv : NthC cs o v] : ReadOp x E As (.load T y) v := fun D a w hl r st w' hd dst t pos after g => by
  obtain ⟨b, oo, hp, hc⟩ := he.ent st
  simp only [execOp, r.ev hy, Instr.loadAt, Instr.sureAddr, Bind.bind, run_bind, Pure.pure, Sem.run, run_loadVar1 h (elt_cell hd hp hc hv.eq)]

theorem rd_eltA {T : TypeId} {y : Operand} {k o sz : Nat} {p : Option Addr} {cs vs : List Value} [h : TL x.P T true sz] (hy : ev E y = some (.pointer (some (eaddr p k o)))) [he : EltAt As p k cs] [hv : SlcC cs o sz vs] : ReadOp x E As (.load T y) (.agg vs.toArray) := fun D a w hl r st w' hd dst t pos after g => by
  obtain ⟨b, oo, hp, hc⟩ := he.ent st
  have hlen := hv.len
  subst hlen
  have hcell : ∀ j v, vs[j]? = some v → w'.cell? ((eaddr p k o).add j) = some v := fun j v hj => by
    have h2 : cs[o + j]? = some v := hv.get hj
    have h3 := elt_cell hd hp hc h2
    have e : (eaddr p k o).add j = eaddr p k (o + j) := by
      subst hp
      simp only [eaddr, add_mk, Nat.add_assoc]
    rw [e]; exact h3
  simp only [execOp, r.ev hy, Instr.loadAt, Instr.sureAddr, Bind.bind, run_bind, Pure.pure, Sem.run, run_loadVarA h hcell]
end
end Go.Sl
