/- A small separation logic over the model's worlds: assertions on owned blocks and on cells that never change again. -/
import Derived.Calls
import Derived.Tactics
import Derived.Orders
import Derived.Below
namespace Go.Sl
open Go.RowKit

/-- Cells that never change again: block number to the block's first cells. -/
abbrev Dat := Nat → Option (List Value)

def Dat.le (D D' : Dat) : Prop := ∀ b c, D b = some c → ∃ c', D' b = some c' ∧ c <+: c'

theorem Dat.le_refl (D : Dat) : Dat.le D D := fun _ c h => ⟨c, h, List.prefix_refl c⟩
theorem Dat.le_trans {A B C : Dat} (h : Dat.le A B) (k : Dat.le B C) : Dat.le A C := fun b c e =>
  let ⟨c1, e1, p1⟩ := h b c e
  let ⟨c2, e2, p2⟩ := k b c1 e1
  ⟨c2, e2, p1.trans p2⟩

/-- a cell that never changes again -/
def cellD (D : Dat) (b o : Nat) (v : Value) : Prop := ∃ c, D b = some c ∧ c[o]? = some v
theorem prefix_get {α : Type} {c c' : List α} (h : c <+: c') {o : Nat} {v : α} (hv : c[o]? = some v) : c'[o]? = some v := by
  obtain ⟨t, rfl⟩ := h
  have : o < c.length := (List.getElem?_eq_some_iff.1 hv).1
  rw [List.getElem?_append_left this]; exact hv
theorem cellD.mono {D D' : Dat} {b o : Nat} {v : Value} (hl : Dat.le D D') (h : cellD D b o v) : cellD D' b o v := by
  obtain ⟨c, hc, hv⟩ := h
  obtain ⟨c', hc', hp⟩ := hl b c hc
  exact ⟨c', hc', prefix_get hp hv⟩

def Dat.add (D : Dat) (b : Nat) (c : List Value) : Dat := fun k => if k = b then some c else D k

theorem Dat.le_add {D : Dat} {b : Nat} {c : List Value} (h : ∀ c0, D b = some c0 → c0 <+: c) : Dat.le D (D.add b c) := by
  intro k d hk
  unfold Dat.add
  by_cases e : k = b
  · subst e; exact ⟨c, by simp, h d hk⟩
  · exact ⟨d, by simp [e, hk], List.prefix_refl d⟩

/-- The world holds the blocks. -/
def DH (D : Dat) (w : World) : Prop := ∀ b c, D b = some c → ∃ all T fz, w.heap[b]? = some (.cells all T fz) ∧ c <+: all.toList

theorem DH.mono {D D' : Dat} {w : World} (h : DH D' w) (hl : Dat.le D D') : DH D w := fun b c e =>
  let ⟨c', e', p⟩ := hl b c e
  let ⟨all, T, fz, ha, p'⟩ := h b c' e'
  ⟨all, T, fz, ha, p.trans p'⟩

theorem DH.cell {D : Dat} {w : World} (h : DH D w) {b o : Nat} {v : Value} (hc : cellD D b o v) : w.cell? ⟨b, o, none⟩ = some v := by
  obtain ⟨c, e, hv⟩ := hc
  obtain ⟨all, T, fz, ha, p⟩ := h b c e
  have := prefix_get p hv
  simp only [World.cell?, ha]
  simpa using this

/-- Owned blocks; 'some k': but for the first k cells, which never change again. -/
abbrev Heap := List (Nat × Obj × Option Nat)

def freeOf (d : Option (List Value)) : Option Nat → Prop
  | none => d = none
  | some k => ∃ pre, d = some pre ∧ pre.length = k

/-- The world holds the owned blocks; none of them is among the unchanging ones, none lies below B0. -/
structure Own (B0 : Nat) (D : Dat) (h : Heap) (w : World) : Prop where
  nodup : (h.map (·.1)).Nodup
  at_ : ∀ p ∈ h, w.heap[p.1]? = some p.2.1
  free : ∀ p ∈ h, freeOf (D p.1) p.2.2
  base : ∀ p ∈ h, B0 ≤ p.1

theorem Own.perm {B0 : Nat} {D : Dat} {h h' : Heap} {w : World} (o : Own B0 D h w) (p : h.Perm h') : Own B0 D h' w :=
  ⟨(p.map _).nodup_iff.1 o.nodup, fun x hx => o.at_ x (p.mem_iff.2 hx), fun x hx => o.free x (p.mem_iff.2 hx), fun x hx => o.base x (p.mem_iff.2 hx)⟩

theorem Own.sublist {B0 : Nat} {D : Dat} {h h' : Heap} {w : World} (o : Own B0 D h w) (p : h'.Sublist h) : Own B0 D h' w :=
  ⟨o.nodup.sublist (p.map _), fun x hx => o.at_ x (p.mem hx), fun x hx => o.free x (p.mem hx), fun x hx => o.base x (p.mem hx)⟩

/-- An assertion: on the unchanging blocks and a list of owned ones; more unchanging blocks do no harm. -/
structure Assn where
  holds : Dat → Heap → Prop
  mono : ∀ {D D' h}, Dat.le D D' → holds D h → holds D' h

/-- All of a list, each on blocks of its own. -/
def stars : List Assn → Dat → Heap → Prop
  | [], _, h => h = []
  | A :: As, D, h => ∃ h1 h2, h = h1 ++ h2 ∧ A.holds D h1 ∧ stars As D h2

theorem stars_mono {D D' : Dat} (hl : Dat.le D D') : ∀ {As : List Assn} {h : Heap}, stars As D h → stars As D' h
  | [], _, e => e
  | A :: _, _, ⟨h1, h2, e, a, r⟩ => ⟨h1, h2, e, A.mono hl a, stars_mono hl r⟩

theorem stars_append {As Bs : List Assn} {D : Dat} : ∀ {h : Heap}, stars (As ++ Bs) D h ↔ ∃ h1 h2, h = h1 ++ h2 ∧ stars As D h1 ∧ stars Bs D h2 := by
  induction As with
  | nil => intro h; exact ⟨fun r => ⟨[], h, rfl, rfl, r⟩, fun ⟨h1, h2, e, e1, r⟩ => by simp [stars] at e1; subst e1; simp at e; subst e; exact r⟩
  | cons A As ih =>
    intro h
    constructor
    · rintro ⟨h1, h2, rfl, a, r⟩
      obtain ⟨h3, h4, rfl, r1, r2⟩ := ih.1 r
      exact ⟨h1 ++ h3, h4, by simp, ⟨h1, h3, rfl, a, r1⟩, r2⟩
    · rintro ⟨h1, h2, rfl, ⟨h3, h4, rfl, a, r1⟩, r2⟩
      exact ⟨h3, h4 ++ h2, by simp, a, ih.2 ⟨h4, h2, rfl, r1, r2⟩⟩

theorem stars_perm {As Bs : List Assn} (p : As.Perm Bs) {D : Dat} : ∀ {h : Heap}, stars As D h → ∃ h', h.Perm h' ∧ stars Bs D h' := by
  induction p with
  | nil => exact fun r => ⟨_, .refl _, r⟩
  | cons A _ ih =>
    rintro h ⟨h1, h2, rfl, a, r⟩
    obtain ⟨h', p, r'⟩ := ih r
    exact ⟨h1 ++ h', p.append_left h1, h1, h', rfl, a, r'⟩
  | swap A B l =>
    rintro h ⟨h1, h2, rfl, a, h3, h4, rfl, b, r⟩
    refine ⟨h3 ++ (h1 ++ h4), ?_, h3, h1 ++ h4, rfl, b, h1, h4, rfl, a, r⟩
    rw [← List.append_assoc, ← List.append_assoc]
    exact List.perm_append_comm.append_right h4
  | trans _ _ ih1 ih2 =>
    intro h r
    obtain ⟨h', p1, r1⟩ := ih1 r
    obtain ⟨h'', p2, r2⟩ := ih2 r1
    exact ⟨h'', p1.trans p2, r2⟩

/-- The state: the unchanging blocks, the owned ones, and what lay below B0 is as in w0. -/
structure St (B0 : Nat) (w0 : World) (D : Dat) (As : List Assn) (w : World) : Prop where
  dat : DH D w
  own : ∃ h, stars As D h ∧ Own B0 D h w
  below : Below B0 w0 w
  low : B0 ≤ w0.heap.size

section
variable {B0 : Nat} {w0 : World} {D : Dat} {As Bs : List Assn} {w : World}

theorem St.perm (s : St B0 w0 D As w) (p : As.Perm Bs) : St B0 w0 D Bs w := by
  obtain ⟨h, r, o⟩ := s.own
  obtain ⟨h', p', r'⟩ := stars_perm p r
  exact ⟨s.dat, ⟨h', r', o.perm p'⟩, s.below, s.low⟩

theorem St.tail {A : Assn} (s : St B0 w0 D (A :: As) w) : St B0 w0 D As w := by
  obtain ⟨h, ⟨h1, h2, rfl, _, r⟩, o⟩ := s.own
  exact ⟨s.dat, ⟨h2, r, o.sublist (List.sublist_append_right h1 h2)⟩, s.below, s.low⟩

theorem St.base_le (s : St B0 w0 D As w) : B0 ≤ w.heap.size := Nat.le_trans s.low s.below.size

/-- What an assertion says may be told otherwise. -/
theorem St.conseq {A : Assn} {Cs : List Assn} (s : St B0 w0 D (A :: As) w) (h : ∀ h, A.holds D h → stars Cs D h) : St B0 w0 D (Cs ++ As) w := by
  obtain ⟨hh, ⟨h1, h2, rfl, a, r⟩, o⟩ := s.own
  exact ⟨s.dat, ⟨h1 ++ h2, stars_append.2 ⟨h1, h2, rfl, h _ a, r⟩, o⟩, s.below, s.low⟩

theorem St.conseqs {Cs Es : List Assn} (s : St B0 w0 D (Cs ++ As) w) (h : ∀ h, stars Cs D h → stars Es D h) : St B0 w0 D (Es ++ As) w := by
  obtain ⟨hh, r, o⟩ := s.own
  obtain ⟨h1, h2, rfl, r1, r2⟩ := stars_append.1 r
  exact ⟨s.dat, ⟨h1 ++ h2, stars_append.2 ⟨h1, h2, rfl, h _ r1, r2⟩, o⟩, s.below, s.low⟩
end

/-- A block that is owned whole. -/
def own (b : Nat) (o : Obj) : Assn := ⟨fun _ h => h = [(b, o, none)], fun _ h => h⟩

/-- A block of cells that is owned whole. -/
abbrev ownC (b : Nat) (cs : List Value) (T : TypeId) : Assn := own b (.cells cs.toArray T (0, 0))

/-- What holds of the unchanging blocks. -/
def pers (p : Dat → Prop) (hm : ∀ {D D'}, Dat.le D D' → p D → p D') : Assn := ⟨fun D h => h = [] ∧ p D, fun hl h => ⟨h.1, hm hl h.2⟩⟩

/-- A fact that speaks of no memory. -/
def fact (p : Prop) : Assn := pers (fun _ => p) (fun _ h => h)

/-- A block's first cells, which never change again. -/
def datC (b : Nat) (cs : List Value) : Assn := pers (fun D => ∀ j v, cs[j]? = some v → cellD D b j v) (fun hl h j v hv => (h j v hv).mono hl)

/-- There is something of which an assertion holds. -/
def exA {α : Type} (A : α → Assn) : Assn := ⟨fun D h => ∃ x, (A x).holds D h, fun hl ⟨x, h⟩ => ⟨x, (A x).mono hl h⟩⟩

/-- A list of assertions as one. -/
def starA (As : List Assn) : Assn := ⟨fun D h => stars As D h, fun hl h => stars_mono hl h⟩

section
variable {B0 : Nat} {w0 : World} {D : Dat} {As : List Assn} {w : World}

theorem St.ex {α : Type} {A : α → Assn} (s : St B0 w0 D (exA A :: As) w) : ∃ x, St B0 w0 D (A x :: As) w := by
  obtain ⟨h, ⟨h1, h2, rfl, ⟨x, a⟩, r⟩, o⟩ := s.own
  exact ⟨x, s.dat, ⟨h1 ++ h2, ⟨h1, h2, rfl, a, r⟩, o⟩, s.below, s.low⟩

theorem St.exI {α : Type} {A : α → Assn} (x : α) (s : St B0 w0 D (A x :: As) w) : St B0 w0 D (exA A :: As) w := by
  obtain ⟨h, ⟨h1, h2, rfl, a, r⟩, o⟩ := s.own
  exact ⟨s.dat, ⟨h1 ++ h2, ⟨h1, h2, rfl, ⟨x, a⟩, r⟩, o⟩, s.below, s.low⟩

theorem St.star {Cs : List Assn} (s : St B0 w0 D (starA Cs :: As) w) : St B0 w0 D (Cs ++ As) w := s.conseq fun _ h => h

theorem St.starI {Cs : List Assn} (s : St B0 w0 D (Cs ++ As) w) : St B0 w0 D (starA Cs :: As) w := by
  obtain ⟨h, r, o⟩ := s.own
  obtain ⟨h1, h2, rfl, r1, r2⟩ := stars_append.1 r
  exact ⟨s.dat, ⟨h1 ++ h2, ⟨h1, h2, rfl, r1, r2⟩, o⟩, s.below, s.low⟩

theorem St.pers {p : Dat → Prop} {hm} (s : St B0 w0 D (Sl.pers p hm :: As) w) : p D := by
  obtain ⟨h, ⟨h1, h2, rfl, a, r⟩, o⟩ := s.own
  exact a.2

theorem St.fact {p : Prop} (s : St B0 w0 D (Sl.fact p :: As) w) : p := s.pers (hm := fun _ h => h)

theorem St.persI {p : Dat → Prop} {hm} (s : St B0 w0 D As w) (hp : p D) : St B0 w0 D (Sl.pers p hm :: As) w := by
  obtain ⟨h, r, o⟩ := s.own
  exact ⟨s.dat, ⟨h, ⟨[], h, rfl, ⟨rfl, hp⟩, r⟩, o⟩, s.below, s.low⟩

theorem St.factI {p : Prop} (s : St B0 w0 D As w) (hp : p) : St B0 w0 D (Sl.fact p :: As) w := s.persI (hm := fun _ h => h) hp

theorem St.own_at {b : Nat} {ob : Obj} (s : St B0 w0 D (Sl.own b ob :: As) w) : w.heap[b]? = some ob := by
  obtain ⟨h, ⟨h1, h2, rfl, a, r⟩, o⟩ := s.own
  simp only [Sl.own] at a
  subst a
  exact o.at_ (b, ob, none) (by simp)

theorem St.own_base {b : Nat} {ob : Obj} (s : St B0 w0 D (Sl.own b ob :: As) w) : B0 ≤ b := by
  obtain ⟨h, ⟨h1, h2, rfl, a, r⟩, o⟩ := s.own
  simp only [Sl.own] at a
  subst a
  exact o.base (b, ob, none) (by simp)

theorem St.dat_at {b : Nat} {cs : List Value} (s : St B0 w0 D (datC b cs :: As) w) : ∀ j v, cs[j]? = some v → w.cell? ⟨b, j, none⟩ = some v := fun j v hv =>
  s.dat.cell (s.pers (p := fun D => ∀ j v, cs[j]? = some v → cellD D b j v) (hm := fun hl h j v hv => (h j v hv).mono hl) j v hv)

/-- An owned block is written anew. -/
theorem St.put {b : Nat} {ob ob' : Obj} {w' : World} (s : St B0 w0 D (Sl.own b ob :: As) w) (hos : w'.os = w.os) (hta : w'.tape = w.tape) (hou : w'.output = w.output)
    (hsz : w'.heap.size = w.heap.size) (hb : w'.heap[b]? = some ob') (hne : ∀ k, k ≠ b → w'.heap[k]? = w.heap[k]?) : St B0 w0 D (Sl.own b ob' :: As) w' := by
  obtain ⟨h, ⟨h1, h2, rfl, a, r⟩, o⟩ := s.own
  simp only [Sl.own] at a
  subst a
  have hbase := o.base (b, ob, none) (by simp)
  have hfree : D b = none := o.free (b, ob, none) (by simp)
  have hnd : ∀ p ∈ h2, p.1 ≠ b := by
    intro p hp e
    have := o.nodup
    simp only [List.singleton_append, List.map_cons, List.nodup_cons] at this
    exact this.1 (e ▸ List.mem_map_of_mem hp)
  refine ⟨fun k c hk => ?_, ⟨[(b, ob', none)] ++ h2, ⟨[(b, ob', none)], h2, rfl, rfl, r⟩, ⟨?_, ?_, ?_, ?_⟩⟩, ?_, s.low⟩
  · have : k ≠ b := by rintro rfl; rw [hfree] at hk; cases hk
    rw [hne k this]; exact s.dat k c hk
  · simpa using o.nodup
  · intro p hp
    rcases List.mem_cons.1 hp with rfl | hp
    · exact hb
    · rw [hne _ (hnd p hp)]; exact o.at_ p (List.mem_cons_of_mem _ hp)
  · intro p hp
    rcases List.mem_cons.1 hp with rfl | hp
    · exact hfree
    · exact o.free p (List.mem_cons_of_mem _ hp)
  · intro p hp
    rcases List.mem_cons.1 hp with rfl | hp
    · exact hbase
    · exact o.base p (List.mem_cons_of_mem _ hp)
  · exact s.below.trans ⟨hos, hta, hou, by omega, fun k hk => hne k (by intro e; subst e; simp at hbase; omega)⟩

/-- A new block. -/
theorem St.alloc (s : St B0 w0 D As w) (ob : Obj) : St B0 w0 D (Sl.own w.heap.size ob :: As) (w.alloc ob) := by
  obtain ⟨h, r, o⟩ := s.own
  have lt_of : ∀ (k : Nat) (x : Obj), w.heap[k]? = some x → k < w.heap.size := fun k x hx => (Array.getElem?_eq_some_iff.1 hx).1
  have old : ∀ k, k < w.heap.size → (w.alloc ob).heap[k]? = w.heap[k]? := fun k hk => Below.heap_alloc w ob k hk
  refine ⟨fun k c hk => ?_, ⟨[(w.heap.size, ob, none)] ++ h, ⟨[(w.heap.size, ob, none)], h, rfl, rfl, r⟩, ⟨?_, ?_, ?_, ?_⟩⟩, s.below.alloc s.base_le ob, s.low⟩
  · obtain ⟨all, T, fz, hx, hp⟩ := s.dat k c hk
    exact ⟨all, T, fz, by rw [old k (lt_of _ _ hx)]; exact hx, hp⟩
  · simp only [List.singleton_append, List.map_cons, List.nodup_cons]
    refine ⟨fun hm => ?_, o.nodup⟩
    obtain ⟨p, hp, e⟩ := List.mem_map.1 hm
    have := lt_of _ _ (o.at_ p hp)
    omega
  · intro p hp
    rcases List.mem_cons.1 hp with rfl | hp
    · show (w.heap.push ob)[w.heap.size]? = _
      simp
    · rw [old _ (lt_of _ _ (o.at_ p hp))]; exact o.at_ p hp
  · intro p hp
    rcases List.mem_cons.1 hp with rfl | hp
    · show D w.heap.size = none
      cases hd : D w.heap.size with
      | none => rfl
      | some c =>
        obtain ⟨all, T, fz, hx, _⟩ := s.dat _ c hd
        have := lt_of _ _ hx
        omega
    · exact o.free p hp
  · intro p hp
    rcases List.mem_cons.1 hp with rfl | hp
    · exact s.base_le
    · exact o.base p hp

/-- A draw turns nothing. -/
theorem St.drew (s : St B0 w0 D As w) : St B0 w0 D As w.drew := ⟨s.dat, by obtain ⟨h, r, o⟩ := s.own; exact ⟨h, r, ⟨o.nodup, o.at_, o.free, o.base⟩⟩, s.below.drew, s.low⟩

/-- Of an owned block of cells the first ones are given up: they never change again; the rest stays owned. -/
theorem St.fixTail {b : Nat} {cs pre : List Value} {T : TypeId} (s : St B0 w0 D (ownC b cs T :: As) w) (hpre : pre <+: cs) : ∃ D', Dat.le D D' ∧ D' b = some pre ∧ (∀ k, k ≠ b → D' k = D k) ∧ DH D' w ∧
    (∃ h2, stars As D' h2 ∧ Own B0 D' ([(b, Obj.cells cs.toArray T (0, 0), some pre.length)] ++ h2) w) ∧ Below B0 w0 w ∧ B0 ≤ w0.heap.size := by
  obtain ⟨h, ⟨h1, h2, rfl, a, r⟩, o⟩ := s.own
  simp only [ownC, Sl.own] at a
  subst a
  have hfree : D b = none := o.free (b, Obj.cells cs.toArray T (0, 0), none) (by simp)
  have hle : Dat.le D (D.add b pre) := Dat.le_add (fun c0 h0 => by rw [hfree] at h0; cases h0)
  have hat := o.at_ (b, Obj.cells cs.toArray T (0, 0), none) (by simp)
  refine ⟨D.add b pre, hle, by simp [Dat.add], fun k hk => by simp [Dat.add, hk], fun k c hk => ?_, ⟨h2, stars_mono hle r, ?_⟩, s.below, s.low⟩
  · unfold Dat.add at hk
    split at hk
    · rename_i e; subst e; cases hk; exact ⟨_, T, (0, 0), hat, by simpa using hpre⟩
    · exact s.dat k c hk
  · refine ⟨by simpa using o.nodup, fun p hp => ?_, fun p hp => ?_, fun p hp => ?_⟩
    · rcases List.mem_cons.1 hp with rfl | hp
      · exact hat
      · exact o.at_ p (List.mem_cons_of_mem _ hp)
    · rcases List.mem_cons.1 hp with rfl | hp
      · exact ⟨pre, by simp [Dat.add], rfl⟩
      · have hnd := o.nodup
        simp only [List.singleton_append, List.map_cons, List.nodup_cons] at hnd
        have : p.1 ≠ b := fun e => hnd.1 (e ▸ List.mem_map_of_mem hp)
        simp only [Dat.add, this, if_false]
        exact o.free p (List.mem_cons_of_mem _ hp)
    · rcases List.mem_cons.1 hp with rfl | hp
      · exact o.base (b, Obj.cells cs.toArray T (0, 0), none) (by simp)
      · exact o.base p (List.mem_cons_of_mem _ hp)

/-- An owned block of cells is given up: it never changes again. -/
theorem St.fixAll {b : Nat} {cs : List Value} {T : TypeId} (s : St B0 w0 D (ownC b cs T :: As) w) : ∃ D', Dat.le D D' ∧ St B0 w0 D' (datC b cs :: As) w := by
  obtain ⟨D', hle, hD, _, hdh, ⟨h2, r, o⟩, hb, hlow⟩ := s.fixTail (List.prefix_refl cs)
  exact ⟨D', hle, hdh, ⟨h2, ⟨[], h2, rfl, ⟨rfl, fun j v hv => ⟨cs, hD, hv⟩⟩, r⟩, o.sublist (List.sublist_append_right _ h2)⟩, hb, hlow⟩

end
end Go.Sl
