/- What the reckoner's memory says of the world. -/
import Derived.Test.YtffkmfgmdepfcaaGreatDoorRk2
set_option linter.unusedSimpArgs false
set_option linter.unusedVariables false
set_option linter.unusedSectionVars false
namespace Go.Rk
open Go.Sl (cell_of add_mk run_bind run_storeCells)
open Go.RowKit
variable [Sym]

def EsR (p : Pl) : List (AV × AV × Nat) → List MapEntry → Prop
  | [], l => l = []
  | (k, v, b) :: es, l => ∃ e m, l = e :: m ∧ VR p k e.key ∧ VR p v e.val ∧ e.born = b ∧ EsR p es m

theorem EsR.mono {p q : Pl} (h : Pl.le p q) : ∀ {es : List (AV × AV × Nat)} {l : List MapEntry}, EsR p es l → EsR q es l
  | [], _, r => r
  | _ :: _, _, ⟨e, m, r, k1, k2, k3, k4⟩ => ⟨e, m, r, k1.mono h, k2.mono h, k3, k4.mono h⟩

def OR (p : Pl) : AO → Nat → Nat → Nat → World → Prop
  | .cells l, a, b, S, w => ∃ (arr : Array Value) (T : TypeId), w.heap[a]? = some (.cells arr T (0, 0)) ∧ arr.size = b + S ∧ l.length ≤ S ∧ VRs p l ((arr.toList.drop b).take l.length)
  | .map es c, a, _, _, w => ∃ es' : List MapEntry, w.heap[a]? = some (.map (List.toArray es') c) ∧ EsR p es es'
  | .dead, _, _, _, _ => False

theorem OR.mono {p q : Pl} (h : Pl.le p q) {o : AO} {a b S : Nat} {w w' : World} (hw : w'.heap[a]? = w.heap[a]?) (r : OR p o a b S w) : OR q o a b S w' := by
  cases o with
  | cells l => obtain ⟨arr, T, h1, h2, h3, h4⟩ := r; exact ⟨arr, T, hw ▸ h1, h2, h3, h4.mono h⟩
  | map es c => obtain ⟨es', h1, h2⟩ := r; exact ⟨es', hw ▸ h1, h2.mono h⟩
  | dead => exact r
theorem OR.lt {p : Pl} {o : AO} {a b S : Nat} {w : World} (h : OR p o a b S w) : a < w.heap.size := by
  cases o with
  | cells l => obtain ⟨arr, T, h1, _⟩ := h; exact (Array.getElem?_eq_some_iff.1 h1).1
  | map es c => obtain ⟨es', h1, _⟩ := h; exact (Array.getElem?_eq_some_iff.1 h1).1
  | dead => exact h.elim

def Live (s : S) (id : Nat) (o : AO) : Prop := s.m.get id = some o ∧ o ≠ .dead

/-- The reckoner's state s, laid by p, is the world's; blocks of the frame lie as they lay; below B0 all is as in w0. -/
structure Sim (B0 : Nat) (w0 : World) (Fr : Nat → Option Obj) (p : Pl) (s : S) (w : World) : Prop where
  live : ∀ id o, Live s id o → ∃ a b S, p id = some (a, b, S) ∧ OR p o a b S w ∧ B0 ≤ a ∧ Fr a = none
  fresh : ∀ id, s.nx ≤ id → p id = none ∧ s.m.get id = none
  inj : ∀ i j oi oj a b S b' S', Live s i oi → Live s j oj → p i = some (a, b, S) → p j = some (a, b', S') → i = j
  frame : ∀ b o, Fr b = some o → w.heap[b]? = some o
  below : Below B0 w0 w
  low : B0 ≤ w0.heap.size

theorem Live.put {s : S} {id i : Nat} {o o' : AO} (h : Live (s.put id o') i o) : (i = id ∧ o = o') ∨ (i ≠ id ∧ Live s i o) := by
  obtain ⟨h1, h2⟩ := h
  by_cases e : i = id
  · subst e
    simp only [Rk.S.put, Tr.put_same, Option.some.injEq] at h1
    exact .inl ⟨rfl, h1.symm⟩
  · simp only [Rk.S.put, Tr.put_ne _ _ _ _ e] at h1
    exact .inr ⟨e, h1, h2⟩
theorem Live.push {s : S} {i : Nat} {o o' : AO} (h : Live (s.push o') i o) : (i = s.nx ∧ o = o') ∨ (i ≠ s.nx ∧ Live s i o) := Live.put (s := s) h

def Pl.add (p : Pl) (i : Nat) (x : Nat × Nat × Nat) : Pl := fun k => if k = i then some x else p k
theorem Pl.add_same (p : Pl) (i : Nat) (x : Nat × Nat × Nat) : p.add i x i = some x := by simp [Pl.add]
theorem Pl.add_ne (p : Pl) {i k : Nat} (x : Nat × Nat × Nat) (h : k ≠ i) : p.add i x k = p k := by simp [Pl.add, h]
theorem Pl.le_add {p : Pl} {i : Nat} (h : p i = none) (x : Nat × Nat × Nat) : Pl.le p (p.add i x) := fun k y e => by
  have : k ≠ i := fun e' => by subst e'; rw [h] at e; cases e
  rw [Pl.add_ne _ _ this]; exact e

section
variable {B0 : Nat} {w0 : World} {Fr : Nat → Option Obj} {p : Pl} {s s' : S} {w : World}

theorem Sim.base_le (h : Sim B0 w0 Fr p s w) : B0 ≤ w.heap.size := Nat.le_trans h.low h.below.size

theorem Sim.lt_nx (h : Sim B0 w0 Fr p s w) {id : Nat} {x : Nat × Nat × Nat} (hp : p id = some x) : id < s.nx := by
  rcases Nat.lt_or_ge id s.nx with h' | h'
  · exact h'
  · rw [(h.fresh id h').1] at hp; cases hp

/-- One live block is written anew. -/
theorem Sim.put (h : Sim B0 w0 Fr p s w) {id : Nat} {o o' : AO} {a b S : Nat} {w' : World} (hg : Live s id o) (hp : p id = some (a, b, S))
    (hos : w'.os = w.os) (hta : w'.tape = w.tape) (hou : w'.output = w.output) (hsz : w'.heap.size = w.heap.size) (hne : ∀ k, k ≠ a → w'.heap[k]? = w.heap[k]?) (ho : OR p o' a b S w') :
    Sim B0 w0 Fr p (s.put id o') w' := by
  obtain ⟨a1, b1, S1, hp1, hor, hB, hF⟩ := h.live id o hg
  rw [hp] at hp1; cases hp1
  have hlt := h.lt_nx hp
  refine ⟨fun i oi hi => ?_, fun i hi => ⟨(h.fresh i hi).1, ?_⟩, ?_, fun b' ob hb => ?_, ?_, h.low⟩
  · rcases hi.put with ⟨rfl, rfl⟩ | ⟨e, hi⟩
    · exact ⟨a, b, S, hp, ho, hB, hF⟩
    · obtain ⟨a2, b2, S2, hp2, hor2, hB2, hF2⟩ := h.live i oi hi
      have hne2 : a2 ≠ a := fun e' => by subst e'; exact e (h.inj i id oi o _ _ _ _ _ hi hg hp2 hp)
      exact ⟨a2, b2, S2, hp2, hor2.mono (Pl.le_refl p) (hne _ hne2), hB2, hF2⟩
  · have : i ≠ id := by have : s.nx ≤ i := hi; omega
    simp only [Rk.S.put, Tr.put_ne _ _ _ _ this]
    exact (h.fresh i hi).2
  · intro i j oi oj a2 b2 S2 b3 S3 hi hj hpi hpj
    rcases hi.put with ⟨e1, _⟩ | ⟨_, hi'⟩ <;> rcases hj.put with ⟨e2, _⟩ | ⟨_, hj'⟩
    · rw [e1, e2]
    · subst e1; exact h.inj _ _ _ _ _ _ _ _ _ hg hj' hpi hpj
    · subst e2; exact h.inj _ _ _ _ _ _ _ _ _ hi' hg hpi hpj
    · exact h.inj _ _ _ _ _ _ _ _ _ hi' hj' hpi hpj
  · rw [hne b' (fun e => by subst e; rw [hF] at hb; cases hb)]
    exact h.frame b' ob hb
  · exact h.below.trans ⟨hos, hta, hou, by omega, fun k hk => hne k (by omega)⟩

/-- A block is no more spoken of. -/
theorem Sim.kill (h : Sim B0 w0 Fr p s w) {id : Nat} (hlt : id < s.nx) : Sim B0 w0 Fr p (s.put id .dead) w := by
  have key : ∀ i o, Live (s.put id .dead) i o → i ≠ id ∧ Live s i o := fun i o hi => by
    rcases hi.put with ⟨rfl, rfl⟩ | hi
    · exact absurd rfl hi.2
    · exact hi
  refine ⟨fun i oi hi => h.live i oi (key _ _ hi).2, fun i hi => ⟨(h.fresh i hi).1, ?_⟩, fun i j oi oj a b S b' S' hi hj => h.inj _ _ _ _ _ _ _ _ _ (key _ _ hi).2 (key _ _ hj).2, h.frame, h.below, h.low⟩
  have : i ≠ id := by have : s.nx ≤ i := hi; omega
  simp only [Rk.S.put, Tr.put_ne _ _ _ _ this]
  exact (h.fresh i hi).2

/-- A block of the world is spoken of anew. -/
theorem Sim.adopt (h : Sim B0 w0 Fr p s w) {o : AO} {a b S : Nat} (ho : OR p o a b S w) (hB : B0 ≤ a) (hF : Fr a = none) (hno : ∀ j oj b' S', Live s j oj → p j = some (a, b', S') → False) :
    Sim B0 w0 Fr (p.add s.nx (a, b, S)) (s.push o) w := by
  have hle : Pl.le p (p.add s.nx (a, b, S)) := Pl.le_add (h.fresh _ (Nat.le_refl _)).1 _
  have old : ∀ {i oi x}, Live s i oi → (p.add s.nx (a, b, S)) i = some x → p i = some x := fun {i oi x} hi hx => by
    obtain ⟨a1, b1, S1, hp1, _⟩ := h.live i oi hi
    have := h.lt_nx hp1
    rwa [Pl.add_ne _ _ (by omega)] at hx
  refine ⟨fun i oi hi => ?_, fun i hi => ?_, ?_, h.frame, h.below, h.low⟩
  · rcases hi.push with ⟨rfl, rfl⟩ | ⟨e, hi⟩
    · exact ⟨a, b, S, Pl.add_same _ _ _, ho.mono hle rfl, hB, hF⟩
    · obtain ⟨a2, b2, S2, hp2, hor2, hB2, hF2⟩ := h.live i oi hi
      exact ⟨a2, b2, S2, hle _ _ hp2, hor2.mono hle rfl, hB2, hF2⟩
  · have hi' : s.nx < i := hi
    exact ⟨by rw [Pl.add_ne _ _ (by omega)]; exact (h.fresh i (by omega)).1, by simp only [Rk.S.push, Tr.put_ne _ _ _ _ (show i ≠ s.nx by omega)]; exact (h.fresh i (by omega)).2⟩
  · intro i j oi oj a2 b2 S2 b3 S3 hi hj hpi hpj
    rcases hi.push with ⟨e1, _⟩ | ⟨_, hi'⟩ <;> rcases hj.push with ⟨e2, _⟩ | ⟨_, hj'⟩
    · rw [e1, e2]
    · subst e1; rw [Pl.add_same] at hpi; cases hpi
      exact (hno _ _ _ _ hj' (old hj' hpj)).elim
    · subst e2; rw [Pl.add_same] at hpj; cases hpj
      exact (hno _ _ _ _ hi' (old hi' hpi)).elim
    · exact h.inj _ _ _ _ _ _ _ _ _ hi' hj' (old hi' hpi) (old hj' hpj)

/-- The world has a new block that the reckoner does not speak of. -/
theorem Sim.alloc (h : Sim B0 w0 Fr p s w) (ob : Obj) : Sim B0 w0 Fr p s (w.alloc ob) := by
  refine ⟨fun i oi hi => ?_, h.fresh, h.inj, fun b o hb => ?_, h.below.alloc h.base_le ob, h.low⟩
  · obtain ⟨a, b, S, hp, hor, hB, hF⟩ := h.live i oi hi
    exact ⟨a, b, S, hp, hor.mono (Pl.le_refl p) (Below.heap_alloc w ob a hor.lt), hB, hF⟩
  · have h1 := h.frame b o hb
    rw [Below.heap_alloc w ob b (Array.getElem?_eq_some_iff.1 h1).1]
    exact h1
theorem Sim.no_size (h : Sim B0 w0 Fr p s w) {j : Nat} {oj : AO} {b S : Nat} (hj : Live s j oj) (hp : p j = some (w.heap.size, b, S)) : False := by
  obtain ⟨a, b', S', hp', hor, _⟩ := h.live j oj hj
  rw [hp] at hp'; cases hp'
  exact absurd hor.lt (Nat.lt_irrefl _)
theorem Sim.Fr_size (h : Sim B0 w0 Fr p s w) : Fr w.heap.size = none := by
  cases hf : Fr w.heap.size with
  | none => rfl
  | some o =>
    have := h.frame _ _ hf
    exact absurd (Array.getElem?_eq_some_iff.1 this).1 (Nat.lt_irrefl _)

/-- A new block of both. -/
theorem Sim.push (h : Sim B0 w0 Fr p s w) {o : AO} {ob : Obj} {S : Nat} (ho : OR p o w.heap.size 0 S (w.alloc ob)) :
    Sim B0 w0 Fr (p.add s.nx (w.heap.size, 0, S)) (s.push o) (w.alloc ob) :=
  (h.alloc ob).adopt ho h.base_le h.Fr_size fun j oj b' S' hj hp => h.no_size hj hp

theorem alloc_at (w : World) (ob : Obj) : (w.alloc ob).heap[w.heap.size]? = some ob := by
  show (w.heap.push ob)[w.heap.size]? = _
  simp
theorem OR.cells_new {l : List AV} {vs : List Value} {T : TypeId} (hv : VRs p l vs) (w : World) (more : List Value) : OR p (.cells l) w.heap.size 0 (vs ++ more).length (w.alloc (.cells (vs ++ more).toArray T (0, 0))) := by
  refine ⟨_, T, alloc_at _ _, by simp, by simp [hv.length], ?_⟩
  rw [← hv.length]
  simpa using hv

theorem Sim.drew (h : Sim B0 w0 Fr p s w) : Sim B0 w0 Fr p s w.drew := ⟨fun id o hi => let ⟨a, b, S, hp, hor, r⟩ := h.live id o hi; ⟨a, b, S, hp, OR.mono (w := w) (w' := w.drew) (Pl.le_refl p) (by rfl) hor, r⟩, h.fresh, h.inj, h.frame, h.below.drew, h.low⟩

/-- Cells are read. -/
theorem Sim.cells (h : Sim B0 w0 Fr p s w) {id : Nat} {l : List AV} (hg : s.m.get id = some (.cells l)) : ∃ a b S, p id = some (a, b, S) ∧ B0 ≤ a ∧ Fr a = none ∧
    ∃ (arr : Array Value) (T : TypeId), w.heap[a]? = some (.cells arr T (0, 0)) ∧ arr.size = b + S ∧ l.length ≤ S ∧ VRs p l ((arr.toList.drop b).take l.length) := by
  obtain ⟨a, b, S, hp, hor, hB, hF⟩ := h.live id _ ⟨hg, by intro e; cases e⟩
  exact ⟨a, b, S, hp, hB, hF, hor⟩

theorem Sim.read (h : Sim B0 w0 Fr p s w) {id off n : Nat} {us : List AV} (hr : s.read id off n = some us) : ∃ a b S vs, p id = some (a, b, S) ∧ off + n ≤ S ∧ VRs p us vs ∧ vs.length = n ∧
    ∀ j v, vs[j]? = some v → w.cell? ⟨a, b + off + j, none⟩ = some v := by
  unfold S.read at hr
  split at hr
  · rename_i l hg
    obtain ⟨a, b, S, hp, hB, hF, arr, T, h1, h2, h3, h4⟩ := h.cells hg
    have h5 := h4.slcX hr
    have hlen : arr.toList.length = b + S := by simpa using h2
    refine ⟨a, b, S, _, hp, by omega, h5.1, by simp; omega, fun j v hv => ?_⟩
    rw [show arr = arr.toList.toArray from by simp] at h1
    rw [cell_of h1]
    rw [List.getElem?_take] at hv
    split at hv
    · rw [List.getElem?_drop, List.getElem?_take] at hv
      split at hv
      · rw [List.getElem?_drop] at hv; rw [← hv]; congr 1; omega
      · cases hv
    · cases hv
  · cases hr

theorem Sim.read1 (h : Sim B0 w0 Fr p s w) {id off : Nat} {u : AV} (hr : s.read1 id off = some u) : ∃ a b S v, p id = some (a, b, S) ∧ VR p u v ∧ w.cell? ⟨a, b + off, none⟩ = some v := by
  unfold S.read1 at hr
  split at hr
  · rename_i l hg
    obtain ⟨a, b, S, hp, hB, hF, arr, T, h1, h2, h3, h4⟩ := h.cells hg
    rw [nth_eq] at hr
    obtain ⟨v, hv, k⟩ := h4.get hr
    refine ⟨a, b, S, v, hp, k, ?_⟩
    rw [show arr = arr.toList.toArray from by simp] at h1
    rw [cell_of h1]
    rw [List.getElem?_take] at hv
    split at hv
    · rw [List.getElem?_drop] at hv; exact hv
    · cases hv
  · cases hr

/-- Cells are written. -/
theorem Sim.write (P : Program) (h : Sim B0 w0 Fr p s w) {id off : Nat} {us : List AV} {ws : List Value} (hu : VRs p us ws) (hr : s.write id off us = some s') : ∃ a b S, p id = some (a, b, S) ∧ off + us.length ≤ S ∧
    ∃ w', (storeCells ⟨a, b + off, none⟩ ws 0).run P w = .ok () w' ∧ Sim B0 w0 Fr p s' w' := by
  unfold S.write at hr
  split at hr
  · rename_i l hg
    obtain ⟨ho, hr⟩ := bb_some hr
    obtain ⟨l', e1, e2⟩ := ob_some hr
    simp only [Option.some.injEq] at e2
    subst e2
    obtain ⟨a, b, S, hp, hB, hF, arr, T, h1, h2, h3, h4⟩ := h.cells hg
    have hput := hu.putX h4 e1
    have hul := hu.length
    have hlen : arr.toList.length = b + S := by simpa using h2
    refine ⟨a, b, S, hp, by omega, ?_⟩
    have h1' : w.heap[a]? = some (.cells arr.toList.toArray T (0, 0)) := by simpa using h1
    obtain ⟨w', hw, e1', e2', e3', e4', e5', e6'⟩ := run_storeCells (P := P) ws 0 w a (b + off) arr.toList T (hu.ones ho) h1' (by omega)
    refine ⟨w', hw, ?_⟩
    have hl' : l'.length = l.length := by have := hput.1.length; simp at this; omega
    refine h.put ⟨hg, by intro e; cases e⟩ hp e1' e2' e3' e4' e6' ⟨_, T, e5', by simp; omega, by omega, ?_⟩
    have : VRs p l' (((arr.toList.take (b + off + 0) ++ ws ++ arr.toList.drop (b + off + 0 + ws.length)).drop b).take l'.length) := by
      have hx := hput.1
      refine cast (congrArg _ ?_) hx
      generalize arr.toList = L at *
      rw [hl']
      apply List.ext_getElem?
      intro k
      simp only [List.getElem?_take, List.getElem?_drop, List.getElem?_append, List.length_take, List.length_drop, List.length_append, Nat.add_zero]
      rcases Nat.lt_trichotomy k off with hk | hk | hk
      · simp [show k < l.length from by omega, show k < min off (min l.length (L.length - b)) from by omega, show b + k < min (b + off) L.length from by omega, hk, show b + k < b + off from by omega, show k < min off (min l.length (L.length - b)) + ws.length from by omega, show b + k < min (b + off) L.length + ws.length from by omega]
      all_goals
        by_cases hk2 : k < off + ws.length
        · simp [show k < l.length from by omega, show ¬ k < min off (min l.length (L.length - b)) from by omega, show ¬ b + k < min (b + off) L.length from by omega, show k < min off (min l.length (L.length - b)) + ws.length from by omega, show b + k < min (b + off) L.length + ws.length from by omega,
            show b + k - min (b + off) L.length = k - min off (min l.length (L.length - b)) from by omega]
        · by_cases hk3 : k < l.length
          · simp [hk3, show ¬ k < min off (min l.length (L.length - b)) + ws.length from by omega, show ¬ b + k < min (b + off) L.length + ws.length from by omega, show off + ws.length + (k - (min off (min l.length (L.length - b)) + ws.length)) = k from by omega,
              show b + off + ws.length + (b + k - (min (b + off) L.length + ws.length)) = b + k from by omega]
          · simp [hk3, show ¬ k < min off (min l.length (L.length - b)) + ws.length from by omega, show off + ws.length + (k - (min off (min l.length (L.length - b)) + ws.length)) = k from by omega]
    simpa using this
  · cases hr
end
end Go.Rk
