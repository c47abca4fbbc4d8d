/- Slices that grow: their elements never change again, the room behind them is owned. -/
import Derived.Test.YtffkmfgmdepfcaaGreatDoorSl6
set_option linter.unusedSimpArgs false
set_option linter.unusedVariables false
namespace Go.Sl
open Go.RowKit

/-- a slice that reads as a list, its elements never to change again, with the right to append to it -/
def gS {α : Type} [Rp α] (T : TypeId) (p : Option Addr) (n c : Nat) (xs : List α) : Assn :=
  ⟨fun D h => dSp p n c xs D ∧ ((h = [] ∧ p = none ∧ n = 0 ∧ c = 0) ∨ ∃ b o all, p = some ⟨b, o, none⟩ ∧ h = [(b, .cells all T (0, 0), some (o + n * Rp.sz α))] ∧ all.size = o + c * Rp.sz α),
   fun hl ⟨h1, h2⟩ => ⟨by
    obtain ⟨a1, a2, a3⟩ := h1
    exact ⟨a1, a2, fun hne => by
      obtain ⟨b, o, hp, hx⟩ := a3 hne
      exact ⟨b, o, hp, fun i x hi => by
        obtain ⟨g, hc, hf⟩ := hx i x hi
        exact ⟨g, fun j v hv => (hc j v hv).mono hl, allF_mono hl hf⟩⟩⟩, h2⟩⟩

theorem gS_nil {α : Type} [Rp α] {T : TypeId} {As : List Assn} : Ent As (gS T none 0 0 ([] : List α) :: As) := fun B0 w0 D w R st => by
  refine ⟨D, Dat.le_refl D, st.dat, ?_, st.below, st.low⟩
  obtain ⟨h, r, o⟩ := st.own
  exact ⟨h, ⟨[], h, rfl, ⟨⟨rfl, Nat.le_refl _, fun e => absurd rfl e⟩, .inl ⟨rfl, rfl, rfl, rfl⟩⟩, r⟩, o⟩

/-- what is read of it stays so -/
theorem gS_dS {α : Type} [Rp α] {T : TypeId} {p : Option Addr} {n c : Nat} {xs : List α} {As : List Assn} : Ent (gS T p n c xs :: As) (dS p n c xs :: gS T p n c xs :: As) := fun B0 w0 D w R st => by
  refine ⟨D, Dat.le_refl D, St.persI (hm := _) st ?_⟩
  obtain ⟨h, ⟨h1, h2, rfl, a, r⟩, o⟩ := st.own
  exact a.1

def newsOk {α : Type} [Rp α] (ys : List α) (news : List Value) (D : Dat) : Prop :=
  news.length = ys.length * Rp.sz α ∧ ∀ i y, ys[i]? = some y → ∃ g, (∀ j v, (Rp.cells y g)[j]? = some v → news[i * Rp.sz α + j]? = some v) ∧ allF (Rp.facts y g) D

section
variable {α : Type} [Rp α] {P : Program} {B0 : Nat} {w0 : World} {D : Dat} {R : List Assn} {w : World} {T : TypeId} {p : Option Addr} {n c m : Nat} {xs ys : List α}

theorem dSp_append {D D' : Dat} {b o : Nat} {p : Option Addr} {c' : Nat} {news : List Value} (h : ∀ i x, xs[i]? = some x → ∃ g, (∀ j v, (Rp.cells x g)[j]? = some v → cellD D' b (o + i * Rp.sz α + j) v) ∧ allF (Rp.facts x g) D')
    (hp : p = some ⟨b, o, none⟩) (hl : Dat.le D D') (hn : newsOk ys news D) (hnew : ∀ k v, news[k]? = some v → cellD D' b (o + xs.length * Rp.sz α + k) v) (hc : xs.length + ys.length ≤ c') :
    dSp p (xs.length + ys.length) c' (xs ++ ys) D' := by
  refine ⟨by simp, hc, fun _ => ⟨b, o, hp, fun i x hi => ?_⟩⟩
  by_cases hlt : i < xs.length
  · rw [List.getElem?_append_left hlt] at hi
    exact h i x hi
  · rw [List.getElem?_append_right (by omega)] at hi
    obtain ⟨g, h1, h2⟩ := hn.2 _ _ hi
    refine ⟨g, fun j v hv => ?_, allF_mono hl h2⟩
    have := hnew _ _ (h1 j v hv)
    have e : o + xs.length * Rp.sz α + ((i - xs.length) * Rp.sz α + j) = o + i * Rp.sz α + j := by
      have : i * Rp.sz α = xs.length * Rp.sz α + (i - xs.length) * Rp.sz α := by rw [← Nat.add_mul]; congr 1; omega
      omega
    rw [e] at this; exact this

/-- The room behind a slice's elements is written. -/
theorem St.extend {b k : Nat} {all : Array Value} (s : DH D w) {h2 : Heap} (ow : Own B0 D ((b, Obj.cells all T (0, 0), some k) :: h2) w) {pre news : List Value} {w' : World} (hpre : D b = some pre) (hk : pre.length = k)
    (hos : w'.os = w.os) (hta : w'.tape = w.tape) (hou : w'.output = w.output) (hsz : w'.heap.size = w.heap.size) {all' : Array Value}
    (hb : w'.heap[b]? = some (.cells all' T (0, 0))) (hp : pre ++ news <+: all'.toList) (hne : ∀ k, k ≠ b → w'.heap[k]? = w.heap[k]?) (hbel : Below B0 w0 w) (hr : stars R D h2) :
    Dat.le D (D.add b (pre ++ news)) ∧ DH (D.add b (pre ++ news)) w' ∧ stars R (D.add b (pre ++ news)) h2 ∧ Own B0 (D.add b (pre ++ news)) ((b, Obj.cells all' T (0, 0), some (k + news.length)) :: h2) w' ∧ Below B0 w0 w' := by
  have hle : Dat.le D (D.add b (pre ++ news)) := Dat.le_add (fun c0 h0 => by rw [hpre] at h0; cases h0; exact List.prefix_append _ _)
  have hnd : ∀ q ∈ h2, q.1 ≠ b := by
    intro q hq e
    have := ow.nodup
    simp only [List.map_cons, List.nodup_cons] at this
    exact this.1 (e ▸ List.mem_map_of_mem hq)
  have hbase := ow.base (b, Obj.cells all T (0, 0), some k) (by simp)
  refine ⟨hle, fun j cc hj => ?_, stars_mono hle hr, ⟨?_, fun q hq => ?_, fun q hq => ?_, fun q hq => ?_⟩, ?_⟩
  · unfold Dat.add at hj
    split at hj
    · rename_i e; subst e; cases hj; exact ⟨all', T, (0, 0), hb, hp⟩
    · rename_i e
      obtain ⟨al, T1, fz, h1, h2⟩ := s j cc hj
      exact ⟨al, T1, fz, by rw [hne j e]; exact h1, h2⟩
  · simpa using ow.nodup
  · rcases List.mem_cons.1 hq with rfl | hq
    · exact hb
    · rw [hne _ (hnd q hq)]; exact ow.at_ q (List.mem_cons_of_mem _ hq)
  · rcases List.mem_cons.1 hq with rfl | hq
    · exact ⟨pre ++ news, by simp [Dat.add], by simp [hk]⟩
    · simp only [Dat.add, hnd q hq, if_false]
      exact ow.free q (List.mem_cons_of_mem _ hq)
  · rcases List.mem_cons.1 hq with rfl | hq
    · exact hbase
    · exact ow.base q (List.mem_cons_of_mem _ hq)
  · exact hbel.trans ⟨hos, hta, hou, by omega, fun k hk => hne k (by intro e; subst e; simp at hbase; omega)⟩

/-- A new block, of which the first cells never change again and the rest is owned. -/
theorem St.newTail (st : St B0 w0 D R w) (cells pre : List Value) (hp : pre <+: cells) : ∃ D' h2, Dat.le D D' ∧ D' w.heap.size = some pre ∧ DH D' (w.alloc (.cells cells.toArray T)) ∧ stars R D' h2 ∧
    Own B0 D' ((w.heap.size, Obj.cells cells.toArray T (0, 0), some pre.length) :: h2) (w.alloc (.cells cells.toArray T)) ∧ Below B0 w0 (w.alloc (.cells cells.toArray T)) := by
  have st1 := st.alloc (.cells cells.toArray T)
  obtain ⟨D', hle, hD, _, hdh, ⟨h2, r, o⟩, hb, _⟩ := St.fixTail (b := w.heap.size) (cs := cells) (T := T) st1 hp
  exact ⟨D', h2, hle, hD, hdh, r, o, hb⟩

theorem run_choose (q : Question) (hq : q.forced = false) : (choose q).run P w = .ok (q.cut (w.tape w.drawn q)) w.drew := by
  simp only [choose, Sem.run, hq, Bool.false_eq_true, if_false]
  rfl
theorem run_newObj (o : Obj) : (newObj o).run P w = .ok w.heap.size (w.alloc o) := rfl
theorem run_mark (k : Mark) : (mark k).run P w = .ok () w := rfl
theorem run_askRoom (n : Nat) : (askRoom n).run P w = .ok () w := by
  unfold askRoom; split <;> rfl

theorem growBy_le (a : Nat) (ha : 256 < a) : ∀ (r c : Nat), 256 ≤ c → c ≤ 2 * a → Builtin.growBy a r c ≤ 2 * a
  | 0, c, _, h => h
  | r + 1, c, h1, h2 => by
    unfold Builtin.growBy
    split
    · exact h2
    · exact growBy_le a ha r _ (by omega) (by omega)
theorem nextslicecap_le (a b : Nat) (h : b < a) : Builtin.nextslicecap a b ≤ 2 * a := by
  unfold Builtin.nextslicecap
  split
  · omega
  · split
    · omega
    · exact growBy_le a (by omega) 4 b (by omega) (by omega)

structure ElemT (P : Program) (t e sz bytes : Nat) (z : Value) : Prop where
  und : P.underlying t = some (.slice e)
  size : (P.info? e).map (·.size) = some sz
  byt : (P.info? e).map (·.bytes) = some bytes
  zer : (P.info? e).bind (·.zero) = some z
  zs : z.cells.size = sz

theorem run_typeInfo_bytes {e bytes : Nat} (h : (P.info? e).map (·.bytes) = some bytes) : ∃ i, (typeInfo e).run P w = .ok i w ∧ i.bytes = bytes := by
  cases hi : P.info? e with
  | none => simp [hi] at h
  | some i =>
    simp [hi] at h
    exact ⟨i, by simp [typeInfo, program, Bind.bind, Sem.bind, Pure.pure, Sem.run, hi], h⟩

theorem zeroCells_size (z : Array Value) (k : Nat) : (Builtin.zeroCells z k).size = k * z.size := by
  simp [Builtin.zeroCells]

/-- **append of a slice whose cells are known** -/
theorem run_append {t e bytes : Nat} {z : Value} (he : ElemT P t e (Rp.sz α) bytes z) (hsz : 0 < Rp.sz α) (hby : 0 < bytes) (st : St B0 w0 D (gS e p n c xs :: R) w) {ax : Option Addr} {cx : Nat} {news : List Value}
    (hm : m = ys.length) (hx : ∀ j v, news[j]? = some v → ∃ a, ax = some a ∧ w.cell? (a.add j) = some v) (h1 : ∀ v ∈ news, one v = true) (hn : newsOk ys news D) (hb : (n + m) * bytes ≤ 140737488355328) (ty : TypeId) (ats : Array TypeId) (h0 : ats[0]? = some t) (h1t : ats[1]? = some t) :
    ∃ p' c' w' D', (Builtin.append_ ats ty #[.slice p n c, .slice ax m cx]).run P w = .ok (.slice p' (n + m) c') w' ∧ Dat.le D D' ∧ St B0 w0 D' (gS e p' (n + m) c' (xs ++ ys) :: R) w' := by
  obtain ⟨h, ⟨g1, h2, rfl, ⟨⟨hnx, hnc, hread⟩, hown⟩, r⟩, o⟩ := st.own
  subst hm
  have hnl := hn.1
  have hload : (Builtin.firstCells (Rp.sz α) ys.length (.slice ax ys.length cx)).run P w = .ok news.toArray w := by
    unfold Builtin.firstCells
    cases hne : news with
    | nil =>
      subst hne
      have hy0 : ys.length * Rp.sz α = 0 := by simpa using hnl.symm
      cases ax with
      | none => rfl
      | some a => simp only [hy0]; rfl
    | cons v0 vs0 =>
      obtain ⟨a, ha, _⟩ := hx 0 v0 (by simp [hne])
      subst ha
      rw [← hnl, ← hne]
      refine run_loadCells news fun j v hj => ?_
      obtain ⟨a', ha', hc'⟩ := hx j v hj
      cases ha'
      exact hc'
  have hint : (underlying t).run P w = .ok (.slice e) w := run_underlying' he.und w
  unfold Builtin.append_
  simp only [h0, h1t, List.getElem?_toArray, List.getElem?_cons_zero, List.getElem?_cons_succ, Bind.bind, run_bind, hint, run_sizeOf he.size, Pure.pure, Sem.run, Bool.false_eq_true, if_false, Builtin.lenOf]
  by_cases hroom : n + ys.length ≤ c
  · -- there is room
    simp only [hroom, if_true, Bool.not_false, run_bind, hload]
    rcases hown with ⟨rfl, rfl, rfl, rfl⟩ | ⟨b, oo, all, rfl, rfl, hall⟩
    · have hy : ys = [] := List.length_eq_zero_iff.1 (by omega)
      subst hy
      have hx0 : xs = [] := List.length_eq_zero_iff.1 hnx.symm
      subst hx0
      exact ⟨none, 0, w, D, rfl, Dat.le_refl D, by simpa using st⟩
    · obtain ⟨pre, hpre, hplen⟩ : ∃ pre, D b = some pre ∧ pre.length = oo + n * Rp.sz α := o.free (b, Obj.cells all e (0, 0), some (oo + n * Rp.sz α)) (by simp)
      have hat : w.heap[b]? = some (.cells all e (0, 0)) := o.at_ (b, Obj.cells all e (0, 0), some (oo + n * Rp.sz α)) (by simp)
      have hat' : w.heap[b]? = some (.cells all.toList.toArray e (0, 0)) := by simpa using hat
      have hpa : pre <+: all.toList := by
        obtain ⟨al, T1, fz, ha, hp⟩ := st.dat b pre hpre
        rw [hat] at ha
        simp only [Option.some.injEq, Obj.cells.injEq] at ha
        rw [ha.1]; exact hp
      have hmul : (n + ys.length) * Rp.sz α ≤ c * Rp.sz α := Nat.mul_le_mul_right _ hroom
      rw [Nat.add_mul] at hmul
      obtain ⟨w', hr, e1, e2, e3, e4, e5, e6⟩ := run_storeCells (P := P) news 0 w b (oo + n * Rp.sz α) all.toList e h1 hat' (by simp only [Array.length_toList, hall]; omega)
      have htake : all.toList.take (oo + n * Rp.sz α) = pre := by rw [← hplen]; exact (List.prefix_iff_eq_take.1 hpa).symm
      simp only [Nat.add_zero, htake] at e5
      obtain ⟨hle, hdh, hst, how, hbel⟩ := St.extend (R := R) (news := news) st.dat o hpre hplen e1 e2 e3 e4 e5 ⟨all.toList.drop (oo + n * Rp.sz α + news.length), by simp⟩ e6 st.below r
      simp only [add_mk, List.toList_toArray, run_bind, hr]
      refine ⟨some ⟨b, oo, none⟩, c, w', D.add b (pre ++ news), rfl, hle, hdh, ⟨_, ⟨[_], h2, rfl, ⟨?_, .inr ⟨b, oo, (pre ++ news ++ all.toList.drop (oo + n * Rp.sz α + news.length)).toArray, rfl, ?_, ?_⟩⟩, hst⟩, how⟩, hbel, st.low⟩
      · rw [hnx]
        refine dSp_append (D := D) (b := b) (o := oo) (news := news) (fun i x hi => ?_) rfl hle hn (fun k v hv => ⟨pre ++ news, by simp [Dat.add], ?_⟩) (by omega)
        · obtain ⟨b', o', hp', hx'⟩ := hread (by intro e'; subst e'; simp at hi)
          cases hp'
          obtain ⟨g, hc', hf⟩ := hx' i x hi
          exact ⟨g, fun j v hv => (hc' j v hv).mono hle, allF_mono hle hf⟩
        · rw [← hnx, ← hplen, List.getElem?_append_right (by omega)]
          simpa using hv
      · simp [hnl, Nat.add_mul, Nat.add_assoc]
      · have hpl : pre.length = oo + n * Rp.sz α := hplen
        simp only [List.size_toArray, List.length_append, List.length_drop, Array.length_toList, hall, hnl, hpl]
        omega
  · simp only [hroom, if_false]
    have hneed : c < n + ys.length := by omega
    obtain ⟨i0, hi0, hib⟩ := run_typeInfo_bytes (w := w) he.byt
    have hcap : ¬ (Builtin.nextslicecap (n + ys.length) c * i0.bytes > 2 ^ 48) := by
      have h1 := nextslicecap_le (n + ys.length) c hneed
      have h2 : Builtin.nextslicecap (n + ys.length) c * i0.bytes ≤ (2 * (n + ys.length)) * i0.bytes := Nat.mul_le_mul_right _ h1
      rw [hib] at h2 ⊢
      have h3 : (2 * (n + ys.length)) * bytes = 2 * ((n + ys.length) * bytes) := by rw [Nat.mul_assoc]
      omega
    have hib0 : ¬ (i0.bytes = 0) := by omega
    have hq : (Question.appendCap (n + ys.length) c e).forced = false := rfl
    have hnews' : ∀ j v, news[j]? = some v → ∃ a, ax = some a ∧ w.drew.cell? (a.add j) = some v := hx
    have hload' : (Builtin.firstCells (Rp.sz α) ys.length (.slice ax ys.length cx)).run P w.drew = .ok news.toArray w.drew := by
      unfold Builtin.firstCells
      cases hne : news with
      | nil =>
        subst hne
        have hy0 : ys.length * Rp.sz α = 0 := by simpa using hnl.symm
        cases ax with
        | none => rfl
        | some a => simp only [hy0]; rfl
      | cons v0 vs0 =>
        obtain ⟨a, ha, _⟩ := hnews' 0 v0 (by simp [hne])
        subst ha
        rw [← hnl, ← hne]
        refine run_loadCells news fun j v hj => ?_
        obtain ⟨a', ha', hc'⟩ := hnews' j v hj
        cases ha'
        exact hc'
    obtain ⟨old, hold, hol, hoc⟩ : ∃ old : List Value, (Builtin.firstCells (Rp.sz α) n (.slice p n c)).run P w.drew = .ok old.toArray w.drew ∧ old.length = n * Rp.sz α ∧
        ∀ i x, xs[i]? = some x → ∃ g, (∀ j v, (Rp.cells x g)[j]? = some v → old[i * Rp.sz α + j]? = some v) ∧ allF (Rp.facts x g) D := by
      rcases hown with ⟨rfl, rfl, rfl, rfl⟩ | ⟨b, oo, all, rfl, rfl, hall⟩
      · have hx0 : xs = [] := List.length_eq_zero_iff.1 hnx.symm
        subst hx0
        exact ⟨[], rfl, by simp, fun i x hi => by simp at hi⟩
      · obtain ⟨pre, hpre, hplen⟩ : ∃ pre, D b = some pre ∧ pre.length = oo + n * Rp.sz α := o.free (b, Obj.cells all e (0, 0), some (oo + n * Rp.sz α)) (by simp)
        have hdl : (pre.drop oo).length = n * Rp.sz α := by simp [hplen]
        refine ⟨pre.drop oo, ?_, hdl, fun i x hi => ?_⟩
        · show (loadCells ⟨b, oo, none⟩ (n * Rp.sz α)).run P w.drew = _
          rw [← hdl]
          refine run_loadCells _ fun j v hj => ?_
          rw [add_mk]
          rw [List.getElem?_drop] at hj
          exact st.drew.dat.cell ⟨pre, hpre, hj⟩
        · obtain ⟨b', o', hp', hx'⟩ := hread (by intro e'; subst e'; simp at hi)
          cases hp'
          obtain ⟨g, hc', hf⟩ := hx' i x hi
          refine ⟨g, fun j v hv => ?_, hf⟩
          obtain ⟨c0, hc0, hv0⟩ := hc' j v hv
          rw [hpre] at hc0
          cases hc0
          rw [List.getElem?_drop, ← Nat.add_assoc]
          exact hv0
    simp only [run_bind, hi0, false_or, hib0, and_false, if_false, hcap]
    rw [run_choose _ hq]
    obtain ⟨i1, hi1, _⟩ := run_typeInfo_bytes (w := w.drew) he.byt
    have hcut : (Question.appendCap (n + ys.length) c e).cut (w.tape w.drawn (Question.appendCap (n + ys.length) c e)) ≥ n + ys.length := by
      simp only [Question.cut]
      omega
    generalize (Question.appendCap (n + ys.length) c e).cut (w.tape w.drawn (Question.appendCap (n + ys.length) c e)) = newCap at hcut ⊢
    simp only [run_bind, hi1, run_askRoom, hold, Bool.not_false, if_true, hload', run_zeroValue he.zer, newRow, run_newObj, Bind.bind, Pure.pure, Sem.run]
    have st2 : St B0 w0 D R w.drew := st.tail.drew
    have hcells : old.toArray ++ news.toArray ++ Builtin.zeroCells z.cells (newCap - (n + ys.length)) = (old ++ news ++ (Builtin.zeroCells z.cells (newCap - (n + ys.length))).toList).toArray := by simp
    rw [hcells]
    obtain ⟨D', h2', hle, hD, hdh, hst, how, hbel⟩ := St.newTail (T := e) st2 (old ++ news ++ (Builtin.zeroCells z.cells (newCap - (n + ys.length))).toList) (old ++ news) (List.prefix_append _ _)
    refine ⟨some ⟨w.drew.heap.size, 0, none⟩, newCap, _, D', rfl, hle, hdh, ⟨_, ⟨[_], h2', rfl, ⟨?_, .inr ⟨w.drew.heap.size, 0, (old ++ news ++ (Builtin.zeroCells z.cells (newCap - (n + ys.length))).toList).toArray, rfl, ?_, ?_⟩⟩, hst⟩, how⟩, hbel, st.low⟩
    · rw [hnx]
      refine dSp_append (D := D) (b := w.drew.heap.size) (o := 0) (news := news) (fun i x hi => ?_) rfl hle hn (fun k v hv => ⟨old ++ news, hD, ?_⟩) (by omega)
      · obtain ⟨g, hc', hf⟩ := hoc i x hi
        refine ⟨g, fun j v hv => ⟨old ++ news, hD, ?_⟩, allF_mono hle hf⟩
        have h3 := hc' j v hv
        rw [Nat.zero_add, List.getElem?_append_left (List.getElem?_eq_some_iff.1 h3).1]
        exact h3
      · rw [← hnx, Nat.zero_add, ← hol, List.getElem?_append_right (by omega)]
        simpa using hv
    · simp [hnl, hol, Nat.add_mul]
    · have hz := zeroCells_size z.cells (newCap - (n + ys.length))
      rw [he.zs] at hz
      simp only [List.size_toArray, List.length_append, Array.length_toList, hz, hol, hnl, Nat.zero_add]
      rw [← Nat.add_mul, ← Nat.add_mul]
      congr 1
      omega
end
end Go.Sl
