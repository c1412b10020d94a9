/- The abstract heap machine, part 2: what a step of memory does to the relation. -/
import Derived.Test.YtckalckfihhldaaDoorF1
set_option linter.unusedVariables false
set_option linter.unusedSimpArgs false
namespace Go.Proofs.YtckalckfihhldaaDoorF
open Go

theorem CellsIn.mono {φ ψ : Phi} {cs : List Value} {c : Array Value} {off : Nat} (le : Phi.le φ ψ) (h : CellsIn φ cs c off) : CellsIn ψ cs c off :=
  ⟨h.fits, fun i v hv => let ⟨v', a, b⟩ := h.cell i v hv; ⟨v', a, b.mono le⟩⟩
theorem EsIn.mono {φ ψ : Phi} (le : Phi.le φ ψ) : ∀ {l : List (Value × Value)} {l' : List MapEntry}, EsIn φ l l' → EsIn ψ l l'
  | _, _, .nil => .nil
  | _, _, .cons hk hv t => .cons hk (hv.mono le) (EsIn.mono le t)
theorem Has.keep {φ ψ : Phi} {w w' : World} {l : Loc} {e : TypeId} {cs : List Value} (le : Phi.le φ ψ) (hb : w'.heap[l.block]? = w.heap[l.block]?) (h : Has φ w l e cs) : Has ψ w' l e cs := by
  obtain ⟨c, h1, h2, h3⟩ := h
  exact ⟨c, hb.trans h1, h2, h3.mono le⟩

theorem ORel.own {φ : Phi} {s : St} {w : World} {Own : Nat → Prop} {l : Loc} {r : Row} (h : r.mode = .own) :
    ORel φ s w Own l (.row r) ↔ (Own l.block ∧ r.root < s.next ∧ r.esz = l.esz ∧ Has φ w l r.elem r.cs) := by simp only [ORel, h]
theorem ORel.old {φ : Phi} {s : St} {w : World} {Own : Nat → Prop} {l : Loc} {r : Row} (h : r.mode = .old) :
    ORel φ s w Own l (.row r) ↔ (Own l.block ∧ r.root < s.next ∧ r.esz = l.esz ∧ (s.calm r.root = true → Has φ w l r.elem r.cs)) := by simp only [ORel, h]
theorem ORel.foreign {φ : Phi} {s : St} {w : World} {Own : Nat → Prop} {l : Loc} {r : Row} (h : r.mode = .foreign) :
    ORel φ s w Own l (.row r) ↔ (¬ Own l.block ∧ l.esz = 0 ∧ ∀ (i : Nat) (v : Value), r.cs[i]? = some v → ∃ v', w.cell? ⟨l.block, l.off + i, none⟩ = some v' ∧ V φ v v') := by simp only [ORel, h]

theorem ORel.keep {φ ψ : Phi} {s s' : St} {w w' : World} {Own Own' : Nat → Prop} {l : Loc} {o : AObj} (le : Phi.le φ ψ) (hn : s.next ≤ s'.next)
    (hc : ∀ root, root < s.next → s'.calm root = true → s.calm root = true) (hb : w'.heap[l.block]? = w.heap[l.block]?) (ho : Own' l.block ↔ Own l.block)
    (h : ORel φ s w Own l o) : ORel ψ s' w' Own' l o := by
  cases o with
  | row r =>
    cases hm : r.mode with
    | own =>
      rw [ORel.own hm] at h ⊢
      exact ⟨ho.2 h.1, Nat.lt_of_lt_of_le h.2.1 hn, h.2.2.1, h.2.2.2.keep le hb⟩
    | old =>
      rw [ORel.old hm] at h ⊢
      exact ⟨ho.2 h.1, Nat.lt_of_lt_of_le h.2.1 hn, h.2.2.1, fun k => (h.2.2.2 (hc _ h.2.1 k)).keep le hb⟩
    | foreign =>
      rw [ORel.foreign hm] at h ⊢
      refine ⟨fun k => h.1 (ho.1 k), h.2.1, fun i v hv => ?_⟩
      obtain ⟨v', h1, h2⟩ := h.2.2 i v hv
      exact ⟨v', by simpa [World.cell?, hb] using h1, h2.mono le⟩
  | box e cs => exact ⟨ho.2 h.1, h.2.1, h.2.2.keep le hb⟩
  | map es =>
    obtain ⟨h1, es', clock, h2, h3⟩ := h
    exact ⟨ho.2 h1, es', clock, hb.trans h2, h3.mono le⟩
  | siter t p => exact ⟨ho.2 h.1, hb.trans h.2.1, h.2.2⟩

theorem St.Top.new {s : St} (h : s.Top) (o : AObj) : (s.new o).Top := fun i hi => by
  rw [St.next_new] at hi
  rw [St.get_new, if_neg (by omega)]
  exact h i (by omega)
theorem St.Top.lt {s : St} (h : s.Top) {i : Nat} {o : AObj} (k : s.get i = some o) : i < s.next := by
  rcases Nat.lt_or_ge i s.next with hi | hi
  · exact hi
  · rw [h i hi] at k; cases k
theorem St.Top.put {s : St} (h : s.Top) {i : Nat} {o' : AObj} (k : s.get i = some o') (o : AObj) : (s.put i o).Top := fun j hj => by
  have := h.lt k
  rw [St.next_put] at hj
  rw [St.get_put, if_neg (by omega)]
  exact h j hj

theorem R.of_heap {φ : Phi} {s : St} {w w' : World} {Own : Nat → Prop} (h : R φ s w Own) (hh : w'.heap = w.heap) : R φ s w' Own :=
  ⟨h.top, h.dom, fun i l e => by rw [hh]; exact h.lt i l e, fun k e => by rw [hh]; exact h.ltOwn k e,
   fun i l e => let ⟨o, h1, h2⟩ := h.obj i l e; ⟨o, h1, h2.keep (Phi.le_refl _) (Nat.le_refl _) (fun _ _ h => h) (by rw [hh]) Iff.rfl⟩, h.sep⟩

theorem R.lows {φ : Phi} {s : St} {w : World} {Own : Nat → Prop} (h : R φ s w Own) (n m : Nat) : R φ { s with low := n, lowb := m } w Own :=
  ⟨h.top, h.dom, h.lt, h.ltOwn, fun i l e => let ⟨o, h1, h2⟩ := h.obj i l e; ⟨o, h1, h2.keep (s' := { s with low := n, lowb := m }) (Phi.le_refl _) (Nat.le_refl _) (fun _ _ h => h) rfl Iff.rfl⟩, h.sep⟩
/-- Only 'low' differs. -/
theorem R.low {φ : Phi} {s : St} {w : World} {Own : Nat → Prop} (h : R φ s w Own) (n : Nat) : R φ { s with low := n } w Own :=
  ⟨h.top, h.dom, h.lt, h.ltOwn, fun i l e => let ⟨o, h1, h2⟩ := h.obj i l e; ⟨o, h1, h2.keep (s' := { s with low := n }) (Phi.le_refl _) (Nat.le_refl _) (fun _ _ h => h) rfl Iff.rfl⟩, h.sep⟩

def Phi.put (φ : Phi) (i : Nat) (l : Loc) : Phi := fun j => if j = i then some l else φ j
theorem Phi.put_same (φ : Phi) (i : Nat) (l : Loc) : Phi.put φ i l i = some l := by simp [Phi.put]
theorem Phi.put_le {φ : Phi} {i : Nat} (l : Loc) (h : φ i = none) : Phi.le φ (Phi.put φ i l) := by
  intro j m e
  unfold Phi.put
  split
  · rename_i hj; subst hj; rw [h] at e; cases e
  · exact e

theorem R.fresh {φ : Phi} {s : St} {w : World} {Own : Nat → Prop} (h : R φ s w Own) : φ s.next = none := by
  cases e : φ s.next with
  | none => rfl
  | some l => exact absurd (h.dom _ _ e) (Nat.lt_irrefl _)

theorem calm_new {s : St} {o : AObj} {root : Nat} (h : root < s.next) : (s.new o).calm root = s.calm root := by
  unfold St.calm
  rw [St.get_new, if_neg (by omega)]

theorem R.root {φ : Phi} {s : St} {w : World} {Own : Nat → Prop} (h : R φ s w Own) {i : Nat} {l : Loc} {r : Row} (hi : φ i = some l) (ho : s.get i = some (.row r)) (hm : r.mode = .own) : r.root < s.next := by
  obtain ⟨o, h1, h2⟩ := h.obj i l hi
  rw [ho] at h1
  injection h1 with h1
  subst h1
  exact ((ORel.own hm).1 h2).2.1

/-- A new object in a new block. -/
theorem R.new {φ : Phi} {s : St} {w : World} {Own : Nat → Prop} (h : R φ s w Own) (o : AObj) (oc : Obj) (l : Loc) (hb : l.block = w.heap.size)
    (hrel : ∀ ψ, Phi.le φ ψ → ψ s.next = some l → ORel ψ (s.new o) (w.alloc oc) (fun k => Own k ∨ k = w.heap.size) l o) :
    R (Phi.put φ s.next l) (s.new o) (w.alloc oc) (fun k => Own k ∨ k = w.heap.size) := by
  have le := Phi.put_le l h.fresh
  have old : ∀ i m, φ i = some m → m.block < w.heap.size := h.lt
  have cases_ : ∀ i m, Phi.put φ s.next l i = some m → (i = s.next ∧ m = l) ∨ (i ≠ s.next ∧ φ i = some m) := by
    intro i m e
    unfold Phi.put at e
    split at e
    · rename_i hi; injection e with e; exact .inl ⟨hi, e.symm⟩
    · rename_i hi; exact .inr ⟨hi, e⟩
  refine ⟨h.top.new o, fun i m e => ?_, fun i m e => ?_, fun k e => ?_, fun i m e => ?_, fun i j m n o' ei ej hne hbl ho hl => ?_⟩
  · rcases cases_ i m e with ⟨rfl, _⟩ | ⟨_, e⟩
    · simp
    · have := h.dom i m e; simp; omega
  · rcases cases_ i m e with ⟨_, rfl⟩ | ⟨_, e⟩
    · simp [hb]
    · have := h.lt i m e; simp; omega
  · rcases e with e | e
    · have := h.ltOwn k e; simp; omega
    · simp [e]
  · rcases cases_ i m e with ⟨rfl, rfl⟩ | ⟨hi, e⟩
    · exact ⟨o, by rw [St.get_new, if_pos rfl], hrel _ le (Phi.put_same ..)⟩
    · obtain ⟨o', h1, h2⟩ := h.obj i m e
      refine ⟨o', by rw [St.get_new, if_neg hi, h1], h2.keep le (by simp) (fun r hr hc => by rwa [calm_new hr] at hc) ?_ ?_⟩
      · exact heap_alloc_old w oc (old i m e)
      · have := old i m e
        constructor
        · rintro (h | h)
          · exact h
          · omega
        · exact .inl
  · rcases cases_ i m ei with ⟨rfl, rfl⟩ | ⟨hi, ei⟩
    · rcases cases_ j n ej with ⟨e1, _⟩ | ⟨hj, ej⟩
      · exact absurd e1.symm hne
      · have := old j n ej; omega
    · rcases cases_ j n ej with ⟨rfl, e2⟩ | ⟨hj, ej⟩
      · have := old i m ei; rw [e2] at hbl; omega
      · rw [St.get_new, if_neg hi] at ho
        obtain ⟨r, r', a, b, c⟩ := h.sep i j m n o' ei ej hne hbl ho hl
        refine ⟨r, r', a, by rw [St.get_new, if_neg hj, b], c.imp id fun c => ⟨c.1, c.2.1, fun k => c.2.2 ?_⟩⟩
        have hr := h.root ei (a ▸ ho) (by rw [a] at hl; simpa [live] using hl)
        rwa [calm_new hr] at k

theorem Fr.alloc (w : World) (oc : Obj) (Own : Nat → Prop) : Fr w (w.alloc oc) Own (fun k => Own k ∨ k = w.heap.size) :=
  ⟨rfl, rfl, rfl, by simp, fun k hk _ => heap_alloc_old w oc hk, fun k hk => hk.imp id (fun e => by omega)⟩
theorem Fr.drew (w : World) (Own : Nat → Prop) : Fr w w.drew Own Own := ⟨rfl, rfl, rfl, by simp, fun _ _ _ => rfl, fun _ h => .inl h⟩

/-- Block b alone has turned, and it is one of the own ones. -/
structure Turned (w w' : World) (b : Nat) : Prop where
  os : w'.os = w.os
  tape : w'.tape = w.tape
  output : w'.output = w.output
  size : w'.heap.size = w.heap.size
  keep : ∀ k, k ≠ b → w'.heap[k]? = w.heap[k]?
theorem Turned.fr {w w' : World} {b : Nat} (h : Turned w w' b) {Own : Nat → Prop} (ho : Own b) : Fr w w' Own Own :=
  ⟨h.os, h.tape, h.output, by rw [h.size]; exact Nat.le_refl _, fun k _ hk => h.keep k (fun e => hk (e ▸ ho)), fun _ h => .inl h⟩
theorem Turned.setRow (w : World) (g : Nat) (cs : Array Value) : Turned w (w.setRow g cs) g :=
  ⟨rfl, rfl, rfl, by simp [World.setRow], fun k hk => setRow_other w g k cs hk⟩

/-- A live object that is no row is written. -/
theorem R.put {φ : Phi} {s : St} {w w' : World} {Own : Nat → Prop} (h : R φ s w Own) {i : Nat} {l : Loc} {o o' : AObj} (hi : φ i = some l) (ho : s.get i = some o)
    (hnr : ∀ r, o ≠ .row r) (hnr' : ∀ r, o' ≠ .row r) (hl : live o = true) (ht : Turned w w' l.block) (hrel : ORel φ (s.put i o') w' Own l o') : R φ (s.put i o') w' Own := by
  have calm : ∀ root, (s.put i o').calm root = s.calm root := by
    intro root
    unfold St.calm
    rw [St.get_put]
    by_cases e : root = i
    · subst e
      rw [if_pos rfl, ho]
      cases o with
      | row r => exact absurd rfl (hnr r)
      | _ => cases o' with
        | row r => exact absurd rfl (hnr' r)
        | _ => rfl
    · rw [if_neg e]
  have apart : ∀ j m, j ≠ i → φ j = some m → m.block ≠ l.block := by
    intro j m hne ej hb
    obtain ⟨r, _, e, _⟩ := h.sep i j l m o hi ej (Ne.symm hne) hb.symm ho hl
    exact hnr r e
  refine ⟨h.top.put ho _, h.dom, fun j m e => by rw [ht.size]; exact h.lt j m e, fun k e => by rw [ht.size]; exact h.ltOwn k e, fun j m e => ?_, fun j k m n o1 ej ek hne hb ho1 hl1 => ?_⟩
  · by_cases hj : j = i
    · subst hj
      rw [hi] at e
      injection e with e
      subst e
      exact ⟨o', by rw [St.get_put, if_pos rfl], hrel⟩
    · obtain ⟨o1, h1, h2⟩ := h.obj j m e
      exact ⟨o1, by rw [St.get_put, if_neg hj, h1], ORel.keep (s := s) (Phi.le_refl _) (Nat.le_refl s.next) (fun root _ hc => by rwa [calm] at hc) (ht.keep _ (apart j m hj e)) Iff.rfl h2⟩
  · by_cases hj : j = i
    · subst hj
      rw [hi] at ej
      injection ej with ej
      subst ej
      exact absurd hb.symm (apart k n (Ne.symm hne) ek)
    · rw [St.get_put, if_neg hj] at ho1
      by_cases hk : k = i
      · subst hk
        rw [hi] at ek
        injection ek with ek
        subst ek
        exact absurd hb (apart j m hj ej)
      · obtain ⟨r, r', a, b, c⟩ := h.sep j k m n o1 ej ek hne hb ho1 hl1
        exact ⟨r, r', a, by rw [St.get_put, if_neg hk, b], c.imp id fun c => ⟨c.1, c.2.1, fun q => c.2.2 (by rwa [calm] at q)⟩⟩

/-- A line is no longer calm. -/
def St.stir (s : St) (root : Nat) : St := match s.get root with | some (.row q) => s.put root (.row { q with stored := true }) | _ => s
theorem St.stir_next (s : St) (root : Nat) : (s.stir root).next = s.next := by unfold St.stir; split <;> rfl
theorem St.stir_calm (s : St) (root : Nat) : (s.stir root).calm root = false := by
  unfold St.stir
  split
  · simp [St.calm, St.get_put]
  · rename_i h
    unfold St.calm
    split
    · rename_i r hr
      exact absurd hr (h r)
    · rfl
theorem St.stir_calm_le (s : St) (root j : Nat) (h : (s.stir root).calm j = true) : s.calm j = true := by
  by_cases e : j = root
  · subst e; rw [St.stir_calm] at h; cases h
  · unfold St.stir at h
    split at h
    · unfold St.calm at h ⊢
      rw [St.get_put, if_neg e] at h
      exact h
    · exact h
theorem St.stir_get (s : St) (root j : Nat) : (s.stir root).get j = s.get j ∨ ∃ q, s.get j = some (.row q) ∧ (s.stir root).get j = some (.row { q with stored := true }) := by
  unfold St.stir
  split
  · rename_i q hq
    rw [St.get_put]
    split
    · rename_i e; subst e; exact .inr ⟨q, hq, rfl⟩
    · exact .inl rfl
  · exact .inl rfl
theorem ORel.stored {φ : Phi} {s : St} {w : World} {Own : Nat → Prop} {l : Loc} {q : Row} (b : Bool) : ORel φ s w Own l (.row { q with stored := b }) ↔ ORel φ s w Own l (.row q) := Iff.rfl

theorem St.Top.stir {s : St} (h : s.Top) (root : Nat) : (s.stir root).Top := by
  unfold St.stir
  split
  · rename_i q hq; exact h.put hq _
  · exact h
theorem R.stir {φ : Phi} {s : St} {w : World} {Own : Nat → Prop} (h : R φ s w Own) (root : Nat) : R φ (s.stir root) w Own := by
  refine ⟨h.top.stir root, fun i l e => by rw [St.stir_next]; exact h.dom i l e, h.lt, h.ltOwn, fun i l e => ?_, fun i j l m o ei ej hne hb ho hl => ?_⟩
  · obtain ⟨o, h1, h2⟩ := h.obj i l e
    have h3 : ORel φ (s.stir root) w Own l o := h2.keep (Phi.le_refl _) (by rw [St.stir_next]; exact Nat.le_refl _) (fun r _ hc => St.stir_calm_le s root r hc) rfl Iff.rfl
    rcases St.stir_get s root i with hg | ⟨q, hq, hg⟩
    · exact ⟨o, by rw [hg, h1], h3⟩
    · rw [h1] at hq
      injection hq with hq
      subst hq
      exact ⟨_, hg, (ORel.stored true).2 h3⟩
  · have key : ∃ o0, s.get i = some o0 ∧ live o0 = true ∧ (o0 = o ∨ ∃ q, o0 = .row q ∧ o = .row { q with stored := true }) := by
      rcases St.stir_get s root i with hg | ⟨q, hq, hg⟩
      · exact ⟨o, by rw [← hg, ho], hl, .inl rfl⟩
      · rw [hg] at ho
        injection ho with ho
        subst ho
        exact ⟨.row q, hq, hl, .inr ⟨q, rfl, rfl⟩⟩
    obtain ⟨o0, ho0, hl0, hoo⟩ := key
    obtain ⟨r, r', a, b, c⟩ := h.sep i j l m o0 ei ej hne hb ho0 hl0
    have hr : ∃ r1, o = .row r1 ∧ r1.root = r.root ∧ r1.cs = r.cs := by
      rcases hoo with rfl | ⟨q, e1, e2⟩
      · exact ⟨r, a, rfl, rfl⟩
      · rw [a] at e1
        injection e1 with e1
        subst e1
        exact ⟨_, e2, rfl, rfl⟩
    obtain ⟨r1, hr1, hr2, hr3⟩ := hr
    have c' : r'.mode = .foreign ∨ (r'.mode = .old ∧ r'.root = r.root ∧ ((s.stir root).calm r.root = true → m.off + r'.cs.length ≤ l.off + r.cs.length)) :=
      c.imp id fun c => ⟨c.1, c.2.1, fun k => c.2.2 (St.stir_calm_le s root _ k)⟩
    rcases St.stir_get s root j with hg | ⟨q, hq, hg⟩
    · exact ⟨r1, r', hr1, by rw [hg, b], by rw [hr2, hr3]; exact c'⟩
    · rw [b] at hq
      injection hq with hq
      injection hq with hq
      subst hq
      exact ⟨r1, _, hr1, hg, by rw [hr2, hr3]; exact c'⟩

/-- A live row whose line is not calm is written. -/
theorem R.putRow {φ : Phi} {s : St} {w w' : World} {Own : Nat → Prop} (h : R φ s w Own) {i : Nat} {l : Loc} {r : Row} (hi : φ i = some l) (ho : s.get i = some (.row r))
    (hl : r.mode = .own) (hc : s.calm r.root = false) (ht : Turned w w' l.block) (cs : List Value) (hst : r.root = i → r.stored = true)
    (hrel : Has φ w' l r.elem cs) : R φ (s.put i (.row { r with cs := cs })) w' Own := by
  have hr0 := h.obj i l hi
  obtain ⟨o0, e0, hr0⟩ := hr0
  rw [ho] at e0
  injection e0 with e0
  subst e0
  rw [ORel.own hl] at hr0
  have calm : ∀ root, (s.put i (.row { r with cs := cs })).calm root = true → s.calm root = true := by
    intro root
    unfold St.calm
    rw [St.get_put]
    by_cases e : root = i
    · subst e
      rw [if_pos rfl, ho]
      exact id
    · rw [if_neg e]
      exact id
  refine ⟨h.top.put ho _, h.dom, fun j m e => by rw [ht.size]; exact h.lt j m e, fun k e => by rw [ht.size]; exact h.ltOwn k e, fun j m e => ?_, fun j k m n o1 ej ek hne hb ho1 hl1 => ?_⟩
  · by_cases hj : j = i
    · subst hj
      rw [hi] at e
      injection e with e
      subst e
      refine ⟨_, by rw [St.get_put, if_pos rfl], ?_⟩
      rw [ORel.own (r := { r with cs := cs }) hl]
      exact ⟨hr0.1, hr0.2.1, hr0.2.2.1, hrel⟩
    · obtain ⟨o1, h1, h2⟩ := h.obj j m e
      refine ⟨o1, by rw [St.get_put, if_neg hj, h1], ?_⟩
      by_cases hb : m.block = l.block
      · obtain ⟨r1, r', a, b, c⟩ := h.sep i j l m (.row r) hi e (Ne.symm hj) hb.symm ho (by simp [live, hl])
        injection a with a
        subst a
        rw [h1] at b
        injection b with b
        subst b
        rcases c with c | ⟨c1, c2, _⟩
        · rw [ORel.foreign c] at h2
          rw [hb] at h2
          exact absurd hr0.1 h2.1
        · rw [ORel.old c1] at h2 ⊢
          exact ⟨h2.1, h2.2.1, h2.2.2.1, fun k => by rw [c2] at k; rw [calm _ k] at hc; cases hc⟩
      · exact ORel.keep (s := s) (Phi.le_refl _) (Nat.le_refl s.next) (fun root _ k => calm root k) (ht.keep _ hb) Iff.rfl h2
  · have back : ∀ j o1, (s.put i (.row { r with cs := cs })).get j = some o1 → live o1 = true → ∃ o0, s.get j = some o0 ∧ live o0 = true ∧ (∀ r0, o0 = .row r0 → ∃ r1, o1 = .row r1 ∧ r1.root = r0.root ∧ (r1.cs = r0.cs ∨ s.calm r0.root = false)) := by
      intro j o1 hg hl1
      rw [St.get_put] at hg
      split at hg
      · rename_i e
        subst e
        injection hg with hg
        subst hg
        exact ⟨_, ho, by simp [live, hl], fun r0 e0 => by injection e0 with e0; subst e0; exact ⟨_, rfl, rfl, .inr hc⟩⟩
      · exact ⟨o1, hg, hl1, fun r0 e0 => ⟨r0, e0, rfl, .inl rfl⟩⟩
    obtain ⟨o0, g0, l0, hr1⟩ := back j o1 ho1 hl1
    obtain ⟨r1, r', a, b, c⟩ := h.sep j k m n o0 ej ek hne hb g0 l0
    obtain ⟨r2, e2, e3, e4⟩ := hr1 r1 a
    by_cases hk : k = i
    · subst hk
      rw [ho] at b
      injection b with b
      injection b with b
      subst b
      rw [hl] at c
      simp at c
    · refine ⟨r2, r', e2, by rw [St.get_put, if_neg hk, b], c.imp id fun c => ⟨c.1, by rw [e3]; exact c.2.1, fun q => ?_⟩⟩
      rw [e3] at q
      rcases e4 with e4 | e4
      · rw [e4]; exact c.2.2 (calm _ q)
      · rw [calm _ q] at e4; cases e4

/-- A live row becomes an elder one, cut short. -/
theorem R.retire {φ : Phi} {s : St} {w : World} {Own : Nat → Prop} (h : R φ s w Own) {i : Nat} {l : Loc} {r : Row} (hi : φ i = some l) (ho : s.get i = some (.row r)) (hl : r.mode = .own) (e : Nat) :
    R φ (s.put i (.row { r with mode := .old, cs := r.cs.take e })) w Own := by
  have hr0 := h.obj i l hi
  obtain ⟨o0, e0, hr0⟩ := hr0
  rw [ho] at e0
  injection e0 with e0
  subst e0
  rw [ORel.own hl] at hr0
  have calm : ∀ root, (s.put i (.row { r with mode := .old, cs := r.cs.take e })).calm root = s.calm root := by
    intro root
    unfold St.calm
    rw [St.get_put]
    by_cases e : root = i
    · subst e
      rw [if_pos rfl, ho]
    · rw [if_neg e]
  refine ⟨h.top.put ho _, h.dom, h.lt, h.ltOwn, fun j m em => ?_, fun j k m n o1 ej ek hne hb ho1 hl1 => ?_⟩
  · by_cases hj : j = i
    · subst hj
      rw [hi] at em
      injection em with em
      subst em
      refine ⟨_, by rw [St.get_put, if_pos rfl], ?_⟩
      rw [ORel.old (r := { r with mode := .old, cs := r.cs.take e }) rfl]
      refine ⟨hr0.1, hr0.2.1, hr0.2.2.1, fun _ => ?_⟩
      obtain ⟨c, c1, c2, c3⟩ := hr0.2.2.2
      refine ⟨c, c1, c2, ⟨?_, fun k v hv => ?_⟩⟩
      · have := c3.fits
        simp only [List.length_take]
        omega
      · rw [List.getElem?_take] at hv
        split at hv
        · exact c3.cell k v hv
        · cases hv
    · obtain ⟨o1, h1, h2⟩ := h.obj j m em
      exact ⟨o1, by rw [St.get_put, if_neg hj, h1], ORel.keep (s := s) (Phi.le_refl _) (Nat.le_refl s.next) (fun root _ k => by rwa [calm] at k) rfl Iff.rfl h2⟩
  · by_cases hj : j = i
    · subst hj
      rw [St.get_put, if_pos rfl] at ho1
      injection ho1 with ho1
      subst ho1
      simp [live] at hl1
    · rw [St.get_put, if_neg hj] at ho1
      obtain ⟨r1, r', a, b, c⟩ := h.sep j k m n o1 ej ek hne hb ho1 hl1
      by_cases hk : k = i
      · subst hk
        rw [ho] at b
        injection b with b
        injection b with b
        subst b
        rw [hl] at c
        simp at c
      · exact ⟨r1, r', a, by rw [St.get_put, if_neg hk, b], c.imp id fun c => ⟨c.1, c.2.1, fun q => c.2.2 (by rwa [calm] at q)⟩⟩

/-- A live row is appended to where it lies: it becomes an elder one, and the new one lies in the same block. -/
theorem R.grow {φ : Phi} {s : St} {w w' : World} {Own : Nat → Prop} (h : R φ s w Own) {i : Nat} {l l' : Loc} {r : Row} (hi : φ i = some l) (ho : s.get i = some (.row r)) (hl : r.mode = .own)
    (e : Nat) (he : e = r.cs.length ∨ (e ≤ r.cs.length ∧ s.calm r.root = false)) (ht : Turned w w' l.block) (c c' : Array Value)
    (hc : w.heap[l.block]? = some (.cells c r.elem (0, 0))) (hc' : w'.heap[l.block]? = some (.cells c' r.elem (0, 0))) (hsz : c'.size = c.size) (hsame : ∀ k, k < l.off + e → c'[k]? = c[k]?)
    (cs' : List Value) (hb : l'.block = l.block) (hl's : l'.size = l.size) (hl'e : l'.esz = l.esz) (hin : CellsIn φ cs' c' l'.off) (hend : l.off + e ≤ l'.off + cs'.length) :
    R (Phi.put φ s.next l') ((s.put i (.row { r with mode := .old, cs := r.cs.take e })).new (.row { elem := r.elem, cs := cs', mode := .own, root := r.root, stored := false, esz := r.esz })) w' Own := by
  have hr0 := h.obj i l hi
  obtain ⟨o0, e0, hr0⟩ := hr0
  rw [ho] at e0
  injection e0 with e0
  subst e0
  rw [ORel.own hl] at hr0
  obtain ⟨hown, hroot, hesz, cc, cc1, cc2, cc3⟩ := hr0
  rw [hc] at cc1
  injection cc1 with cc1
  injection cc1 with cc1
  subst cc1
  have hlt := h.lt i l hi
  have le := Phi.put_le l' h.fresh
  have calm : ∀ root, root < s.next → ((s.put i (.row { r with mode := .old, cs := r.cs.take e })).new (.row { elem := r.elem, cs := cs', mode := .own, root := r.root, stored := false, esz := r.esz })).calm root = s.calm root := by
    intro root hr
    rw [calm_new (by simpa using hr)]
    unfold St.calm
    rw [St.get_put]
    by_cases e : root = i
    · subst e
      rw [if_pos rfl, ho]
    · rw [if_neg e]
  have hine : i ≠ s.next := fun e => by have := h.dom i l hi; omega
  have getj : ∀ j, j ≠ s.next → j ≠ i → ((s.put i (.row { r with mode := .old, cs := r.cs.take e })).new (.row { elem := r.elem, cs := cs', mode := .own, root := r.root, stored := false, esz := r.esz })).get j = s.get j := by
    intro j h1 h2
    rw [St.get_new, if_neg (by simpa using h1), St.get_put, if_neg h2]
  have geti : ((s.put i (.row { r with mode := .old, cs := r.cs.take e })).new (.row { elem := r.elem, cs := cs', mode := .own, root := r.root, stored := false, esz := r.esz })).get i = some (.row { r with mode := .old, cs := r.cs.take e }) := by
    rw [St.get_new, if_neg (by simpa using hine), St.get_put, if_pos rfl]
  have getn : ((s.put i (.row { r with mode := .old, cs := r.cs.take e })).new (.row { elem := r.elem, cs := cs', mode := .own, root := r.root, stored := false, esz := r.esz })).get s.next = some (.row { elem := r.elem, cs := cs', mode := .own, root := r.root, stored := false, esz := r.esz }) := by
    rw [St.get_new, if_pos (by simp)]
  have cases_ : ∀ j m, Phi.put φ s.next l' j = some m → (j = s.next ∧ m = l') ∨ (j ≠ s.next ∧ φ j = some m) := by
    intro j m e
    unfold Phi.put at e
    split at e
    · rename_i hi; injection e with e; exact .inl ⟨hi, e.symm⟩
    · rename_i hi; exact .inr ⟨hi, e⟩
  -- the others in the block
  have mates : ∀ j m, j ≠ i → φ j = some m → m.block = l.block → ∃ r', s.get j = some (.row r') ∧ r'.mode = .old ∧ r'.root = r.root ∧ (s.calm r.root = true → m.off + r'.cs.length ≤ l.off + e) := by
    intro j m hne ej hbj
    obtain ⟨r1, r', a, b, c⟩ := h.sep i j l m (.row r) hi ej (Ne.symm hne) hbj.symm ho (by simp [live, hl])
    injection a with a
    subst a
    rcases c with c | ⟨c1, c2, c3⟩
    · obtain ⟨o1, h1, h2⟩ := h.obj j m ej
      rw [b] at h1
      injection h1 with h1
      subst h1
      rw [ORel.foreign c, hbj] at h2
      exact absurd hown h2.1
    · refine ⟨r', b, c1, c2, fun k => ?_⟩
      rcases he with he | ⟨_, he⟩
      · rw [he]; exact c3 k
      · rw [k] at he; cases he
  have hele : e ≤ r.cs.length := by rcases he with he | ⟨he, _⟩ <;> omega
  refine ⟨(h.top.put ho _).new _, fun j m ej => ?_, fun j m ej => ?_, fun k ek => by rw [ht.size]; exact h.ltOwn k ek, fun j m ej => ?_, fun j k m n o1 ej ek hne hbjk ho1 hl1 => ?_⟩
  · rcases cases_ j m ej with ⟨rfl, _⟩ | ⟨_, ej⟩
    · simp
    · have := h.dom j m ej; simp; omega
  · rw [ht.size]
    rcases cases_ j m ej with ⟨_, rfl⟩ | ⟨_, ej⟩
    · rw [hb]; exact hlt
    · exact h.lt j m ej
  · rcases cases_ j m ej with ⟨rfl, rfl⟩ | ⟨hj, ej⟩
    · refine ⟨_, getn, ?_⟩
      rw [ORel.own (r := { elem := r.elem, cs := cs', mode := .own, root := r.root, stored := false, esz := r.esz }) rfl]
      exact ⟨by rw [hb]; exact hown, by simp; omega, by rw [hl'e]; exact hesz, c', by rw [hb]; exact hc', by rw [hl's, hsz]; exact cc2, hin.mono le⟩
    · by_cases hji : j = i
      · subst hji
        rw [hi] at ej
        injection ej with ej
        subst ej
        refine ⟨_, geti, ?_⟩
        rw [ORel.old (r := { r with mode := .old, cs := r.cs.take e }) rfl]
        refine ⟨hown, by simp; omega, hesz, fun _ => ⟨c', hc', by rw [hsz]; exact cc2, ⟨?_, fun k v hv => ?_⟩⟩⟩
        · have := cc3.fits
          simp only [List.length_take, hsz]
          omega
        · rw [List.getElem?_take] at hv
          split at hv
          · rename_i hk
            obtain ⟨v', h1, h2⟩ := cc3.cell k v hv
            exact ⟨v', by rw [hsame _ (by omega)]; exact h1, h2.mono le⟩
          · cases hv
      · obtain ⟨o1, h1, h2⟩ := h.obj j m ej
        refine ⟨o1, by rw [getj j hj hji, h1], ?_⟩
        by_cases hbj : m.block = l.block
        · obtain ⟨r', g1, g2, g3, g4⟩ := mates j m hji ej hbj
          rw [h1] at g1
          injection g1 with g1
          subst g1
          rw [ORel.old g2] at h2 ⊢
          refine ⟨h2.1, by simp; omega, h2.2.2.1, fun k => ?_⟩
          rw [calm _ h2.2.1] at k
          obtain ⟨d, d1, d2, d3⟩ := h2.2.2.2 k
          rw [hbj, hc] at d1
          injection d1 with d1
          injection d1 with d1 d1' d1''
          subst d1
          have g5 := g4 (by rw [g3] at k; exact k)
          refine ⟨c', by rw [hbj, ← d1']; exact hc', by rw [hsz]; exact d2, ⟨by rw [hsz]; exact d3.fits, fun q v hv => ?_⟩⟩
          obtain ⟨v', p1, p2⟩ := d3.cell q v hv
          have hq : q < r'.cs.length := by
            rcases Nat.lt_or_ge q r'.cs.length with hq | hq
            · exact hq
            · rw [List.getElem?_eq_none hq] at hv; cases hv
          exact ⟨v', by rw [hsame _ (by omega)]; exact p1, p2.mono le⟩
        · exact ORel.keep (s := s) le (by simp) (fun root hr k => by rwa [calm root hr] at k) (ht.keep _ hbj) Iff.rfl h2
  · rcases cases_ j m ej with ⟨rfl, rfl⟩ | ⟨hj, ej⟩
    · rw [getn] at ho1
      injection ho1 with ho1
      subst ho1
      rcases cases_ k n ek with ⟨e1, _⟩ | ⟨hk, ek⟩
      · exact absurd e1.symm hne
      · by_cases hki : k = i
        · subst hki
          rw [hi] at ek
          injection ek with ek
          subst ek
          refine ⟨_, _, rfl, geti, .inr ⟨rfl, rfl, fun _ => ?_⟩⟩
          simp only [List.length_take]
          omega
        · obtain ⟨r', g1, g2, g3, g4⟩ := mates k n hki ek (by rw [← hbjk, hb])
          refine ⟨_, r', rfl, by rw [getj k hk hki, g1], .inr ⟨g2, g3, fun q => ?_⟩⟩
          rw [calm _ hroot] at q
          have := g4 q
          simp only
          omega
    · by_cases hji : j = i
      · subst hji
        rw [geti] at ho1
        injection ho1 with ho1
        subst ho1
        simp [live] at hl1
      · rw [getj j hj hji] at ho1
        rcases cases_ k n ek with ⟨_, e2⟩ | ⟨hk, ek⟩
        · -- a live object beside the new one: it shared the block with i
          obtain ⟨r', g1, g2, _⟩ := mates j m hji ej (by rw [hbjk, e2, hb])
          rw [ho1] at g1
          injection g1 with g1
          subst g1
          simp [live, g2] at hl1
        · by_cases hki : k = i
          · subst hki
            obtain ⟨r', g1, g2, _⟩ := mates j m hji ej (by rw [hbjk]; rw [hi] at ek; injection ek with ek; rw [ek])
            rw [ho1] at g1
            injection g1 with g1
            subst g1
            simp [live, g2] at hl1
          · obtain ⟨r1, r', a, b, c⟩ := h.sep j k m n o1 ej ek hne hbjk ho1 hl1
            refine ⟨r1, r', a, by rw [getj k hk hki, b], c.imp id fun c => ⟨c.1, c.2.1, fun q => c.2.2 ?_⟩⟩
            have hr1 := h.root ej (a ▸ ho1) (by rw [a] at hl1; simpa [live] using hl1)
            rwa [calm _ hr1] at q

end Go.Proofs.YtckalckfihhldaaDoorF
