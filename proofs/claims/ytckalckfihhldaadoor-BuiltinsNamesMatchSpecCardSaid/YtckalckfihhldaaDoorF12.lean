/- The abstract heap machine, part 12: a call that only reads is taken back; an object that the world has not yet. -/
import Derived.Test.YtckalckfihhldaaDoorF11
set_option linter.unusedVariables false
set_option linter.unusedSimpArgs false
namespace Go.Proofs.YtckalckfihhldaaDoorF
open Go

mutual
theorem V.narrow {φ ψ : Phi} (le : Phi.le φ ψ) : ∀ {v x y : Value}, V φ v x → V ψ v y → V φ v y
  | _, _, _, .any v, k => .any _
  | _, _, _, .skip, k => by
    rw [k.skip_inv]
    exact .skip
  | v, _, y, .flat h, k => by
    have : VL ψ [v] [y] := .cons k .nil
    have e := this.flat_eq (by simpa using h)
    injection e with e
    rw [e]
    exact .flat h
  | _, _, _, .ptr h, k => by
    obtain ⟨l, hl, e⟩ := k.ptr_inv
    rw [le _ _ h] at hl
    injection hl with hl
    subst hl
    rw [e]
    exact .ptr h
  | _, _, _, .slice h h1 h2 h3, k => by
    rcases k.slice_inv with ⟨l, c', hl, a, b, c, e⟩ | ⟨l, b, hl, hn, hc, e⟩
    · rw [le _ _ h] at hl
      injection hl with hl
      subst hl
      rw [e]
      exact .slice h a b c
    · subst hn; subst hc; rw [e]; exact .slice0 h
  | _, _, _, .slice0 h, k => by
    rcases k.slice_inv with ⟨l, c', hl, a, b, c, e⟩ | ⟨l, b, hl, hn, hc, e⟩
    · rw [le _ _ h] at hl
      injection hl with hl
      subst hl
      rw [e]
      exact .slice h a b c
    · rw [e]; exact .slice0 h
  | _, _, _, .map (id := id) (l := l) h, k => by
    generalize hv : Value.map (some id) = v at k
    cases k with
    | map h' => injection hv with hv; injection hv with hv; subst hv; rw [le _ _ h] at h'; injection h' with h'; subst h'; exact .map h
    | flat hf => subst hv; cases (show false = true from hf)
    | _ => simp [undef, skipV] at hv
  | _, _, _, .func h k, k' => by
    obtain ⟨a', b', e, h', k'⟩ := k'.func_inv
    rw [e]
    exact .func (VL.narrow le h h') (VL.narrow le k k')
  | _, _, _, .iface h, k => by
    obtain ⟨x', e, h'⟩ := k.iface_inv
    rw [e]
    exact .iface (V.narrow le h h')
  | _, _, _, .agg h, k => by
    obtain ⟨a', e, h'⟩ := k.agg_inv
    rw [e]
    exact .agg (VL.narrow le h h')
  | _, _, _, .tuple (a := a) h, k => by
    by_cases he : a = #[]
    · subst he; exact .any _
    · obtain ⟨a', e, h'⟩ := k.tuple_inv he
      rw [e]
      exact .tuple (VL.narrow le h h')
theorem VL.narrow {φ ψ : Phi} (le : Phi.le φ ψ) : ∀ {v x y : List Value}, VL φ v x → VL ψ v y → VL φ v y
  | _, _, _, .nil, .nil => .nil
  | _, _, _, .cons h t, .cons h' t' => .cons (V.narrow le h h') (VL.narrow le t t')
end

theorem CellsIn.narrow {φ ψ : Phi} (le : Phi.le φ ψ) {cs : List Value} {c d : Array Value} {off : Nat} (h : CellsIn φ cs c off) (k : CellsIn ψ cs d off) : CellsIn φ cs d off :=
  ⟨k.fits, fun i v hv => let ⟨x, _, h2⟩ := h.cell i v hv; let ⟨y, k1, k2⟩ := k.cell i v hv; ⟨y, k1, h2.narrow le k2⟩⟩
theorem Has.narrow {φ ψ : Phi} (le : Phi.le φ ψ) {w w' : World} {l : Loc} {e : TypeId} {cs : List Value} (h : Has φ w l e cs) (k : Has ψ w' l e cs) : Has φ w' l e cs := by
  obtain ⟨c, _, _, h3⟩ := h
  obtain ⟨d, k1, k2, k3⟩ := k
  exact ⟨d, k1, k2, h3.narrow le k3⟩
theorem EsIn.narrow {φ ψ : Phi} (le : Phi.le φ ψ) : ∀ {es : List (Value × Value)} {l m : List MapEntry}, EsIn φ es l → EsIn ψ es m → EsIn φ es m
  | _, _, _, .nil, .nil => .nil
  | _, _, _, .cons _ hv t, .cons hk' hv' t' => .cons hk' (hv.narrow le hv') (EsIn.narrow le t t')

/-- What was there is as it was: a call that wrote nothing of it is taken back. -/
theorem R.back {φ ψ : Phi} {s s' : St} {w w' : World} {Own Own' : Nat → Prop} (h : R φ s w Own) (le : Phi.le φ ψ) (k : R ψ s' w' Own') (same : ∀ i, i < s.next → s'.get i = s.get i) : R φ s w' Own' := by
  have calm : ∀ root, root < s.next → s'.calm root = s.calm root := fun root hr => by unfold St.calm; rw [same root hr]
  refine ⟨h.top, h.dom, fun i l e => k.lt i l (le _ _ e), k.ltOwn, fun i l e => ?_, fun i j l m o ei ej hne hbl ho hl => ?_⟩
  · obtain ⟨o, h1, h2⟩ := h.obj i l e
    obtain ⟨o', k1, k2⟩ := k.obj i l (le _ _ e)
    rw [same i (h.dom i l e), h1] at k1
    injection k1 with k1
    subst k1
    refine ⟨o, h1, ?_⟩
    cases o with
    | row r =>
      cases hm : r.mode with
      | own =>
        rw [ORel.own hm] at h2 k2 ⊢
        exact ⟨k2.1, h2.2.1, h2.2.2.1, h2.2.2.2.narrow le k2.2.2.2⟩
      | old =>
        rw [ORel.old hm] at h2 k2 ⊢
        exact ⟨k2.1, h2.2.1, h2.2.2.1, fun hc => (h2.2.2.2 hc).narrow le (k2.2.2.2 (by rw [calm _ h2.2.1]; exact hc))⟩
      | foreign =>
        rw [ORel.foreign hm] at h2 k2 ⊢
        refine ⟨k2.1, h2.2.1, fun i v hv => ?_⟩
        obtain ⟨x, _, x2⟩ := h2.2.2 i v hv
        obtain ⟨y, y1, y2⟩ := k2.2.2 i v hv
        exact ⟨y, y1, x2.narrow le y2⟩
    | box e cs => exact ⟨k2.1, h2.2.1, h2.2.2.narrow le k2.2.2⟩
    | map es =>
      obtain ⟨_, es', clock, _, h3⟩ := h2
      obtain ⟨k1, es2, clock2, k2, k3⟩ := k2
      exact ⟨k1, es2, clock2, k2, h3.narrow le k3⟩
    | siter t p => exact k2
  · obtain ⟨r, r', a, b, c⟩ := k.sep i j l m o (le _ _ ei) (le _ _ ej) hne hbl (by rw [same i (h.dom i l ei)]; exact ho) hl
    rw [same j (h.dom j m ej)] at b
    refine ⟨r, r', a, b, c.imp id fun c => ⟨c.1, c.2.1, fun hc => c.2.2 ?_⟩⟩
    have hr := h.root ei (a ▸ ho) (by rw [a] at hl; simpa [live] using hl)
    rwa [calm _ hr]

/-- An object that nothing of the world stands for yet. -/
theorem R.phantom {φ : Phi} {s : St} {w : World} {Own : Nat → Prop} (h : R φ s w Own) (o : AObj) : R φ (s.new o) w Own := by
  refine ⟨h.top.new o, fun i l e => by have := h.dom i l e; simp; omega, h.lt, h.ltOwn, fun i l e => ?_, fun i j l m o' ei ej hne hbl ho hl => ?_⟩
  · obtain ⟨o', h1, h2⟩ := h.obj i l e
    have hi := h.dom i l e
    exact ⟨o', by rw [St.get_new, if_neg (by omega), h1], h2.keep (Phi.le_refl _) (by simp) (fun r hr hc => by rwa [calm_new hr] at hc) rfl Iff.rfl⟩
  · have hi := h.dom i l ei
    have hj := h.dom j m ej
    rw [St.get_new, if_neg (by omega)] at ho
    obtain ⟨r, r', a, b, c⟩ := h.sep i j l m o' ei ej hne hbl ho hl
    refine ⟨r, r', a, by rw [St.get_new, if_neg (by omega), b], c.imp id fun c => ⟨c.1, c.2.1, fun k => c.2.2 ?_⟩⟩
    have hr := h.root ei (a ▸ ho) (by rw [a] at hl; simpa [live] using hl)
    rwa [calm_new hr] at k

/-- Another world with the same blocks, and maybe more. -/
theorem R.world {φ : Phi} {s : St} {w w' : World} {Own : Nat → Prop} (h : R φ s w Own) (hs : w.heap.size ≤ w'.heap.size) (hk : ∀ k, k < w.heap.size → w'.heap[k]? = w.heap[k]?) : R φ s w' Own := by
  refine ⟨h.top, h.dom, fun i l e => Nat.lt_of_lt_of_le (h.lt i l e) hs, fun k e => Nat.lt_of_lt_of_le (h.ltOwn k e) hs, fun i l e => ?_, h.sep⟩
  obtain ⟨o, h1, h2⟩ := h.obj i l e
  exact ⟨o, h1, h2.keep (Phi.le_refl _) (Nat.le_refl _) (fun _ _ h => h) (hk _ (h.lt i l e)) Iff.rfl⟩

/-- The memory that holds nothing. -/
theorem R.bare (w : World) : R (fun _ => none) St.bare w (fun _ => False) :=
  { top := fun i _ => rfl, dom := fun _ _ e => (nomatch e), lt := fun _ _ e => (nomatch e), ltOwn := fun _ e => False.elim e, obj := fun _ _ e => (nomatch e), sep := fun _ _ _ _ _ e => (nomatch e) }
end Go.Proofs.YtckalckfihhldaaDoorF
