/- The abstract heap machine, part 24: arguments read as plain data. -/
import Derived.Test.YtckalckfihhldaaDoorRows
import Derived.Test.YtckalckfihhldaaDoorF23
import Derived.WalkKit
import Derived.ProofKit
import Derived.OpenShut
import Derived.ShutString
import Derived.Below
import Derived.Deep.Slices
import Derived.HandedShaped
import Derived.JoinedCond
set_option linter.unusedVariables false
set_option linter.unusedSimpArgs false
namespace Go.Proofs.YtckalckfihhldaaDoorF
open Go Go.ChangeShapes Go.WideShapes Go.ChangeAt Go.RowKit
open Go.Proofs.YtckalckfihhldaaDoor.Rows (uptoBulk uptoBulkAll uptoSmall)

def noOwn : Nat → Prop := fun _ => False
/-- More is known of the same world. -/
structure Gs (φ : Phi) (s : St) (φ' : Phi) (s' : St) (W : World) : Prop where
  le : Phi.le φ φ'
  next : s.next ≤ s'.next
  kr : Kr s.next s s'
  get : ∀ i, i < s.next → s'.get i = s.get i
  rel : R φ' s' W noOwn
theorem Gs.refl {φ : Phi} {s : St} {W : World} (h : R φ s W noOwn) : Gs φ s φ s W := ⟨Phi.le_refl _, Nat.le_refl _, Kr.refl _ _, fun _ _ => rfl, h⟩
theorem Gs.trans {φ φ1 φ2 : Phi} {s s1 s2 : St} {W : World} (h : Gs φ s φ1 s1 W) (k : Gs φ1 s1 φ2 s2 W) : Gs φ s φ2 s2 W :=
  ⟨Phi.le_trans h.le k.le, Nat.le_trans h.next k.next, h.kr.trans k.kr h.next, fun i hi => by rw [k.get i (by have := h.next; omega), h.get i hi], k.rel⟩
/-- A row of another's. -/
theorem R.addForeign {φ : Phi} {s : St} {W : World} (h : R φ s W noOwn) (e : TypeId) (cs : List Value) (b off : Nat) (hb : b < W.heap.size) (hc : ∀ (i : Nat) (v : Value), cs[i]? = some v → ∃ v', W.cell? ⟨b, off + i, none⟩ = some v' ∧ V φ v v') :
    Gs φ s (Phi.put φ s.next ⟨b, off, 0, 0⟩) (s.new (.row { elem := e, cs := cs, mode := .foreign, root := s.next, stored := false, esz := 0 })) W := by
  have le := Phi.put_le ⟨b, off, 0, 0⟩ h.fresh
  have cases_ : ∀ i m, Phi.put φ s.next ⟨b, off, 0, 0⟩ i = some m → (i = s.next ∧ m = ⟨b, off, 0, 0⟩) ∨ (i ≠ s.next ∧ φ i = some m) := by
    intro i m e
    unfold Phi.put at e
    split at e
    · rename_i hi; injection e with e; exact .inl ⟨hi, e.symm⟩
    · rename_i hi; exact .inr ⟨hi, e⟩
  refine ⟨le, by simp, Kr.new _ (Nat.le_refl _) _, fun i hi => by rw [St.get_new, if_neg (by omega)], h.top.new _, fun i m e => ?_, fun i m e => ?_, fun k e => e.elim, fun i m e => ?_, fun i j m n o' ei ej hne hbl ho hl => ?_⟩
  · rcases cases_ i m e with ⟨rfl, _⟩ | ⟨_, e⟩
    · simp
    · have := h.dom i m e; simp; omega
  · rcases cases_ i m e with ⟨_, rfl⟩ | ⟨_, e⟩
    · exact hb
    · exact h.lt i m e
  · rcases cases_ i m e with ⟨rfl, rfl⟩ | ⟨hi, e⟩
    · refine ⟨_, by rw [St.get_new, if_pos rfl], ?_⟩
      rw [ORel.foreign rfl]
      refine ⟨id, rfl, fun i v hv => ?_⟩
      obtain ⟨v', a, b⟩ := hc i v hv
      exact ⟨v', a, b.mono le⟩
    · obtain ⟨o', h1, h2⟩ := h.obj i m e
      exact ⟨o', by rw [St.get_new, if_neg hi, h1], h2.keep le (by simp) (fun r hr hc => by rwa [calm_new hr] at hc) rfl Iff.rfl⟩
  · rcases cases_ i m ei with ⟨rfl, rfl⟩ | ⟨hi, ei⟩
    · rw [St.get_new, if_pos rfl] at ho
      injection ho with ho
      subst ho
      simp [live] at hl
    · rw [St.get_new, if_neg hi] at ho
      rcases cases_ j n ej with ⟨rfl, e2⟩ | ⟨hj, ej⟩
      · exfalso
        obtain ⟨o2, g1, g2⟩ := h.obj i m ei
        rw [ho] at g1
        injection g1 with g1
        subst g1
        cases o' with
        | row r =>
          have hm : r.mode = .own := by simpa [live] using hl
          exact ((ORel.own hm).1 g2).1
        | box e cs => exact g2.1
        | map es => exact g2.1
        | siter t p => exact g2.1
      · obtain ⟨r, r', a, b, c⟩ := h.sep i j m n o' ei ej hne hbl ho hl
        refine ⟨r, r', a, by rw [St.get_new, if_neg hj, b], c.imp id fun c => ⟨c.1, c.2.1, fun k => c.2.2 ?_⟩⟩
        have hr := h.root ei (a ▸ ho) (by rw [a] at hl; simpa [live] using hl)
        rwa [calm_new hr] at k

/-- Values of a type are read as data of this kind. -/
structure Rd (P : Program) (t : TypeId) {α : Type} (r : Rep α) (wf : α → Prop) (sz : α → Nat) : Prop where
  cells : P.cellsOf t = r.sz
  read : ∀ {H : Type} {enc : TypeId × Value → H} {W : World} {fuel : Nat} {cs : List Value} {x : DataW H × List MemPlace}, DataW.trod enc P W 0 (fun _ => true) true fuel t cs = some x → 0 < W.heap.size → ∀ φ s, R φ s W noOwn →
    ∃ φ' s' acs y, Gs φ s φ' s' W ∧ VL φ' acs cs ∧ r.rel s' y acs ∧ wf y ∧ sz y ≤ uptoBulk x.1
theorem VL.single {φ : Phi} {v : Value} (h : flat v = true) : VL φ [v] [v] := .cons (.flat h) .nil
theorem Rd.int {P : Program} {t : TypeId} {k : IntKind} (ht : P.underlying t = some (.int k)) (hc : P.cellsOf t = 1) : Rd P t (rI k) (fun n => (Lit.int k n).wf = true) (fun _ => 1) :=
  ⟨hc, fun h _ φ s hR => by
    obtain ⟨n, rfl, rfl, hw⟩ := DataW.trod_int ht h
    exact ⟨φ, s, _, n, Gs.refl hR, VL.single rfl, rI_mk, hw, by simp [uptoBulk]⟩⟩
theorem Rd.bool {P : Program} {t : TypeId} (ht : P.underlying t = some .bool) (hc : P.cellsOf t = 1) : Rd P t rB (fun _ => True) (fun _ => 1) :=
  ⟨hc, fun h _ φ s hR => by
    obtain ⟨n, rfl, rfl⟩ := DataW.trod_bool ht h
    exact ⟨φ, s, _, n, Gs.refl hR, VL.single rfl, rB_mk, trivial, by simp [uptoBulk]⟩⟩
theorem Rd.str {P : Program} {t : TypeId} (ht : P.underlying t = some .string) (hc : P.cellsOf t = 1) : Rd P t rS (fun b => b.size ≤ maxLen) (fun b => b.size + 1) :=
  ⟨hc, fun h _ φ s hR => by
    obtain ⟨n, rfl, rfl, hw⟩ := DataW.trod_string ht h
    refine ⟨φ, s, _, n, Gs.refl hR, VL.single rfl, rS_mk, hw, ?_⟩
    show n.size + 1 ≤ n.data.toList.length + 1
    rw [Array.length_toList]
    exact Nat.le_refl _⟩
/-- Fields from an offset on: (type, offset) each. -/
def RdF (P : Program) (off : Nat) (fs : List (TypeId × Nat)) {α : Type} (r : Rep α) (wf : α → Prop) (sz : α → Nat) : Prop :=
  ∀ {H : Type} {enc : TypeId × Value → H} {W : World} {n : Nat} {cs : List Value} {xs : List (DataW H × List MemPlace)}, fs.length = xs.length → (∀ (i : Nat) (f : TypeId × Nat), fs[i]? = some f → DataW.trod enc P W 0 (fun _ => true) true n f.1 ((cs.drop f.2).take (P.cellsOf f.1)) = xs[i]?) →
    0 < W.heap.size → ∀ φ s, R φ s W noOwn → ∃ φ' s' acs y, Gs φ s φ' s' W ∧ VL φ' acs ((cs.drop off).take r.sz) ∧ r.rel s' y acs ∧ wf y ∧ sz y ≤ uptoBulkAll (xs.map (·.1))
theorem RdF.one {P : Program} {off : Nat} {t : TypeId} {α : Type} {r : Rep α} {wf : α → Prop} {sz : α → Nat} (h : Rd P t r wf sz) : RdF P off [(t, off)] r wf sz := by
  intro H enc W n cs xs hl hx hW φ s hR
  match xs, hl with
  | [x], _ =>
    have := hx 0 (t, off) rfl
    dsimp only at this
    rw [h.cells] at this
    obtain ⟨φ', s', acs, y, g1, g2, g3, g4, g5⟩ := h.read this hW φ s hR
    exact ⟨φ', s', acs, y, g1, g2, g3, g4, by simpa [uptoBulkAll] using g5⟩
theorem RdF.cons {P : Program} {off : Nat} {t : TypeId} {fs : List (TypeId × Nat)} {α β : Type} {r : Rep α} {q : Rep β} {wf : α → Prop} {sz : α → Nat} {wf' : β → Prop} {sz' : β → Nat} (h : Rd P t r wf sz) (k : RdF P (off + r.sz) fs q wf' sz') :
    RdF P off ((t, off) :: fs) (rP r q) (fun x => wf x.1 ∧ wf' x.2) (fun x => sz x.1 + sz' x.2) := by
  intro H enc W n cs xs hl hx hW φ s hR
  match xs, hl with
  | x :: xs, hl =>
    have h0 := hx 0 (t, off) rfl
    dsimp only at h0
    rw [h.cells] at h0
    obtain ⟨φ1, s1, acs1, y1, g1, g2, g3, g4, g5⟩ := h.read h0 hW φ s hR
    obtain ⟨φ2, s2, acs2, y2, k1, k2, k3, k4, k5⟩ := k (enc := enc) (W := W) (n := n) (cs := cs) (xs := xs) (by simpa using hl) (fun i f' hf => hx (i + 1) f' hf) hW φ1 s1 g1.rel
    refine ⟨φ2, s2, acs1 ++ acs2, (y1, y2), g1.trans k1, ?_, rP_mk (r.ext k1.next k1.kr g3) k3, ⟨g4, k4⟩, ?_⟩
    · show VL φ2 _ ((cs.drop off).take (r.sz + q.sz))
      rw [List.take_add, List.drop_drop]
      exact (g2.mono k1.le).append k2
    · simp only [List.map_cons, uptoBulkAll]
      exact Nat.add_le_add g5 k5
theorem Rd.struct {P : Program} {t : TypeId} {l : List (TypeId × Nat)} {α : Type} {r : Rep α} {wf : α → Prop} {sz : α → Nat} (ht : P.underlying t = some (.struct (P.fieldsOf t))) (hl : (P.fieldsOf t).toList.map (fun f => (f.type, f.offset)) = l) (hc : P.cellsOf t = r.sz) (h : RdF P 0 l r wf sz) : Rd P t r wf sz :=
  ⟨hc, fun {H enc W fuel cs x} hx hW φ s hR => by
    subst hl
    obtain ⟨xs, n, rfl, rfl, hl, hlen, hf⟩ := DataW.trod_struct ht hx
    obtain ⟨φ', s', acs, y, g1, g2, g3, g4, g5⟩ := h (enc := enc) (W := W) (n := n) (cs := cs) (xs := xs) (by simpa using hlen.symm) (fun i f hf' => by
      rw [List.getElem?_map] at hf'
      cases hg : (P.fieldsOf t).toList[i]? with
      | none => rw [hg] at hf'; cases hf'
      | some q =>
        rw [hg] at hf'
        simp only [Option.map_some, Option.some.injEq] at hf'
        subst hf'
        exact hf i q (by simpa using hg)) hW φ s hR
    refine ⟨φ', s', acs, y, g1, ?_, g3, g4, ?_⟩
    · rw [List.drop_zero, List.take_of_length_le (by rw [hl, hc]; exact Nat.le_refl _)] at g2
      exact g2
    · simp only [uptoBulk]
      exact Nat.le_succ_of_le g5⟩
theorem cells_get {W : World} {a : Addr} {n : Nat} {cs : List Value} (h : W.cells? 0 a n = some cs) : cs.length = n ∧ ∀ i, i < n → ∀ v, cs[i]? = some v → W.cell? (a.add i) = some v := by
  obtain ⟨_, hl, hc⟩ := World.cells?_some h
  exact ⟨hl, fun i hi v hv => by
    have := hc i hi
    rw [List.getElem?_eq_getElem (by omega)] at hv
    injection hv with hv
    rw [this, ← hv]
    simp [List.getD_eq_getElem?_getD]⟩
/-- Elements of a row, one after the other. -/
theorem Rd.manyRead {P : Program} {e : TypeId} {α : Type} {r : Rep α} {wf : α → Prop} {sz : α → Nat} (he : Rd P e r wf sz) {H : Type} {enc : TypeId × Value → H} {W : World} {n : Nat} {a : Addr} (hW : 0 < W.heap.size) :
    ∀ (elems : List (DataW H × List MemPlace)) (j : Nat), (∀ i x, elems[i]? = some x → (W.cells? 0 (a.add ((j + i) * P.cellsOf e)) (P.cellsOf e)).bind (DataW.trod enc P W 0 (fun _ => true) true n e) = some x) → ∀ φ s, R φ s W noOwn →
      ∃ φ' s' acs ys, Gs φ s φ' s' W ∧ many r s' ys acs ∧ ys.length = elems.length ∧ (∀ y ∈ ys, wf y) ∧ (ys.map sz).sum ≤ uptoBulkAll (elems.map (·.1)) ∧ ∀ i v, acs[i]? = some v → ∃ v', W.cell? (a.add (j * r.sz + i)) = some v' ∧ V φ' v v'
  | [], j, h, φ, s, hR => ⟨φ, s, [], [], Gs.refl hR, rfl, rfl, by simp, by simp [uptoBulkAll], by simp⟩
  | x :: elems, j, h, φ, s, hR => by
    have h0 := h 0 x rfl
    rw [Nat.add_zero] at h0
    obtain ⟨cs, hcs, hx⟩ := Option.bind_eq_some_iff.1 h0
    obtain ⟨φ1, s1, acs1, y, g1, g2, g3, g4, g5⟩ := he.read hx hW φ s hR
    obtain ⟨φ2, s2, acs2, ys, k1, k2, k3, k4, k5, k6⟩ := Rd.manyRead he (enc := enc) (n := n) (a := a) hW elems (j + 1) (fun i x hx => by rw [show j + 1 + i = j + (i + 1) by omega]; exact h (i + 1) x hx) φ1 s1 g1.rel
    obtain ⟨hl, hc⟩ := cells_get hcs
    have hal : acs1.length = r.sz := r.len g3
    refine ⟨φ2, s2, acs1 ++ acs2, y :: ys, g1.trans k1, ⟨acs1, acs2, rfl, r.ext k1.next k1.kr g3, k2⟩, by simp [k3], ?_, ?_, ?_⟩
    · intro z hz
      rcases List.mem_cons.1 hz with rfl | hz
      · exact g4
      · exact k4 z hz
    · simp only [List.map_cons, List.sum_cons, uptoBulkAll]
      omega
    · intro i v hv
      by_cases hi : i < r.sz
      · rw [List.getElem?_append_left (by omega)] at hv
        obtain ⟨v', a1, a2⟩ := g2.get i v hv
        have := hc i (by rw [he.cells]; exact hi) v' a1
        rw [Go.Deep.add_add, he.cells] at this
        exact ⟨v', this, a2.mono k1.le⟩
      · rw [List.getElem?_append_right (by omega)] at hv
        obtain ⟨v', a1, a2⟩ := k6 _ v hv
        refine ⟨v', ?_, a2⟩
        rw [← a1]
        congr 2
        rw [Nat.add_mul]
        omega
theorem Rd.slice {P : Program} {t e : TypeId} {α : Type} {r : Rep α} {wf : α → Prop} {sz : α → Nat} (ht : P.underlying t = some (.slice e)) (hc : P.cellsOf t = 1) (hz : 0 < r.sz) (he : Rd P e r wf sz) : Rd P t (rL r) (fun ys => ∀ y ∈ ys, wf y) (fun ys => (ys.map sz).sum + 1) :=
  ⟨hc, fun {H enc W fuel cs x} hx hW φ s hR => by
    rcases DataW.trod_slice ht hx with ⟨rfl, rfl⟩ | ⟨a, len, cap, elems, rest, n, rfl, rfl, rfl, hb, hl, hm, hlen, hel, hsp, _⟩
    · exact ⟨φ, s, _, [], Gs.refl hR, VL.single rfl, rL_mk Sr.nil, by simp, by simp [uptoBulk]⟩
    · have hread : ∀ i x, elems[i]? = some x → (W.cells? 0 (a.add ((0 + i) * P.cellsOf e)) (P.cellsOf e)).bind (DataW.trod enc P W 0 (fun _ => true) true n e) = some x := fun i x hx => by
        rw [Nat.zero_add, hel i (by have := (List.getElem?_eq_some_iff.1 hx).1; omega), hx]
      obtain ⟨φ1, s1, acs, ys, k1, k2, k3, k4, k5, k6⟩ := Rd.manyRead he (enc := enc) hW elems 0 hread φ s hR
      have hbulk : (ys.map sz).sum + 1 ≤ uptoBulk (DataW.slice (elems.map (·.1)) (rest.map (·.1))) := by
        simp only [uptoBulk]
        omega
      have hal := k2.len
      by_cases hcap : cap = 0
      · have h0 : ys = [] := List.length_eq_zero_iff.1 (by omega)
        have hl0 : len = 0 := by omega
        subst h0
        have g := R.addForeign k1.rel e [] 0 0 hW (by simp)
        refine ⟨_, _, [.slice (some ⟨s1.next, 0, none⟩) 0 0], [], k1.trans g, ?_, ?_, by simp, hbulk⟩
        · rw [hcap, hl0]
          exact .cons (.slice0 (Phi.put_same ..)) .nil
        · exact rL_mk (xs := []) ⟨Nat.le_refl _, .inr ⟨s1.next, 0, 0, [], rfl, by simp, by unfold St.rc; rw [St.get_new, if_pos rfl]; rfl, .inl rfl, by simp, by simpa using (many.nil (r := r))⟩⟩
      · -- the address leads to cells
        have hcell0 : ∃ v, W.cell? (a.add 0) = some v := by
          have hfirst : ∃ cs', W.cells? 0 (a.add (0 * P.cellsOf e)) (P.cellsOf e) = some cs' := by
            by_cases hl0 : 0 < len
            · have := hel 0 hl0
              obtain ⟨y, hy⟩ : ∃ y, elems[0]? = some y := ⟨_, List.getElem?_eq_getElem (by omega)⟩
              rw [hy] at this
              obtain ⟨cs', h1, _⟩ := Option.bind_eq_some_iff.1 this
              exact ⟨cs', h1⟩
            · obtain ⟨hr1, hr2⟩ := hsp rfl
              have := hr2 0 (by omega)
              obtain ⟨y, hy⟩ : ∃ y, rest[0]? = some y := ⟨_, List.getElem?_eq_getElem (by omega)⟩
              rw [hy, show len + 0 = 0 by omega] at this
              obtain ⟨cs', h1, _⟩ := Option.bind_eq_some_iff.1 this
              exact ⟨cs', h1⟩
          obtain ⟨cs', hcs'⟩ := hfirst
          obtain ⟨q1, q2⟩ := cells_get hcs'
          have hpos : 0 < P.cellsOf e := by rw [he.cells]; exact hz
          have := q2 0 hpos _ (List.getElem?_eq_getElem (by omega))
          exact ⟨_, by simpa [Addr.add] using this⟩
        obtain ⟨b, off, spot⟩ := a
        obtain ⟨v0, hv0⟩ := hcell0
        have hspot : spot = none := by simpa [Addr.add] using World.cell?_spot hv0
        subst hspot
        rw [Go.WideShapes.add_plain] at hv0
        have hblk : b < W.heap.size := by
          simp only [World.cell?] at hv0
          rcases Nat.lt_or_ge b W.heap.size with h | h
          · exact h
          · rw [Array.getElem?_eq_none h] at hv0
            simp at hv0
        have g := R.addForeign k1.rel e acs b off hblk (fun i v hv => by
          obtain ⟨v', a1, a2⟩ := k6 i v hv
          rw [Go.WideShapes.add_plain, Nat.zero_mul, Nat.zero_add] at a1
          exact ⟨v', a1, a2⟩)
        refine ⟨_, _, [.slice (some ⟨s1.next, 0, none⟩) ys.length ys.length], ys, k1.trans g, ?_, ?_, k4, hbulk⟩
        · have hyl : ys.length = len := by omega
          rw [hyl]
          refine .cons ?_ .nil
          have := V.slice (φ := Phi.put φ1 s1.next ⟨b, off, 0, 0⟩) (id := s1.next) (off := 0) (n := len) (c := len) (c' := cap) (l := ⟨b, off, 0, 0⟩) (Phi.put_same ..) (Nat.le_refl _) hl (.inl rfl)
          simpa using this
        · refine rL_mk ⟨Nat.le_refl _, .inr ⟨s1.next, 0, 0, acs, rfl, by simp, by unfold St.rc; rw [St.get_new, if_pos rfl]; rfl, .inl rfl, by omega, ?_⟩⟩
          rw [List.drop_zero, List.take_of_length_le (by omega)]
          exact k2.ext g.next g.kr⟩
end Go.Proofs.YtckalckfihhldaaDoorF
