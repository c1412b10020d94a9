/- The abstract heap machine, part 20: a function told on plain data: readings, what is known of the memory. -/
import Derived.Test.YtckalckfihhldaaDoorF19
set_option linter.unusedVariables false
set_option linter.unusedSimpArgs false
namespace Go.Proofs.YtckalckfihhldaaDoorF
open Go

/-! ### Rows that keep what they hold -/
namespace St
/-- What a row shows, with the cells of an element. -/
def rc (s : St) (i : Nat) : Option (Nat × List Value) := match s.get i with
  | some (.row r) => if r.mode = .old then (if r.root < s.next ∧ s.calm r.root = true then some (r.esz, r.cs) else none) else some (r.esz, r.cs)
  | _ => none
theorem rc_cells {s : St} {i : Nat} {x : Nat × List Value} (h : s.rc i = some x) : s.cells i = some x.2 := by
  unfold rc at h
  unfold cells
  split at h
  · rename_i r hr
    rw [hr]
    dsimp only
    split at h
    · rename_i hm
      split at h
      · rename_i hc
        injection h with h
        subst h
        rw [hm]
        simp [hc.2]
      · cases h
    · rename_i hm
      injection h with h
      subst h
      cases hm' : r.mode <;> simp_all
  · cases h
theorem rc_row {s : St} {i : Nat} {x : Nat × List Value} (h : s.rc i = some x) : ∃ r, s.get i = some (.row r) ∧ r.esz = x.1 := by
  unfold rc at h
  split at h
  · rename_i r hr
    refine ⟨r, hr, ?_⟩
    split at h
    · split at h
      · injection h with h; subst h; rfl
      · cases h
    · injection h with h; subst h; rfl
  · cases h
end St
structure Kr (m : Nat) (s s' : St) : Prop where
  row : ∀ i x, i < m → s.rc i = some x → s'.rc i = some x
  calm : ∀ i, i < m → s.calm i = true → s'.calm i = true
theorem Kr.refl (m : Nat) (s : St) : Kr m s s := ⟨fun _ _ _ h => h, fun _ _ h => h⟩
theorem Kr.trans {m m' : Nat} {a b c : St} (h : Kr m a b) (k : Kr m' b c) (le : m ≤ m') : Kr m a c :=
  ⟨fun i x hi e => k.row i x (by omega) (h.row i x hi e), fun i hi e => k.calm i (by omega) (h.calm i hi e)⟩
theorem Kr.down {m m' : Nat} {a b : St} (h : Kr m a b) (le : m' ≤ m) : Kr m' a b := ⟨fun i x hi e => h.row i x (by omega) e, fun i hi e => h.calm i (by omega) e⟩
theorem Kr.of_get {s s' : St} (m : Nat) (hn : s.next ≤ s'.next) (h : ∀ i r, i < s.next → s.get i = some (.row r) → s'.get i = some (.row r)) (hm : m ≤ s.next) : Kr m s s' := by
  have hc : ∀ i, i < s.next → s.calm i = true → s'.calm i = true := fun i hi e => by
    unfold St.calm at e ⊢
    split at e
    · rename_i r hr; rw [h i r hi hr]; exact e
    · cases e
  refine ⟨fun i x hi e => ?_, fun i hi e => hc i (by omega) e⟩
  unfold St.rc at e ⊢
  split at e
  · rename_i r hr
    rw [h i r (by omega) hr]
    dsimp only
    split at e
    · rename_i h1
      rw [if_pos h1]
      split at e
      · rename_i h2
        rw [if_pos ⟨by omega, hc _ h2.1 h2.2⟩]
        exact e
      · cases e
    · rename_i h1
      rw [if_neg h1]
      exact e
  · cases e
theorem Kr.new {s : St} (m : Nat) (hm : m ≤ s.next) (o : AObj) : Kr m s (s.new o) :=
  Kr.of_get m (by simp) (fun i r hi e => by rw [St.get_new, if_neg (by omega)]; exact e) hm
theorem Kr.lows {m : Nat} {s s' : St} (h : Kr m s s') (a b : Nat) : Kr m s { s' with low := a, lowb := b } := ⟨fun i x hi e => h.row i x hi e, fun i hi e => h.calm i hi e⟩

/-! ### How data lie in cells -/
structure Rep (α : Type) where
  sz : Nat
  rel : St → α → List Value → Prop
  len : ∀ {s x cs}, rel s x cs → cs.length = sz
  oc : ∀ {s x cs}, rel s x cs → cs.all oc = true
  ext : ∀ {s s' x cs}, s.next ≤ s'.next → Kr s.next s s' → rel s x cs → rel s' x cs
def rI (k : IntKind) : Rep Int := ⟨1, fun _ x cs => cs = [.int k x], fun h => by subst h; rfl, fun h => by subst h; rfl, fun _ _ h => h⟩
def rB : Rep Bool := ⟨1, fun _ x cs => cs = [.bool x], fun h => by subst h; rfl, fun h => by subst h; rfl, fun _ _ h => h⟩
def rS : Rep ByteArray := ⟨1, fun _ x cs => cs = [.string x], fun h => by subst h; rfl, fun h => by subst h; rfl, fun _ _ h => h⟩
def rU : Rep Unit := ⟨0, fun _ _ cs => cs = [], fun h => by subst h; rfl, fun h => by subst h; rfl, fun _ _ h => h⟩
/-- Something of k cells that is told as one thing without parts. -/
def rX (k : Nat) : Rep Unit := ⟨k, fun _ _ cs => cs.length = k ∧ cs.all oc = true, fun h => h.1, fun h => h.2, fun _ _ h => h⟩
theorem rX_mk {k : Nat} {s : St} {cs : List Value} (h1 : cs.length = k) (h2 : cs.all oc = true) : (rX k).rel s () cs := ⟨h1, h2⟩
def rP {α β : Type} (a : Rep α) (b : Rep β) : Rep (α × β) where
  sz := a.sz + b.sz
  rel s x cs := ∃ c d, cs = c ++ d ∧ a.rel s x.1 c ∧ b.rel s x.2 d
  len := fun ⟨c, d, e, h, k⟩ => by subst e; rw [List.length_append, a.len h, b.len k]
  oc := fun ⟨c, d, e, h, k⟩ => by subst e; rw [List.all_append, a.oc h, b.oc k]; rfl
  ext := fun h1 h2 ⟨c, d, e, h, k⟩ => ⟨c, d, e, a.ext h1 h2 h, b.ext h1 h2 k⟩
def many {α : Type} (r : Rep α) (s : St) : List α → List Value → Prop
  | [], cs => cs = []
  | x :: xs, cs => ∃ c d, cs = c ++ d ∧ r.rel s x c ∧ many r s xs d
section
variable {α β : Type} {r : Rep α}
theorem many.nil {s : St} : many r s [] [] := rfl
theorem many.cons {s : St} {x : α} {xs : List α} {c d : List Value} (h : r.rel s x c) (k : many r s xs d) : many r s (x :: xs) (c ++ d) := ⟨c, d, rfl, h, k⟩
theorem many.one {s : St} {x : α} {c : List Value} (h : r.rel s x c) : many r s [x] c := ⟨c, [], by simp, h, rfl⟩
theorem many.len {s : St} : ∀ {xs : List α} {cs : List Value}, many r s xs cs → cs.length = xs.length * r.sz
  | [], cs, h => by have h : cs = [] := h; subst h; simp
  | x :: xs, cs, ⟨c, d, e, h, k⟩ => by subst e; rw [List.length_append, r.len h, k.len, List.length_cons, Nat.add_mul]; omega
theorem many.oc {s : St} : ∀ {xs : List α} {cs : List Value}, many r s xs cs → cs.all oc = true
  | [], cs, h => by have h : cs = [] := h; subst h; rfl
  | x :: xs, cs, ⟨c, d, e, h, k⟩ => by subst e; rw [List.all_append, r.oc h, k.oc]; rfl
theorem many.ext {s s' : St} (h1 : s.next ≤ s'.next) (h2 : Kr s.next s s') : ∀ {xs : List α} {cs : List Value}, many r s xs cs → many r s' xs cs
  | [], cs, h => h
  | x :: xs, cs, ⟨c, d, e, h, k⟩ => ⟨c, d, e, r.ext h1 h2 h, k.ext h1 h2⟩
theorem many.append {s : St} : ∀ {xs ys : List α} {cs ds : List Value}, many r s xs cs → many r s ys ds → many r s (xs ++ ys) (cs ++ ds)
  | [], ys, cs, ds, h, k => by have h : cs = [] := h; subst h; exact k
  | x :: xs, ys, cs, ds, ⟨c, d, e, h, k⟩, m => by subst e; exact ⟨c, d ++ ds, by simp, h, k.append m⟩
theorem many.get {s : St} : ∀ {xs : List α} {cs : List Value} (i : Nat) (x : α), many r s xs cs → xs[i]? = some x → r.rel s x ((cs.drop (i * r.sz)).take r.sz)
  | [], cs, i, x, h, e => by simp at e
  | y :: xs, cs, 0, x, ⟨c, d, e, h, k⟩, hx => by
    have hx : y = x := by simpa using hx
    subst e; subst hx
    simp only [Nat.zero_mul, List.drop_zero]
    rw [← r.len h, List.take_left]
    exact h
  | y :: xs, cs, i + 1, x, ⟨c, d, e, h, k⟩, hx => by
    subst e
    rw [Nat.add_mul, Nat.one_mul, Nat.add_comm, ← List.drop_drop, show List.drop r.sz (c ++ d) = d by rw [← r.len h, List.drop_left]]
    exact k.get i x (by simpa using hx)
theorem many.take {s : St} : ∀ {xs : List α} {cs : List Value} (i : Nat), many r s xs cs → many r s (xs.take i) (cs.take (i * r.sz))
  | [], cs, i, h => by have h : cs = [] := h; subst h; simp; rfl
  | y :: xs, cs, 0, _ => by simp; rfl
  | y :: xs, cs, i + 1, ⟨c, d, e, h, k⟩ => by
    subst e
    refine ⟨c, d.take (i * r.sz), ?_, h, k.take i⟩
    rw [Nat.add_mul, Nat.one_mul, List.take_append, List.take_of_length_le (by rw [r.len h]; omega), r.len h]
    congr 2
    omega
theorem many.drop {s : St} : ∀ {xs : List α} {cs : List Value} (i : Nat), many r s xs cs → many r s (xs.drop i) (cs.drop (i * r.sz))
  | [], cs, i, h => by have h : cs = [] := h; subst h; simp; rfl
  | y :: xs, cs, 0, h => by simpa using h
  | y :: xs, cs, i + 1, ⟨c, d, e, h, k⟩ => by
    subst e
    show many r s (xs.drop i) _
    rw [Nat.add_mul, Nat.one_mul, Nat.add_comm, ← List.drop_drop, show List.drop r.sz (c ++ d) = d by rw [← r.len h, List.drop_left]]
    exact k.drop i
theorem many.set {s : St} {x : α} {c : List Value} (hx : r.rel s x c) : ∀ {xs : List α} {cs : List Value} (i : Nat), i < xs.length → many r s xs cs → many r s (xs.set i x) (writeAt cs (i * r.sz) c)
  | [], cs, i, h, _ => by simp at h
  | y :: xs, cs, 0, _, ⟨c', d, e, h, k⟩ => by
    subst e
    refine ⟨c, d, ?_, hx, k⟩
    unfold writeAt
    simp only [Nat.zero_mul, List.take_zero, List.nil_append, Nat.zero_add]
    rw [r.len hx, ← r.len h, List.drop_left]
  | y :: xs, cs, i + 1, hi, ⟨c', d, e, h, k⟩ => by
    subst e
    refine ⟨c', writeAt d (i * r.sz) c, ?_, h, k.set hx i (by simpa using hi)⟩
    unfold writeAt
    have hl := r.len h
    rw [show (i + 1) * r.sz = c'.length + i * r.sz by rw [Nat.add_mul]; omega, List.take_length_add_append, show c'.length + i * r.sz + c.length = c'.length + (i * r.sz + c.length) by omega, List.drop_length_add_append]
    simp
end

/-- A slice that can be read. -/
def Sr {α : Type} (r : Rep α) (s : St) (A : Option Addr) (c : Nat) (xs : List α) : Prop :=
  xs.length ≤ c ∧ ((A = none ∧ xs = [] ∧ c = 0) ∨ ∃ i off z cs, A = some ⟨i, off, none⟩ ∧ i < s.next ∧ s.rc i = some (z, cs) ∧ (z = 0 ∨ z = r.sz) ∧ off + xs.length * r.sz ≤ cs.length ∧ many r s xs ((cs.drop off).take (xs.length * r.sz)))
section
variable {α : Type} {r : Rep α} {s s' : St} {A : Option Addr} {c : Nat} {xs : List α}
theorem Sr.ext (h1 : s.next ≤ s'.next) (h2 : Kr s.next s s') (h : Sr r s A c xs) : Sr r s' A c xs := by
  obtain ⟨h0, h⟩ := h
  refine ⟨h0, h.imp id ?_⟩
  rintro ⟨i, off, z, cs, e, g1, g2, g3, g4, g5⟩
  exact ⟨i, off, z, cs, e, by omega, h2.row i _ g1 g2, g3, g4, g5.ext h1 h2⟩
theorem Sr.nil : Sr r s none 0 [] := ⟨Nat.le_refl _, .inl ⟨rfl, rfl, rfl⟩⟩
end
def rL {α : Type} (r : Rep α) : Rep (List α) where
  sz := 1
  rel s xs cs := ∃ A c, cs = [.slice A xs.length c] ∧ Sr r s A c xs
  len := fun ⟨A, c, e, h⟩ => by subst e; rfl
  oc := fun ⟨A, c, e, h⟩ => by subst e; rfl
  ext := fun h1 h2 ⟨A, c, e, h⟩ => ⟨A, c, e, h.ext h1 h2⟩

theorem rI_elim {k : IntKind} {s : St} {x : Int} {cs : List Value} (h : (rI k).rel s x cs) : cs = [.int k x] := h
theorem rB_elim {s : St} {x : Bool} {cs : List Value} (h : rB.rel s x cs) : cs = [.bool x] := h
theorem rS_elim {s : St} {x : ByteArray} {cs : List Value} (h : rS.rel s x cs) : cs = [.string x] := h
theorem rU_elim {s : St} {x : Unit} {cs : List Value} (h : rU.rel s x cs) : cs = [] := h
theorem rP_elim {α β : Type} {a : Rep α} {b : Rep β} {s : St} {x : α × β} {cs : List Value} (h : (rP a b).rel s x cs) : ∃ c d, cs = c ++ d ∧ a.rel s x.1 c ∧ b.rel s x.2 d := h
theorem rL_elim {α : Type} {r : Rep α} {s : St} {xs : List α} {cs : List Value} (h : (rL r).rel s xs cs) : ∃ A c, cs = [.slice A xs.length c] ∧ Sr r s A c xs := h
theorem rI_mk {k : IntKind} {s : St} {x : Int} : (rI k).rel s x [.int k x] := rfl
theorem rB_mk {s : St} {x : Bool} : rB.rel s x [.bool x] := rfl
theorem rS_mk {s : St} {x : ByteArray} : rS.rel s x [.string x] := rfl
theorem rU_mk {s : St} {x : Unit} : rU.rel s x [] := rfl
theorem rP_mk {α β : Type} {a : Rep α} {b : Rep β} {s : St} {x : α} {y : β} {c d : List Value} (h : a.rel s x c) (k : b.rel s y d) : (rP a b).rel s (x, y) (c ++ d) := ⟨c, d, rfl, h, k⟩
theorem rL_mk {α : Type} {r : Rep α} {s : St} {xs : List α} {A : Option Addr} {c : Nat} (h : Sr r s A c xs) : (rL r).rel s xs [.slice A xs.length c] := ⟨A, c, rfl, h⟩

/-- Cells of an element of a row. -/
def Lo (s : St) (b o : Nat) (cs : List Value) : Prop := ∃ z ds, s.rc b = some (z, ds) ∧ b < s.next ∧ ∀ k v, cs[k]? = some v → ds[o + k]? = some v
theorem Lo.ext {s s' : St} {b o : Nat} {cs : List Value} (h1 : s.next ≤ s'.next) (h2 : Kr s.next s s') (h : Lo s b o cs) : Lo s' b o cs := by
  obtain ⟨z, ds, a, e, f⟩ := h
  exact ⟨z, ds, h2.row _ _ e a, by omega, f⟩
theorem Lo.at {s : St} {b o : Nat} {cs : List Value} (h : Lo s b o cs) (k : Nat) {v : Value} (hv : cs[k]? = some v) : At s b (o + k) v := by
  obtain ⟨z, ds, a, e, f⟩ := h
  unfold At St.cell
  rw [St.rc_cells a]
  exact f k v hv
theorem Sr.lo {α : Type} {r : Rep α} {s : St} {A : Option Addr} {c : Nat} {xs : List α} (h : Sr r s A c xs) {i : Int} (h0 : 0 ≤ i) {x : α} (hx : xs[i.toNat]? = some x) :
    ∃ b off cs, A = some ⟨b, off, none⟩ ∧ r.rel s x cs ∧ Lo s b (off + i.toNat * r.sz) cs := by
  have hi := (List.getElem?_eq_some_iff.1 hx).1
  obtain ⟨-, ⟨-, rfl, -⟩ | ⟨j, off, z, cs, rfl, g1, g2, g3, g4, g5⟩⟩ := h
  · simp at hi
  · refine ⟨j, off, _, rfl, g5.get _ _ hx, z, cs, g2, g1, fun k v hv => ?_⟩
    rw [List.getElem?_take] at hv
    split at hv
    · rw [List.getElem?_drop, List.getElem?_take] at hv
      split at hv
      · rw [List.getElem?_drop] at hv
        rw [← hv]
        congr 1
        omega
      · cases hv
    · cases hv
end Go.Proofs.YtckalckfihhldaaDoorF
