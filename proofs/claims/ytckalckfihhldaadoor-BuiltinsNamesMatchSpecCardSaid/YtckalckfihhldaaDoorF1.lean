/- The abstract heap machine, part 1: abstract objects, the relation between an abstract and a concrete memory. -/
import Derived.Calls
import Derived.Laws.Sem
import Derived.Laws.World
import Derived.Laws.Cells
import Derived.Laws.Rows
import Derived.Laws.CopyRow
import Derived.WalkKit
set_option linter.unusedVariables false
set_option linter.unusedSimpArgs false
namespace Go.Proofs.YtckalckfihhldaaDoorF
open Go

/-! ### 1. Numbers as lists of bits, tries -/
def bitsF : Nat → Nat → List Bool
  | 0, _ => []
  | f + 1, n => if n = 0 then [] else (n % 2 == 1) :: bitsF f (n / 2)
def bits (n : Nat) : List Bool := bitsF n n

theorem bitsF_inj : ∀ (f n g m : Nat), n ≤ f → m ≤ g → bitsF f n = bitsF g m → n = m
  | 0, n, g, m, hn, hm, h => by
    have : n = 0 := by omega
    subst this
    cases g with
    | zero => omega
    | succ g =>
      simp only [bitsF] at h
      split at h
      · omega
      · cases h
  | f + 1, n, g, m, hn, hm, h => by
    cases g with
    | zero =>
      have : m = 0 := by omega
      subst this
      simp only [bitsF] at h
      split at h
      · omega
      · cases h
    | succ g =>
      simp only [bitsF] at h
      split at h <;> split at h
      · omega
      · cases h
      · cases h
      · injection h with h1 h2
        have := bitsF_inj f (n / 2) g (m / 2) (by omega) (by omega) h2
        have h3 : (n % 2 == 1) = (m % 2 == 1) := h1
        have h4 : n % 2 = 1 ↔ m % 2 = 1 := by
          constructor
          · intro hh
            have : (n % 2 == 1) = true := by simp [hh]
            rw [h3] at this
            simpa using this
          · intro hh
            have : (m % 2 == 1) = true := by simp [hh]
            rw [← h3] at this
            simpa using this
        omega

theorem bits_inj {n m : Nat} (h : bits n = bits m) : n = m := bitsF_inj n n m m (Nat.le_refl _) (Nat.le_refl _) h

inductive T (α : Type) where
  | leaf
  | node (v : Option α) (l r : T α)

namespace T
variable {α : Type}
def get : T α → List Bool → Option α
  | leaf, _ => none
  | node v _ _, [] => v
  | node _ l r, b :: p => match b with | true => l.get p | false => r.get p
def set : T α → List Bool → α → T α
  | leaf, [], x => node (some x) leaf leaf
  | leaf, b :: p, x => match b with | true => node none (set leaf p x) leaf | false => node none leaf (set leaf p x)
  | node _ l r, [], x => node (some x) l r
  | node v l r, b :: p, x => match b with | true => node v (l.set p x) r | false => node v l (r.set p x)
theorem get_set : ∀ (p : List Bool) (t : T α) (q : List Bool) (x : α), (t.set p x).get q = if q = p then some x else t.get q
  | [], t, q, x => by
    cases t <;> cases q <;> simp [set, get]
    rename_i b q
    cases b <;> simp [get]
  | b :: p, t, q, x => by
    cases t with
    | leaf =>
      cases b <;> cases q with
      | nil => simp [set, get]
      | cons c q => cases c <;> simp [set, get, get_set p]
    | node v l r =>
      cases b <;> cases q with
      | nil => simp [set, get]
      | cons c q => cases c <;> simp [set, get, get_set p]
end T

/-! ### 2. Abstract objects and memories -/
inductive Mode where
  | own | old | foreign
  deriving DecidableEq
/-- A row of cells. 'root': the line of rows that were made of each other by append; 'stored' (of a root alone): one of the line was written, so that elder ones of the line cannot be read. 'esz': the cells of an element, where the row was made as a slice's; else 0. -/
structure Row where
  elem : TypeId
  cs : List Value
  mode : Mode
  root : Nat
  stored : Bool
  esz : Nat
inductive AObj where
  | row (r : Row)
  | box (elem : TypeId) (cs : List Value)
  | map (es : List (Value × Value))
  | siter (s : ByteArray) (pos : Nat)
/-- 'low': the least number of an object that was written since it was set last; 'lowb': the same, of boxes. -/
structure St where
  next : Nat
  low : Nat
  lowb : Nat
  tab : T AObj

namespace St
def get (s : St) (i : Nat) : Option AObj := s.tab.get (bits i)
def put (s : St) (i : Nat) (o : AObj) : St := { s with tab := s.tab.set (bits i) o }
def new (s : St) (o : AObj) : St := { s with next := s.next + 1, tab := s.tab.set (bits s.next) o }
theorem get_put (s : St) (i j : Nat) (o : AObj) : (s.put i o).get j = if j = i then some o else s.get j := by
  unfold get put
  simp only [T.get_set]
  by_cases h : j = i
  · simp [h]
  · rw [if_neg h, if_neg (fun e => h (bits_inj e))]
theorem get_new (s : St) (j : Nat) (o : AObj) : (s.new o).get j = if j = s.next then some o else s.get j := by
  unfold get new
  simp only [T.get_set]
  by_cases h : j = s.next
  · simp [h]
  · rw [if_neg h, if_neg (fun e => h (bits_inj e))]
@[simp] theorem next_put (s : St) (i : Nat) (o : AObj) : (s.put i o).next = s.next := rfl
@[simp] theorem next_new (s : St) (o : AObj) : (s.new o).next = s.next + 1 := rfl
def row? (s : St) (i : Nat) : Option Row := match s.get i with | some (.row r) => some r | _ => none
/-- A line's elder rows can be read. -/
def calm (s : St) (root : Nat) : Bool := match s.get root with | some (.row r) => !r.stored | _ => false
end St

/-! ### 3. Values -/
structure Loc where
  block : Nat
  off : Nat
  size : Nat
  esz : Nat
abbrev Phi := Nat → Option Loc
def Phi.le (φ ψ : Phi) : Prop := ∀ i l, φ i = some l → ψ i = some l
theorem Phi.le_refl (φ : Phi) : Phi.le φ φ := fun _ _ h => h
theorem Phi.le_trans {φ ψ χ : Phi} (h : Phi.le φ ψ) (k : Phi.le ψ χ) : Phi.le φ χ := fun i l e => k i l (h i l e)

/-- Values without addresses. -/
def flat : Value → Bool
  | .bool _ | .int _ _ | .float _ _ | .complex _ _ _ | .string _ | .pointer none | .slice none _ _ | .map none | .chan none | .nilFunc | .nilIface => true
  | _ => false

/-- What stands for a register of an operation that was passed over: it holds nothing. -/
def skipV : Value := .chan (some 0)
/-- Values of one cell. -/
def oc : Value → Bool
  | .agg _ | .tuple _ | .chan (some _) => false
  | _ => true
mutual
inductive V (φ : Phi) : Value → Value → Prop
  | any (v : Value) : V φ undef v
  | skip : V φ skipV undef
  | flat {v : Value} (h : flat v = true) : V φ v v
  | ptr {id off : Nat} {l : Loc} (h : φ id = some l) : V φ (.pointer (some ⟨id, off, none⟩)) (.pointer (some ⟨l.block, l.off + off, none⟩))
  | slice {id off n c c' : Nat} {l : Loc} (h : φ id = some l) (h1 : n ≤ c) (h2 : c ≤ c') (h3 : l.esz = 0 ∨ l.off + off + c' * l.esz ≤ l.size) :
      V φ (.slice (some ⟨id, off, none⟩) n c) (.slice (some ⟨l.block, l.off + off, none⟩) n c')
  | slice0 {id off : Nat} {l : Loc} {b : Addr} (h : φ id = some l) : V φ (.slice (some ⟨id, off, none⟩) 0 0) (.slice (some b) 0 0)
  | map {id : Nat} {l : Loc} (h : φ id = some l) : V φ (.map (some id)) (.map (some l.block))
  | func {fn : Fn} {a a' b b' : Array Value} (h : VL φ a.toList a'.toList) (k : VL φ b.toList b'.toList) : V φ (.func fn a b) (.func fn a' b')
  | iface {t : TypeId} {v v' : Value} (h : V φ v v') : V φ (.iface t v) (.iface t v')
  | agg {a a' : Array Value} (h : VL φ a.toList a'.toList) : V φ (.agg a) (.agg a')
  | tuple {a a' : Array Value} (h : VL φ a.toList a'.toList) : V φ (.tuple a) (.tuple a')
inductive VL (φ : Phi) : List Value → List Value → Prop
  | nil : VL φ [] []
  | cons {v v' : Value} {l l' : List Value} (h : V φ v v') (k : VL φ l l') : VL φ (v :: l) (v' :: l')
end

mutual
theorem V.mono {φ ψ : Phi} (le : Phi.le φ ψ) : ∀ {v v' : Value}, V φ v v' → V ψ v v'
  | _, _, .any v => .any v
  | _, _, .skip => .skip
  | _, _, .flat h => .flat h
  | _, _, .ptr h => .ptr (le _ _ h)
  | _, _, .slice h h1 h2 h3 => .slice (le _ _ h) h1 h2 h3
  | _, _, .slice0 h => .slice0 (le _ _ h)
  | _, _, .map h => .map (le _ _ h)
  | _, _, .func h k => .func (VL.mono le h) (VL.mono le k)
  | _, _, .iface h => .iface (V.mono le h)
  | _, _, .agg h => .agg (VL.mono le h)
  | _, _, .tuple h => .tuple (VL.mono le h)
theorem VL.mono {φ ψ : Phi} (le : Phi.le φ ψ) : ∀ {v v' : List Value}, VL φ v v' → VL ψ v v'
  | _, _, .nil => .nil
  | _, _, .cons h k => .cons (V.mono le h) (VL.mono le k)
end

theorem VL.length {φ : Phi} : ∀ {l l' : List Value}, VL φ l l' → l.length = l'.length
  | _, _, .nil => rfl
  | _, _, .cons _ k => congrArg (· + 1) (VL.length k)
theorem VL.get {φ : Phi} : ∀ {l l' : List Value}, VL φ l l' → ∀ (i : Nat) (v : Value), l[i]? = some v → ∃ v', l'[i]? = some v' ∧ V φ v v'
  | _, _, .nil, i, v, h => by simp at h
  | _, _, .cons h k, 0, v, e => by simp at e; subst e; exact ⟨_, rfl, h⟩
  | _, _, .cons h k, i + 1, v, e => by simpa using VL.get k i v (by simpa using e)
theorem VL.of_get {φ : Phi} : ∀ {l l' : List Value}, l.length = l'.length → (∀ (i : Nat) (v v' : Value), l[i]? = some v → l'[i]? = some v' → V φ v v') → VL φ l l'
  | [], [], _, _ => .nil
  | [], _ :: _, h, _ => by simp at h
  | _ :: _, [], h, _ => by simp at h
  | v :: l, v' :: l', h, k => .cons (k 0 v v' rfl rfl) (VL.of_get (by simpa using h) fun i a b ha hb => k (i + 1) a b (by simpa using ha) (by simpa using hb))
theorem VL.append {φ : Phi} : ∀ {l l' m m' : List Value}, VL φ l l' → VL φ m m' → VL φ (l ++ m) (l' ++ m')
  | _, _, _, _, .nil, k => k
  | _, _, _, _, .cons h t, k => .cons h (VL.append t k)
theorem VL.take {φ : Phi} : ∀ {l l' : List Value} (n : Nat), VL φ l l' → VL φ (l.take n) (l'.take n)
  | _, _, 0, _ => by simp; exact .nil
  | _, _, n + 1, .nil => by simp; exact .nil
  | _, _, n + 1, .cons h t => by simp; exact .cons h (VL.take n t)
theorem VL.drop {φ : Phi} : ∀ {l l' : List Value} (n : Nat), VL φ l l' → VL φ (l.drop n) (l'.drop n)
  | _, _, 0, h => by simpa using h
  | _, _, n + 1, .nil => by simp; exact .nil
  | _, _, n + 1, .cons h t => by simp; exact VL.drop n t
theorem VL.of_flat {φ : Phi} : ∀ {l : List Value}, (∀ v ∈ l, flat v = true) → VL φ l l
  | [], _ => .nil
  | v :: l, h => .cons (.flat (h v (by simp))) (VL.of_flat fun x hx => h x (by simp [hx]))
theorem VL.map_flat {φ : Phi} {α : Type} (f : α → Value) (h : ∀ x, flat (f x) = true) (l : List α) : VL φ (l.map f) (l.map f) :=
  VL.of_flat (by intro v hv; obtain ⟨x, _, rfl⟩ := List.mem_map.1 hv; exact h x)

/-! ### 4. Memories -/
theorem oc_one {v : Value} (h : oc v = true) : v.oneCell' = true := by
  cases v <;> first | rfl | (simp [oc] at h)
theorem V.oneCell {φ : Phi} {v v' : Value} (h : V φ v v') (k : oc v = true) : v'.oneCell' = true := by
  cases h <;> first | rfl | exact oc_one k | (simp [undef, oc, skipV] at k)

structure CellsIn (φ : Phi) (cs : List Value) (c : Array Value) (off : Nat) : Prop where
  fits : off + cs.length ≤ c.size
  cell : ∀ (i : Nat) (v : Value), cs[i]? = some v → ∃ v', c[off + i]? = some v' ∧ V φ v v'

def Has (φ : Phi) (w : World) (l : Loc) (e : TypeId) (cs : List Value) : Prop :=
  ∃ c, w.heap[l.block]? = some (.cells c e (0, 0)) ∧ c.size = l.size ∧ CellsIn φ cs c l.off

inductive EsIn (φ : Phi) : List (Value × Value) → List MapEntry → Prop
  | nil : EsIn φ [] []
  | cons {k v : Value} {e : MapEntry} {l : List (Value × Value)} {l' : List MapEntry} (hk : flat k = true ∧ e.key = k) (hv : V φ v e.val) (t : EsIn φ l l') : EsIn φ ((k, v) :: l) (e :: l')

def ORel (φ : Phi) (s : St) (w : World) (Own : Nat → Prop) (l : Loc) : AObj → Prop
  | .row r => match r.mode with
    | .own => Own l.block ∧ r.root < s.next ∧ r.esz = l.esz ∧ Has φ w l r.elem r.cs
    | .old => Own l.block ∧ r.root < s.next ∧ r.esz = l.esz ∧ (s.calm r.root = true → Has φ w l r.elem r.cs)
    | .foreign => ¬ Own l.block ∧ l.esz = 0 ∧ ∀ (i : Nat) (v : Value), r.cs[i]? = some v → ∃ v', w.cell? ⟨l.block, l.off + i, none⟩ = some v' ∧ V φ v v'
  | .box e cs => Own l.block ∧ l.esz = 0 ∧ Has φ w l e cs
  | .map es => Own l.block ∧ ∃ es' clock, w.heap[l.block]? = some (.map es' clock) ∧ EsIn φ es es'.toList
  | .siter s pos => Own l.block ∧ w.heap[l.block]? = some (.stringIter s pos) ∧ l.off = 0

def live : AObj → Bool
  | .row r => r.mode == .own
  | _ => true

def St.Top (s : St) : Prop := ∀ i, s.next ≤ i → s.get i = none
structure R (φ : Phi) (s : St) (w : World) (Own : Nat → Prop) : Prop where
  top : s.Top
  dom : ∀ i l, φ i = some l → i < s.next
  lt : ∀ i l, φ i = some l → l.block < w.heap.size
  ltOwn : ∀ k, Own k → k < w.heap.size
  obj : ∀ i l, φ i = some l → ∃ o, s.get i = some o ∧ ORel φ s w Own l o
  /-- A live object shares its block with elder rows of its line alone. -/
  sep : ∀ i j l m o, φ i = some l → φ j = some m → i ≠ j → l.block = m.block → s.get i = some o → live o = true →
    ∃ r r', o = .row r ∧ s.get j = some (.row r') ∧ (r'.mode = .foreign ∨ (r'.mode = .old ∧ r'.root = r.root ∧ (s.calm r.root = true → m.off + r'.cs.length ≤ l.off + r.cs.length)))

structure Fr (w w' : World) (Own Own' : Nat → Prop) : Prop where
  os : w'.os = w.os
  tape : w'.tape = w.tape
  output : w'.output = w.output
  size : w.heap.size ≤ w'.heap.size
  keep : ∀ k, k < w.heap.size → ¬ Own k → w'.heap[k]? = w.heap[k]?
  own : ∀ k, Own' k → Own k ∨ w.heap.size ≤ k
theorem Fr.refl (w : World) (Own : Nat → Prop) : Fr w w Own Own := ⟨rfl, rfl, rfl, Nat.le_refl _, fun _ _ _ => rfl, fun _ h => .inl h⟩
theorem Fr.trans {w w1 w2 : World} {O O1 O2 : Nat → Prop} (h : Fr w w1 O O1) (k : Fr w1 w2 O1 O2) : Fr w w2 O O2 := by
  refine ⟨k.os.trans h.os, k.tape.trans h.tape, k.output.trans h.output, Nat.le_trans h.size k.size, fun i hi ho => ?_, fun i hi => ?_⟩
  · rw [k.keep i (Nat.lt_of_lt_of_le hi h.size) (fun h1 => ?_), h.keep i hi ho]
    rcases h.own i h1 with h2 | h2
    · exact ho h2
    · omega
  · rcases k.own i hi with h1 | h1
    · exact h.own i h1
    · exact .inr (Nat.le_trans h.size h1)

end Go.Proofs.YtckalckfihhldaaDoorF
