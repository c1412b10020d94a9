/- The abstract heap machine, part 18: slices that are read; loops. -/
import Derived.Test.YtckalckfihhldaaDoorF17
set_option linter.unusedVariables false
set_option linter.unusedSimpArgs false
namespace Go.Proofs.YtckalckfihhldaaDoorF
open Go

/-- A slice of these cells, 'sz' of them an element. -/
def Sl (s : St) (A : Option Addr) (n c sz : Nat) (cs : List Value) : Prop :=
  (A = none ∧ n = 0 ∧ c = 0 ∧ cs = []) ∨ ∃ i off o, A = some ⟨i, off, none⟩ ∧ s.get i = some o ∧ open_ o = true ∧ i < s.next ∧ off + n * sz ≤ o.cells.length ∧ cs = (o.cells.drop off).take (n * sz) ∧ n ≤ c
theorem Sl.length {s : St} {A : Option Addr} {n c sz : Nat} {cs : List Value} (h : Sl s A n c sz cs) : cs.length = n * sz := by
  rcases h with ⟨rfl, rfl, rfl, rfl⟩ | ⟨i, off, o, rfl, h1, h2, h3, h4, rfl, h5⟩
  · simp
  · simp; omega
theorem Sl.keep {s s' : St} {A : Option Addr} {n c sz m : Nat} {X : List Nat} {cs : List Value} (h : Sl s A n c sz cs) (k : Keep m X s s') (hA : ∀ i off, A = some ⟨i, off, none⟩ → i < m ∧ i ∉ X) : Sl s' A n c sz cs := by
  rcases h with h | ⟨i, off, o, rfl, h1, h2, h3, h4, h5, h6⟩
  · exact .inl h
  · obtain ⟨a, b⟩ := hA i off rfl
    exact .inr ⟨i, off, o, rfl, by rw [k.get i a b]; exact h1, h2, Nat.lt_of_lt_of_le h3 k.next, h4, h5, h6⟩
theorem Sl.ctx {s s' : St} {A : Option Addr} {n c sz : Nat} {L : List (Nat × AObj)} {cs : List Value} (h : Sl s A n c sz cs) (k : Ctx s.next [] s s' L) : Sl s' A n c sz cs := by
  rcases h with h | ⟨i, off, o, rfl, h1, h2, h3, h4, h5, h6⟩
  · exact .inl h
  · exact .inr ⟨i, off, o, rfl, by rw [k.keep.get i h3 (by simp)]; exact h1, h2, Nat.lt_of_lt_of_le h3 k.keep.next, h4, h5, h6⟩
theorem Ev.elt {s : St} {A : Option Addr} {n c sz : Nat} {cs : List Value} {i : Int} {K : Nat → Nat → Ans} {Q : Out → St → Prop} (h : Sl s A n c sz cs) (h0 : 0 ≤ i) (h1 : i < n) (hs : 0 < sz)
    (hK : ∀ b o, (∀ k v, k < sz → cs[i.toNat * sz + k]? = some v → At s b (o + k) v) → Ev (K b o) Q) : Ev (elt A n sz i K) Q := by
  unfold Go.Proofs.YtckalckfihhldaaDoorF.elt
  rw [if_pos h0, if_pos h1]
  rcases h with ⟨_, rfl, _⟩ | ⟨j, off, o, rfl, g1, g2, g3, g4, rfl, g6⟩
  · exact absurd h1 (by omega)
  · refine hK j (off + i.toNat * sz) fun k v hk hv => ?_
    unfold At St.cell
    rw [cells_of g1 g2]
    rw [List.getElem?_take] at hv
    split at hv
    · rw [List.getElem?_drop] at hv
      show o.cells[off + i.toNat * sz + k]? = some v
      rw [← hv]
      congr 1
      omega
    · cases hv

/-- What follows a round. -/
def kNext (body : Regs → St → Kont → Ans) (n : Nat) (K : Kont) : Kont := fun e g s => match e with
  | .normal => kloop body n g s K
  | .exit i => K (.exit i) g s
  | .ret => K .ret g s
  | .pan c => K (.pan c) g s
theorem kloop_succ (body : Regs → St → Kont → Ans) (n : Nat) (g : Regs) (s : St) (K : Kont) : kloop body (n + 1) g s K = body g s (kNext body n K) := rfl
theorem kNext_normal (body : Regs → St → Kont → Ans) (n : Nat) (K : Kont) (g : Regs) (s : St) : kNext body n K .normal g s = kloop body n g s K := rfl
theorem kNext_exit (body : Regs → St → Kont → Ans) (n : Nat) (K : Kont) (g : Regs) (s : St) (i : Nat) : kNext body n K (.exit i) g s = K (.exit i) g s := rfl
theorem kNext_ret (body : Regs → St → Kont → Ans) (n : Nat) (K : Kont) (g : Regs) (s : St) : kNext body n K .ret g s = K .ret g s := rfl
theorem kNext_pan (body : Regs → St → Kont → Ans) (n : Nat) (K : Kont) (g : Regs) (s : St) (c : List PanicEntry) : kNext body n K (.pan c) g s = K (.pan c) g s := rfl
end Go.Proofs.YtckalckfihhldaaDoorF
