/- A range over a function whose iterator keeps a variable of its own in a box. -/
import Derived.RangeFuncNested
import Derived.RangeFuncBound
import Derived.RangeFuncCalls
import Derived.RangeFuncLeaves
set_option linter.unusedVariables false
set_option linter.unusedSimpArgs false
namespace Go.Proofs.YtnkbddljndfpnaaDoorF
open Go Go.RowKit

/-- What an iterator of words x, y, .. owes a caller whose J it may not look into. Bs: the box that it writes. Kp: what a round keeps. -/
def Iter {α : Type} (P : Program) (n : Nat) (gf : Nat) (lb : Array Value) (encs : α → Array Value) (Bs : Nat) (Kp : World → World → Prop) (S : List α → Prop) (Ok : List α → Prop) (w0 : World) : Prop :=
  ∀ (l : Nat) (J Jx : List α → World → Prop) (W : World), Kp w0 W → (∀ xs W v, J xs W → J xs (W.setCell ⟨Bs, 0, none⟩ v)) → (∀ xs W o, J xs W → J xs (W.alloc o)) →
    (∀ pre x W1, J pre W1 → Ok (pre ++ [x]) → YieldAt Fence.wide (n - 1) P l (encs x) W1 fun e W' => (e = .returned (.bool true) ∧ J (pre ++ [x]) W' ∧ Kp W1 W') ∨ (e = .returned (.bool false) ∧ Jx (pre ++ [x]) W')) →
    J [] W → CallsIn Fence.wide n P gf (#[.func (.yield l) #[] #[]] ++ lb) W fun e W' => (∃ v, e = .returned v) ∧ ((∃ xs, S xs ∧ J xs W') ∨ ∃ pre, Jx pre W')

/-- How a round may be left. -/
def XPost {α : Type} (m : Nat) (Kp : World → World → Prop) (I Ix : List α → World → Prop) (xs : List α) (W : World) : Exit → Act → World → Prop
  | .normal, _, W' => (∀ k, m ≤ k → k < W.heap.size → W'.heap[k]? = W.heap[k]?) ∧ Kp W W' ∧ I xs W'
  | .ret, _, W' => (∀ k, m ≤ k → k < W.heap.size → W'.heap[k]? = W.heap[k]?) ∧ Ix xs W'
  | _, _, _ => False

section
variable {α : Type} {P : Program} {n : Nat}
theorem rangeX {g : Operand} {ps : Array Tmp} {assign body : Code} {Q : Exit → Act → World → Prop} {a : Act} {w : World} {gf : Nat} {lb : Array Value} (hg : a.eval g = .func (.func gf) #[] lb) (eg : ∀ args w, (callFunc gf args).run P w = .ok (.enter gf args) w)
    {encs : α → Array Value} (hps : ∀ x, (encs x).size = ps.size) {Bs : Nat} {Kp : World → World → Prop} {S : List α → Prop} {Ok : List α → Prop} (hit : Iter P (n - 1) gf lb encs Bs Kp S Ok w) (hBs : Bs < w.heap.size)
    (hKt : ∀ {A B C : World}, Kp A B → Kp B C → Kp A C) (hKo : ∀ W k o, w.heap.size ≤ k → Kp W (W.putObj k o)) (hKa : ∀ o o', Kp w ((w.alloc o).alloc o'))
    (I Ix : List α → World → Prop) (hIo : ∀ xs W k o, w.heap.size ≤ k → I xs W → I xs (W.putObj k o)) (hXo : ∀ xs W k o, w.heap.size ≤ k → Ix xs W → Ix xs (W.putObj k o)) (hIs : ∀ xs W v, I xs W → I xs (W.setCell ⟨Bs, 0, none⟩ v)) (hIi : ∀ xs W o, I xs W → I xs (W.alloc o))
    (h0 : ∀ o o', I [] ((w.alloc o).alloc o')) (a₁ : α → Act)
    (hassign : ∀ (l : Nat) (x : α) (W : World) (K : Act → World → Prop), K (a₁ x) W → assign.wpIn (Fence.wide.inRound l) (n - 1 - 1) P (Exit.then K (fun _ _ _ => False)) { tmps := (ps.zip (encs x)).foldl (fun t (p, v) => t.setIfInBounds p v) a.tmps, defers := [] } W)
    (hbody : ∀ (l : Nat) (pre : List α) (x : α) (W : World), w.heap.size ≤ l → I pre W → Ok (pre ++ [x]) → body.wpIn (Fence.wide.inRound l) (n - 1 - 1) P (XPost w.heap.size Kp I Ix (pre ++ [x]) W) (a₁ x) W)
    (hdone : ∀ (xs : List α) (W : World), S xs → I xs W → W.heap[w.heap.size]? = some (.deferred (some [])) → Q .normal { a with defers := { target := .collected w.heap.size, args := #[] } :: a.defers } W)
    (hstop : ∀ (pre : List α) (W : World), Ix pre W → W.heap[w.heap.size]? = some (.deferred (some [])) → Code.wpIn Fence.wide n P .ret Q { a with defers := { target := .collected w.heap.size, args := #[] } :: a.defers } W) :
    (Code.rangeFunc g ps assign body).wpIn Fence.wide n P Q a w := by
  refine wpIn_rangeFunc fun fn hfn => ?_
  have hro : Fence.wide.round = none := rfl
  rw [hro]
  -- the loop's record in its states
  let rec_ : LoopState → Option Code → Obj := fun st pe => .loop { state := st, pending := pe, fn, tmps := a.tmps, params := ps, assign, body, defers := w.heap.size }
  generalize hW1 : (w.alloc (.deferred (some []))).alloc (rec_ .ready none) = W1
  have s1 : W1.heap.size = w.heap.size + 2 := by rw [← hW1]; simp
  have l1 : W1.heap[w.heap.size + 1]? = some (rec_ .ready none) := by
    rw [← hW1]
    have := World.alloc_heap_new (w.alloc (.deferred (some []))) (rec_ .ready none)
    rwa [World.size_alloc] at this
  have d1 : W1.heap[w.heap.size]? = some (.deferred (some [])) := by
    rw [← hW1]
    exact (Below.heap_alloc _ _ _ (by simp)).trans (World.alloc_heap_new w _)
  refine ⟨w.heap.size + 1, [{ target := .collected w.heap.size, args := #[] }], W1, { target := .fn (.func gf) lb, args := #[.func (.yield (w.heap.size + 1)) #[] #[]] }, W1, gf, #[.func (.yield (w.heap.size + 1)) #[] #[]] ++ lb, W1, ?_, ?_, fun _ _ => trivial, ?_, (fun h => by cases h), ?_⟩
  · rw [← hW1]; exact run_enterLoop_outer _ _ _ _ _
  · simp only [resolve, hg]
    simp [go_sem]
  · simp [invoke, go_sem, eg]
  let J : List α → World → Prop := fun xs W => I xs W ∧ W.heap[w.heap.size + 1]? = some (rec_ .ready none) ∧ W.heap[w.heap.size]? = some (.deferred (some []))
  let Jx : List α → World → Prop := fun xs W => Ix xs W ∧ W.heap[w.heap.size + 1]? = some (rec_ .done (some .ret)) ∧ W.heap[w.heap.size]? = some (.deferred (some []))
  have set_ : ∀ (W : World) v k, k ≠ Bs → (W.setCell ⟨Bs, 0, none⟩ v).heap[k]? = W.heap[k]? := fun W v k hk => Below.heap_setCell _ _ _ k hk
  have iter_ : ∀ (W : World) o' k (o : Obj), W.heap[k]? = some o → (W.alloc o').heap[k]? = some o := fun W o' k o h => by
    have : k < W.heap.size := (Array.getElem?_eq_some_iff.1 h).1
    exact (Below.heap_alloc _ _ _ (by omega)).trans h
  refine (hit (w.heap.size + 1) J Jx W1 (by rw [← hW1]; exact hKa _ _) (fun xs W v h => ⟨hIs _ _ _ h.1, (set_ W v _ (by omega)).trans h.2.1, (set_ W v _ (by omega)).trans h.2.2⟩) (fun xs W o h => ⟨hIi _ _ _ h.1, iter_ _ _ _ _ h.2.1, iter_ _ _ _ _ h.2.2⟩) ?_ ⟨by rw [← hW1]; exact h0 _ _, l1, d1⟩).mono ?_
  · rintro pre x W ⟨hi, hl, hd⟩ hlen
    have hlt : w.heap.size + 1 < W.heap.size := (Array.getElem?_eq_some_iff.1 hl).1
    have hy := run_yield (P := P) (args := encs x) (r := { state := .ready, pending := none, fn, tmps := a.tmps, params := ps, assign, body, defers := w.heap.size }) hl (hps x)
    refine ⟨fn, _, assign, body, hy, roundIn_of_wpIn hfn (hassign _ x W _ ?_)⟩
    refine ⟨_, run_beginRound hl rfl, ?_⟩
    generalize hW2 : W.putObj (w.heap.size + 1) _ = W2
    have hl2 : W2.heap[w.heap.size + 1]? = some (rec_ .busy none) := by rw [← hW2]; exact World.putObj_heap_same hlt
    have hd2 : W2.heap[w.heap.size]? = some (.deferred (some [])) := by rw [← hW2]; exact (World.putObj_heap_other (by omega)).trans hd
    have hk2 : Kp W W2 := by rw [← hW2]; exact hKo _ _ _ (by omega)
    have hi2 : I pre W2 := by rw [← hW2]; exact hIo _ _ _ _ (by omega) hi
    have hs2 : W2.heap.size = W.heap.size := by rw [← hW2]; simp [World.putObj]
    refine wpIn_mono (hbody _ pre x W2 (by omega) hi2 hlen) ?_
    have fin : ∀ (jump : Option Code) (W3 : World), (∀ k, w.heap.size ≤ k → k < W2.heap.size → W3.heap[k]? = W2.heap[k]?) →
        ∃ W4, (Instr.endRound (w.heap.size + 1) jump).run P W3 = .ok (.bool jump.isNone) W4 ∧ W4 = W3.putObj (w.heap.size + 1) (rec_ (if jump.isNone then .ready else .done) jump) ∧
          W4.heap[w.heap.size + 1]? = some (rec_ (if jump.isNone then .ready else .done) jump) ∧ W4.heap[w.heap.size]? = some (.deferred (some [])) := fun jump W3 hk => by
      have l3 := (hk (w.heap.size + 1) (by omega) (by omega)).trans hl2
      have d3 := (hk w.heap.size (by omega) (by omega)).trans hd2
      exact ⟨_, run_endRound jump l3, rfl, World.putObj_heap_same (Array.getElem?_eq_some_iff.1 l3).1, (World.putObj_heap_other (by omega)).trans d3⟩
    rintro e a3 W3 hp
    cases e with
    | normal =>
      obtain ⟨hk, hkp, hi3⟩ := hp
      obtain ⟨W4, r4, rfl, l4, d4⟩ := fin none W3 hk
      exact ⟨_, _, r4, .inl ⟨rfl, ⟨hIo _ _ _ _ (by omega) hi3, l4, d4⟩, hKt hk2 (hKt hkp (hKo _ _ _ (by omega)))⟩⟩
    | ret =>
      obtain ⟨hk, hi3⟩ := hp
      obtain ⟨W4, r4, rfl, l4, d4⟩ := fin (some .ret) W3 hk
      exact ⟨_, _, r4, .inr ⟨rfl, hXo _ _ _ _ (by omega) hi3, l4, d4⟩⟩
    | exit id => exact hp.elim
    | goto t => exact hp.elim
    | panic ch => exact hp.elim
    | outgrown => exact hp.elim
  · rintro e W2 ⟨⟨v, rfl⟩, ⟨xs, hS, hi, hl, hd⟩ | ⟨pre, hi, hl, hd⟩⟩
    · exact ⟨none, _, run_endLoop hl (by simp), hdone xs _ hS (hIo _ _ _ _ (by omega) hi) ((World.putObj_heap_other (by omega)).trans hd)⟩
    · exact ⟨some .ret, _, run_endLoop hl (by simp), hstop pre _ (hXo _ _ _ _ (by omega) hi) ((World.putObj_heap_other (by omega)).trans hd)⟩
end
end Go.Proofs.YtnkbddljndfpnaaDoorF
