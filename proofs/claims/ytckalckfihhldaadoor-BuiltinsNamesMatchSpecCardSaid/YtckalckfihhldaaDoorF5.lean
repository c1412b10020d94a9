/- The abstract heap machine, part 5: what it means that an operation is told rightly; operations on numbers. -/
import Derived.Test.YtckalckfihhldaaDoorF4
import Derived.Laws.Entries
set_option linter.unusedVariables false
set_option linter.unusedSimpArgs false
namespace Go.Proofs.YtckalckfihhldaaDoorF
open Go

def Glob (E : Env) (φ : Phi) : Prop := ∀ b, E.glob b = true → ∃ l, φ b = some l ∧ l.block = b ∧ l.off = 0
theorem Glob.mono {E : Env} {φ ψ : Phi} (h : Glob E φ) (le : Phi.le φ ψ) : Glob E ψ := fun b hb => let ⟨l, h1, h2⟩ := h b hb; ⟨l, le _ _ h1, h2⟩

structure Rr (φ : Phi) (g : Regs) (t : Array Value) : Prop where
  len : g.length = t.size
  reg : ∀ i, V φ (g.getD i undef) (t.getD i undef)
theorem Rr.mono {φ ψ : Phi} {g : Regs} {t : Array Value} (h : Rr φ g t) (le : Phi.le φ ψ) : Rr ψ g t := ⟨h.len, fun i => (h.reg i).mono le⟩
theorem Rr.set {φ : Phi} {g : Regs} {t : Array Value} (h : Rr φ g t) (d : Nat) {v v' : Value} (hv : V φ v v') : Rr φ (g.set d v) (t.setIfInBounds d v') := by
  refine ⟨by simp [h.len], fun i => ?_⟩
  have := h.reg i
  simp only [List.getD_eq_getElem?_getD, Array.getD_eq_getD_getElem?] at this ⊢
  rw [List.getElem?_set, Array.getElem?_setIfInBounds]
  by_cases e : d = i
  · subst e
    rw [if_pos rfl, if_pos rfl, h.len]
    by_cases hd : d < t.size
    · rw [if_pos hd, if_pos hd]; exact hv
    · rw [if_neg hd, if_neg hd]; exact .any _
  · rw [if_neg e, if_neg e]; exact this
theorem Rr.put {φ : Phi} {g : Regs} {a : Act} (h : Rr φ g a.tmps) (d : Option Nat) {v v' : Value} (hv : V φ v v') : Rr φ (setDst g d v) (a.put d v').tmps := by
  cases d with
  | none => exact h
  | some d => exact h.set d hv

theorem ev_rel {E : Env} {φ : Phi} {g : Regs} {a : Act} (hg : Glob E φ) (h : Rr φ g a.tmps) (x : Operand) : V φ (ev E g x) (a.eval x) := by
  cases x with
  | tmp t => exact h.reg t
  | const v =>
    unfold ev
    dsimp only
    split
    · rename_i hf; exact .flat hf
    · exact .any _
  | global b =>
    unfold ev
    dsimp only
    split
    · rename_i hb
      obtain ⟨l, h1, h2, h3⟩ := hg b hb
      have : a.eval (.global b) = .pointer (some ⟨l.block, l.off + 0, none⟩) := by simp [Act.eval, h2, h3]
      rw [this]
      exact .ptr h1
    · exact .any _
  | func f => exact .func .nil .nil

section
variable {φ : Phi}
theorem V.int_inv {k : IntKind} {n : Int} {v' : Value} (h : V φ (.int k n) v') : v' = .int k n := by
  generalize hv : Value.int k n = v at h
  cases h <;> first | rfl | (simp [undef, skipV] at hv)
theorem V.skip_inv {v' : Value} (h : V φ skipV v') : v' = undef := by
  generalize hv : skipV = v at h
  cases h <;> first | rfl | (simp [undef, skipV] at hv; done) | (subst hv; rename_i hf; cases (show false = true from hf))
theorem V.bool_inv {b : Bool} {v' : Value} (h : V φ (.bool b) v') : v' = .bool b := by
  generalize hv : Value.bool b = v at h
  cases h <;> first | rfl | (simp [undef, skipV] at hv)
theorem V.string_inv {b : ByteArray} {v' : Value} (h : V φ (.string b) v') : v' = .string b := by
  generalize hv : Value.string b = v at h
  cases h <;> first | rfl | (simp [undef, skipV] at hv)
theorem V.agg_inv {a : Array Value} {v' : Value} (h : V φ (.agg a) v') : ∃ a', v' = .agg a' ∧ VL φ a.toList a'.toList := by
  generalize hv : Value.agg a = v at h
  cases h with
  | agg h => injection hv with hv; subst hv; exact ⟨_, rfl, h⟩
  | flat h => subst hv; cases (show false = true from h)
  | _ => simp [undef, skipV] at hv
theorem V.tuple_inv {a : Array Value} {v' : Value} (h : V φ (.tuple a) v') (hne : a ≠ #[]) : ∃ a', v' = .tuple a' ∧ VL φ a.toList a'.toList := by
  generalize hv : Value.tuple a = v at h
  cases h with
  | any => simp [undef, skipV] at hv; exact absurd hv hne
  | tuple h => injection hv with hv; subst hv; exact ⟨_, rfl, h⟩
  | flat h => subst hv; cases (show false = true from h)
  | _ => simp [skipV] at hv
theorem V.iface_inv {t : TypeId} {x v' : Value} (h : V φ (.iface t x) v') : ∃ x', v' = .iface t x' ∧ V φ x x' := by
  generalize hv : Value.iface t x = v at h
  cases h with
  | iface h => injection hv with h1 h2; subst h1; subst h2; exact ⟨_, rfl, h⟩
  | flat h => subst hv; cases (show false = true from h)
  | _ => simp [undef, skipV] at hv
theorem V.func_inv {fn : Fn} {a b : Array Value} {v' : Value} (h : V φ (.func fn a b) v') : ∃ a' b', v' = .func fn a' b' ∧ VL φ a.toList a'.toList ∧ VL φ b.toList b'.toList := by
  generalize hv : Value.func fn a b = v at h
  cases h with
  | func h k => injection hv with h1 h2 h3; subst h1; subst h2; subst h3; exact ⟨_, _, rfl, h, k⟩
  | flat h => subst hv; cases (show false = true from h)
  | _ => simp [undef, skipV] at hv
theorem V.ptr_inv {i off : Nat} {v' : Value} (h : V φ (.pointer (some ⟨i, off, none⟩)) v') : ∃ l, φ i = some l ∧ v' = .pointer (some ⟨l.block, l.off + off, none⟩) := by
  generalize hv : Value.pointer (some ⟨i, off, none⟩) = v at h
  cases h with
  | ptr h => injection hv with hv; injection hv with hv; injection hv with h1 h2; subst h1; subst h2; exact ⟨_, h, rfl⟩
  | flat h => subst hv; cases (show false = true from h)
  | _ => simp [undef, skipV] at hv
theorem V.slice_inv {i off n c : Nat} {v' : Value} (h : V φ (.slice (some ⟨i, off, none⟩) n c) v') :
    (∃ l c', φ i = some l ∧ n ≤ c ∧ c ≤ c' ∧ (l.esz = 0 ∨ l.off + off + c' * l.esz ≤ l.size) ∧ v' = .slice (some ⟨l.block, l.off + off, none⟩) n c') ∨ (∃ l b, φ i = some l ∧ n = 0 ∧ c = 0 ∧ v' = .slice (some b) 0 0) := by
  generalize hv : Value.slice (some ⟨i, off, none⟩) n c = v at h
  cases h with
  | slice h h1 h2 h3 => injection hv with hv e1 e2; injection hv with hv; injection hv with e3 e4; subst e1; subst e2; subst e3; subst e4; exact .inl ⟨_, _, h, h1, h2, h3, rfl⟩
  | slice0 h => injection hv with hv e1 e2; injection hv with hv; injection hv with e3 e4; subst e1; subst e2; subst e3; subst e4; exact .inr ⟨_, _, h, rfl, rfl, rfl⟩
  | flat h => subst hv; cases (show false = true from h)
  | _ => simp [undef, skipV] at hv
theorem V.nilslice_inv {v' : Value} {n c : Nat} (h : V φ (.slice none n c) v') : v' = .slice none n c := by
  generalize hv : Value.slice none n c = v at h
  cases h <;> first | rfl | (simp [undef, skipV] at hv)
/-- Any slice: its length, and whether it is nil. -/
theorem V.slice_any {A : Option Addr} {n c : Nat} {v' : Value} (h : V φ (.slice A n c) v') : ∃ A' c', v' = .slice A' n c' ∧ (A = none ↔ A' = none) := by
  generalize hv : Value.slice A n c = v at h
  cases h with
  | slice h h1 h2 h3 => injection hv with hv e1 e2; subst e1; subst hv; exact ⟨_, _, rfl, by simp⟩
  | slice0 h => injection hv with hv e1 e2; subst e1; subst hv; exact ⟨_, _, rfl, by simp⟩
  | flat h => subst hv; exact ⟨_, _, rfl, Iff.rfl⟩
  | _ => simp [undef, skipV] at hv
theorem VL.flat_eq : ∀ {l l' : List Value}, VL φ l l' → (∀ v ∈ l, flat v = true) → l' = l
  | _, _, .nil, _ => rfl
  | _, _, .cons (v := v) (v' := v') h k, hf => by
    have e : v' = v := by
      have hv := hf v (by simp)
      cases h <;> first | rfl | (simp [undef, skipV, flat] at hv)
    rw [e, VL.flat_eq k fun x hx => hf x (by simp [hx])]
end

def CR (φ : Phi) : List PanicEntry → List PanicEntry → Prop
  | [], [] => True
  | a :: l, b :: m => V φ a.v b.v ∧ a.recovered = b.recovered ∧ a.goexit = b.goexit ∧ CR φ l m
  | _, _ => False
theorem CR.mono {φ ψ : Phi} (le : Phi.le φ ψ) : ∀ {l m : List PanicEntry}, CR φ l m → CR ψ l m
  | [], [], _ => trivial
  | [], _ :: _, h => h.elim
  | _ :: _, [], h => h.elim
  | _ :: _, _ :: _, h => ⟨h.1.mono le, h.2.1, h.2.2.1, CR.mono le h.2.2.2⟩

section
variable (E : Env) (P : Program)
def OpSim (o : Oper) (g : Regs) (s : St) (v : Value) (s' : St) : Prop :=
  ∀ φ w Own (a : Act) (next : Act → World → Prop) (Q : Exit → Act → World → Prop), Glob E φ → R φ s w Own → Rr φ g a.tmps →
    (∀ φ' w' Own' v', Phi.le φ φ' → R φ' s' w' Own' → Fr w w' Own Own' → V φ' v v' → next (a.put o.dst v') w') → o.wp P a w next Q
def OpPan (o : Oper) (g : Regs) (s : St) (ch : List PanicEntry) (s' : St) : Prop :=
  ∀ φ w Own (a : Act) (next : Act → World → Prop) (Q : Exit → Act → World → Prop), Glob E φ → R φ s w Own → Rr φ g a.tmps →
    (∀ φ' w' Own' ch', Phi.le φ φ' → R φ' s' w' Own' → Fr w w' Own Own' → CR φ' ch ch' → Q (.panic ch') a w') → o.wp P a w next Q
def EndRel (φ : Phi) (out : Out) (e : Ending) : Prop :=
  match out with
  | .ret v => ∃ v', e = .returned v' ∧ V φ v v'
  | .pan ch => ∃ ch', e = .panicked ch' ∧ CR φ ch ch'
def CallSim (f : FuncId) (args : List Value) (s : St) (out : Out) (s' : St) : Prop :=
  ∀ φ w Own (args' : Array Value), Glob E φ → R φ s w Own → VL φ args args'.toList →
    Calls P f args' w fun e w' => ∃ φ' Own', Phi.le φ φ' ∧ R φ' s' w' Own' ∧ Fr w w' Own Own' ∧ EndRel φ' out e
end

section
variable {E : Env} {P : Program} {o : Oper} {g : Regs} {s s' : St} {v : Value}
theorem OpSim.of_run (h : ∀ φ w Own (a : Act), Glob E φ → R φ s w Own → Rr φ g a.tmps →
    ∃ φ' w' Own' v', (execOp a.eval o).run P w = .ok (.value v') w' ∧ Phi.le φ φ' ∧ R φ' s' w' Own' ∧ Fr w w' Own Own' ∧ V φ' v v') : OpSim E P o g s v s' := by
  intro φ w Own a next Q hg hR hr hn
  obtain ⟨φ', w', Own', v', h1, h2, h3, h4, h5⟩ := h φ w Own a hg hR hr
  unfold Oper.wp
  rw [h1]
  exact hn φ' w' Own' v' h2 h3 h4 h5
theorem OpSim.of_skip (h : ∀ φ w Own (a : Act), Glob E φ → R φ s w Own → Rr φ g a.tmps →
    ∃ φ' w' Own', (execOp a.eval o).run P w = .ok .skip w' ∧ Phi.le φ φ' ∧ R φ' s' w' Own' ∧ Fr w w' Own Own') : OpSim E P o g s undef s' := by
  intro φ w Own a next Q hg hR hr hn
  obtain ⟨φ', w', Own', h1, h2, h3, h4⟩ := h φ w Own a hg hR hr
  unfold Oper.wp
  rw [h1]
  exact hn φ' w' Own' undef h2 h3 h4 (.any _)
theorem OpSim.of_pure (h : ∀ φ w Own (a : Act), Glob E φ → R φ s w Own → Rr φ g a.tmps →
    ∃ v', (execOp a.eval o).run P w = .ok (.value v') w ∧ V φ v v') : OpSim E P o g s v s :=
  OpSim.of_run fun φ w Own a hg hR hr => let ⟨v', h1, h2⟩ := h φ w Own a hg hR hr; ⟨φ, w, Own, v', h1, Phi.le_refl _, hR, Fr.refl w Own, h2⟩

/-- An object that nothing of the world stands for yet; no line that is known was begun by it. -/
structure Ph (φ : Phi) (s : St) (p : Nat) : Prop where
  lt : p < s.next
  no : φ p = none
  line : ∀ i l r, φ i = some l → s.get i = some (.row r) → r.mode = .own → r.root ≠ p
theorem Ph.phantom {φ : Phi} {s : St} {w : World} {Own : Nat → Prop} {p : Nat} (h : Ph φ s p) (hR : R φ s w Own) (obj : AObj) : Ph φ (s.new obj) p := by
  refine ⟨by have := h.lt; simp; omega, h.no, fun i l r hi hg hm => ?_⟩
  have := hR.dom i l hi
  rw [St.get_new, if_neg (by omega)] at hg
  exact h.line i l r hi hg hm
theorem Ph.made {φ : Phi} {s : St} {w : World} {Own : Nat → Prop} (hR : R φ s w Own) (obj : AObj) : Ph φ (s.new obj) s.next := by
  refine ⟨by simp, hR.fresh, fun i l r hi hg hm => ?_⟩
  have := hR.dom i l hi
  rw [St.get_new, if_neg (by omega)] at hg
  have := hR.root hi hg hm
  omega
theorem Ph.stir {φ : Phi} {s : St} {p root : Nat} (h : Ph φ s p) (hr : root ≠ p) : Ph φ (s.stir root) p ∧ (s.stir root).get p = s.get p := by
  refine ⟨⟨by rw [St.stir_next]; exact h.lt, h.no, fun i l r hi hg hm => ?_⟩, ?_⟩
  · rcases St.stir_get s root i with e | ⟨q, e1, e2⟩
    · rw [e] at hg; exact h.line i l r hi hg hm
    · rw [e2] at hg
      injection hg with hg
      injection hg with hg
      subst hg
      exact h.line i l q hi e1 hm
  · unfold St.stir
    split
    · rw [St.get_put, if_neg (Ne.symm hr)]
    · rfl
theorem Ph.retire {φ : Phi} {s : St} {p id : Nat} {l : Loc} {q : Row} (h : Ph φ s p) (hi : φ id = some l) (hm : q.mode ≠ .own) : Ph φ (s.put id (.row q)) p ∧ (s.put id (.row q)).get p = s.get p := by
  have hne : p ≠ id := fun e => by have := h.no; rw [e, hi] at this; cases this
  refine ⟨⟨h.lt, h.no, fun i l r hi' hg hm' => ?_⟩, by rw [St.get_put, if_neg hne]⟩
  rw [St.get_put] at hg
  split at hg
  · injection hg with hg
    injection hg with hg
    subst hg
    exact absurd hm' hm
  · exact h.line i l r hi' hg hm'
theorem Ph.new {φ : Phi} {s : St} {p : Nat} (h : Ph φ s p) (hd : ∀ i l, φ i = some l → i < s.next) (r : Row) (hr : r.root ≠ p) (l : Loc) : Ph (Phi.put φ s.next l) (s.new (.row r)) p ∧ (s.new (.row r)).get p = s.get p := by
  have hlt := h.lt
  refine ⟨⟨by simp; omega, by unfold Phi.put; rw [if_neg (by omega)]; exact h.no, fun i m q hi hg hm => ?_⟩, by rw [St.get_new, if_neg (by omega)]⟩
  unfold Phi.put at hi
  split at hi
  · rename_i e
    rw [St.get_new, if_pos e] at hg
    injection hg with hg
    injection hg with hg
    subst hg
    exact hr
  · have := hd i m hi
    rw [St.get_new, if_neg (by omega)] at hg
    exact h.line i m q hi hg hm
/-- An operation that leaves objects alone that the world has not yet. -/
def AppSim (E : Env) (P : Program) (o : Oper) (g : Regs) (s : St) (v : Value) (s' : St) : Prop :=
  ∀ φ w Own (a : Act) (next : Act → World → Prop) (Q : Exit → Act → World → Prop), Glob E φ → R φ s w Own → Rr φ g a.tmps →
    (∀ φ' w' Own' v', Phi.le φ φ' → R φ' s' w' Own' → Fr w w' Own Own' → V φ' v v' → (∀ p, Ph φ s p → Ph φ' s' p ∧ s'.get p = s.get p) → next (a.put o.dst v') w') → o.wp P a w next Q
theorem AppSim.sim (h : AppSim E P o g s v s') : OpSim E P o g s v s' := fun φ w Own a next Q hg hR hr hn => h φ w Own a next Q hg hR hr fun φ' w' Own' v' a b c d _ => hn φ' w' Own' v' a b c d
theorem AppSim.of_run (h : ∀ φ w Own (a : Act), Glob E φ → R φ s w Own → Rr φ g a.tmps →
    ∃ φ' w' Own' v', (execOp a.eval o).run P w = .ok (.value v') w' ∧ Phi.le φ φ' ∧ R φ' s' w' Own' ∧ Fr w w' Own Own' ∧ V φ' v v' ∧ ∀ p, Ph φ s p → Ph φ' s' p ∧ s'.get p = s.get p) : AppSim E P o g s v s' := by
  intro φ w Own a next Q hg hR hr hn
  obtain ⟨φ', w', Own', v', h1, h2, h3, h4, h5, h6⟩ := h φ w Own a hg hR hr
  unfold Oper.wp
  rw [h1]
  exact hn φ' w' Own' v' h2 h3 h4 h5 h6

/-- An operation that neither reads nor writes memory. -/
def PureSim (E : Env) (P : Program) (o : Oper) (g : Regs) (v : Value) : Prop := ∀ φ (w : World) (a : Act), Glob E φ → Rr φ g a.tmps → ∃ v', (execOp a.eval o).run P w = .ok (.value v') w ∧ V φ v v'
/-- An operation that reads memory and leaves it. -/
def RdSim (E : Env) (P : Program) (o : Oper) (g : Regs) (s : St) (v : Value) : Prop := ∀ φ w Own (a : Act), Glob E φ → R φ s w Own → Rr φ g a.tmps → ∃ v', (execOp a.eval o).run P w = .ok (.value v') w ∧ V φ v v'
theorem RdSim.sim (h : RdSim E P o g s v) : OpSim E P o g s v s := OpSim.of_pure h
theorem PureSim.rd (h : PureSim E P o g v) : RdSim E P o g s v := fun φ w _ a hg _ hr => h φ w a hg hr
theorem PureSim.sim (h : PureSim E P o g v) : OpSim E P o g s v s := OpSim.of_pure fun φ w _ a hg _ hr => h φ w a hg hr

/-- An operation that computes a value. -/
theorem run_v {x : Sem Value} {w w' : World} {v' : Value} (h : x.run P w = .ok v' w') : (do pure (Next.value (← x)) : Sem Next).run P w = .ok (.value v') w' := by
  rw [Sem.run_bind, h]
  rfl
theorem run_u {x : Sem Unit} {w w' : World} (h : x.run P w = .ok () w') : (do x; pure Next.skip : Sem Next).run P w = .ok .skip w' := by
  rw [Sem.run_bind, h]
  rfl

/-! ### Binary operations -/
def fitsL : List CK → List Value → Bool
  | [], [] => true
  | .bool :: ks, .bool _ :: vs => fitsL ks vs
  | .int k :: ks, .int k' _ :: vs => decide (k' = k) && fitsL ks vs
  | .str :: ks, .string _ :: vs => fitsL ks vs
  | _, _ => false
def scalars (ks : List CK) : Bool := ks.all fun | .bool | .int _ | .str => true | _ => false
theorem fitsL_flat : ∀ {ks : List CK} {vs : List Value}, fitsL ks vs = true → ∀ v ∈ vs, flat v = true
  | [], [], _ => by simp
  | [], _ :: _, h => by simp [fitsL] at h
  | k :: ks, vs, h => by
    unfold fitsL at h
    split at h
    · simp_all
    · rename_i e2
      injection e2 with _ e1
      subst e1
      intro x hx
      rcases List.mem_cons.1 hx with rfl | hx
      · rfl
      · exact fitsL_flat h x hx
    · rename_i e2
      injection e2 with _ e1
      subst e1
      intro x hx
      rcases List.mem_cons.1 hx with rfl | hx
      · rfl
      · exact fitsL_flat (by simpa using (Bool.and_eq_true _ _ ▸ h).2) x hx
    · rename_i e2
      injection e2 with _ e1
      subst e1
      intro x hx
      rcases List.mem_cons.1 hx with rfl | hx
      · rfl
      · exact fitsL_flat h x hx
    · cases h
theorem shapeL_fits {α : Type} {r : α} : ∀ {ks : List CK} {vs : List Value} {K : List Value → Option α}, scalars ks = true → shapeL ks vs K = some r → fitsL ks vs = true
  | [], vs, K, _, h => by
    unfold shapeL at h
    split at h
    · rfl
    · cases h
  | k :: ks, vs, K, hs, h => by
    unfold shapeL at h
    split at h
    · cases h
    · rename_i v vs
      have hs' : scalars ks = true := by simp only [scalars, List.all_cons, Bool.and_eq_true] at hs ⊢; exact hs.2
      have h2 := shapeL_fits (K := fun l => K (_ :: l)) hs' (shape1_sound h)
      cases k with
      | bool => unfold shape1 at h; dsimp only at h; split at h <;> first | (simpa [fitsL] using h2) | cases h
      | int k =>
        unfold shape1 at h
        dsimp only at h
        split at h
        · split at h
          · rename_i e; subst e; simpa [fitsL] using h2
          · cases h
        · cases h
      | str => unfold shape1 at h; dsimp only at h; split at h <;> first | (simpa [fitsL] using h2) | cases h
      | slice => simp [scalars] at hs
      | ptr => simp [scalars] at hs
      | other => simp [scalars] at hs

/-- '==' and '!=' of structs of these types compare their cells. -/
def Env.EqOk (E : Env) (P : Program) : Prop := ∀ t ks, E.eqs t = some ks → scalars ks = true ∧ ∀ (x y : Operand) (a b : Array Value) (w : World), fitsL ks a.toList = true → fitsL ks b.toList = true →
  ((do eqGuard .eql t x y (.agg a) (.agg b); binOp .eql t (.agg a) (.agg b) : Sem Value).run P w = .ok (.bool (eqL a.toList b.toList)) w ∧
   (do eqGuard .neq t x y (.agg a) (.agg b); binOp .neq t (.agg a) (.agg b) : Sem Value).run P w = .ok (.bool !(eqL a.toList b.toList)) w)

theorem run_eqGuard_plain (op : BinOp) (t : TypeId) (x y : Operand) (a b : Value) (w : World) (ha : (match a with | .agg _ | .nilIface => false | _ => true) = true) : (eqGuard op t x y a b).run P w = .ok () w := by
  unfold eqGuard
  cases a <;> simp_all <;> (split <;> rfl)

theorem run_equal_bool {t : TypeId} (hu : P.underlying t = some .bool) (a b : Bool) (w : World) : (Op.equal t (.bool a) (.bool b)).run P w = .ok (a == b) w := by
  unfold Op.equal
  rw [show Op.maxDepth = 9999 + 1 from rfl, Op.equalIn, Sem.run_bind, run_underlying hu]
  rfl

theorem kbin_sim {op : BinOp} {t u : TypeId} {x y : Operand} {K : Value → Ans} {r : Out × St} (hE : E.Ok P) (hq : E.EqOk P) (ho : o.op = .binOp op t x y u) (h : kbin E op t (ev E g x) (ev E g y) K = some r) :
    ∃ v, K v = some r ∧ PureSim E P o g v := by
  have pure_ : ∀ v, (∀ φ (a : Act) (w : World), V φ (ev E g x) (a.eval x) → V φ (ev E g y) (a.eval y) → (do eqGuard op t x y (a.eval x) (a.eval y); binOp op t (a.eval x) (a.eval y) : Sem Value).run P w = .ok v w) → flat v = true → PureSim E P o g v := by
    intro v hv hf
    refine fun φ w a hg hr => ⟨v, ?_, .flat hf⟩
    have := run_v (hv φ a w (ev_rel hg hr x) (ev_rel hg hr y))
    simpa only [execOp, ho] using this
  generalize hx : ev E g x = vx at h pure_
  generalize hy : ev E g y = vy at h pure_
  unfold kbin at h
  split at h
  · rename_i k a k' b
    have plain : ∀ v, (∀ w : World, (binOp op t (.int k a) (.int k' b)).run P w = .ok v w) → flat v = true → PureSim E P o g v := by
      intro v hv hf
      refine pure_ v (fun φ A w h1 h2 => ?_) hf
      rw [h1.int_inv, h2.int_inv, Sem.run_bind, run_eqGuard_plain _ _ _ _ _ _ _ rfl]
      exact hv w
    split at h
    · split at h
      · cases h
      · rename_i hb
        exact ⟨_, h, plain _ (fun w => by simp [binOp, Op.shift, hb]) rfl⟩
    · split at h
      · cases h
      · rename_i hb
        exact ⟨_, h, plain _ (fun w => by simp [binOp, Op.shift, hb]) rfl⟩
    · split at h
      · rename_i hk
        subst hk
        split at h
        · exact ⟨_, h, plain _ (fun w => by simp [binOp, Op.intArith]) rfl⟩
        · exact ⟨_, h, plain _ (fun w => by simp [binOp, Op.intArith]) rfl⟩
        · exact ⟨_, h, plain _ (fun w => by simp [binOp, Op.intArith]) rfl⟩
        · split at h
          · cases h
          · rename_i hb
            exact ⟨_, h, plain _ (fun w => by simp [binOp, Op.intDiv, hb]) rfl⟩
        · split at h
          · cases h
          · rename_i hb
            exact ⟨_, h, plain _ (fun w => by simp [binOp, Op.intDiv, hb]) rfl⟩
        · exact ⟨_, h, plain _ (fun w => by simp [binOp, Op.intBits]) rfl⟩
        · exact ⟨_, h, plain _ (fun w => by simp [binOp, Op.intBits]) rfl⟩
        · exact ⟨_, h, plain _ (fun w => by simp [binOp, Op.intBits]) rfl⟩
        · exact ⟨_, h, plain _ (fun w => by simp [binOp, Op.intBits]) rfl⟩
        · exact ⟨_, h, plain _ (fun w => by simp [binOp, Op.intCmp]) rfl⟩
        · exact ⟨_, h, plain _ (fun w => by simp [binOp, Op.intCmp]) rfl⟩
        · exact ⟨_, h, plain _ (fun w => by simp [binOp, Op.intCmp]) rfl⟩
        · exact ⟨_, h, plain _ (fun w => by simp [binOp, Op.intCmp]) rfl⟩
        · exact ⟨_, h, plain _ (fun w => by simp [binOp, Op.intCmp]) rfl⟩
        · exact ⟨_, h, plain _ (fun w => by simp [binOp, Op.intCmp]) rfl⟩
        · cases h
      · cases h
  · rename_i a b
    have plain : ∀ v, (∀ w : World, (binOp op t (.string a) (.string b)).run P w = .ok v w) → flat v = true → PureSim E P o g v := by
      intro v hv hf
      refine pure_ v (fun φ A w h1 h2 => ?_) hf
      rw [h1.string_inv, h2.string_inv, Sem.run_bind, run_eqGuard_plain _ _ _ _ _ _ _ rfl]
      exact hv w
    split at h
    · split at h
      · rename_i hsz
        refine ⟨_, h, plain _ (fun w => ?_) rfl⟩
        have : ¬ (((a.size + b.size : Nat) : Int) > IntKind.i64.max) := by simp [IntKind.max, IntKind.signed, IntKind.bits]; omega
        simp only [binOp, Op.stringOp, this, if_false]
        rfl
      · cases h
    · exact ⟨_, h, plain _ (fun w => by simp [binOp, Op.stringOp]) rfl⟩
    · exact ⟨_, h, plain _ (fun w => by simp [binOp, Op.stringOp]) rfl⟩
    · exact ⟨_, h, plain _ (fun w => by simp [binOp, Op.stringOp]) rfl⟩
    · exact ⟨_, h, plain _ (fun w => by simp [binOp, Op.stringOp]) rfl⟩
    · exact ⟨_, h, plain _ (fun w => by simp [binOp, Op.stringOp]) rfl⟩
    · exact ⟨_, h, plain _ (fun w => by simp [binOp, Op.stringOp]) rfl⟩
    · cases h
  · rename_i a b
    split at h
    · rename_i ks hks
      obtain ⟨hs, heq⟩ := hq t ks hks
      have f1 := shapeL_fits hs h
      have h' := shapeL_sound h
      have f2 := shapeL_fits hs h'
      refine ⟨_, shapeL_sound h', pure_ _ (fun φ A w h1 h2 => ?_) rfl⟩
      obtain ⟨a', e1, l1⟩ := h1.agg_inv
      obtain ⟨b', e2, l2⟩ := h2.agg_inv
      have e3 := l1.flat_eq (fitsL_flat f1)
      have e4 := l2.flat_eq (fitsL_flat f2)
      have e5 : a' = a := Array.toList_inj.1 e3
      have e6 : b' = b := Array.toList_inj.1 e4
      rw [e1, e2, e5, e6]
      exact (heq x y a b w f1 f2).1
    · rename_i ks hks
      obtain ⟨hs, heq⟩ := hq t ks hks
      have f1 := shapeL_fits hs h
      have h' := shapeL_sound h
      have f2 := shapeL_fits hs h'
      refine ⟨_, shapeL_sound h', pure_ _ (fun φ A w h1 h2 => ?_) rfl⟩
      obtain ⟨a', e1, l1⟩ := h1.agg_inv
      obtain ⟨b', e2, l2⟩ := h2.agg_inv
      have e3 := l1.flat_eq (fitsL_flat f1)
      have e4 := l2.flat_eq (fitsL_flat f2)
      have e5 : a' = a := Array.toList_inj.1 e3
      have e6 : b' = b := Array.toList_inj.1 e4
      rw [e1, e2, e5, e6]
      exact (heq x y a b w f1 f2).2
    · cases h
  · rename_i a b
    split at h
    · rename_i hu
      refine ⟨_, h, pure_ _ (fun φ A w h1 h2 => ?_) rfl⟩
      rw [h1.bool_inv, h2.bool_inv, Sem.run_bind, run_eqGuard_plain _ _ _ _ _ _ _ rfl]
      show ((do pure (.bool (← Op.equal t (.bool a) (.bool b))) : Sem Value)).run P w = _
      rw [Sem.run_bind, run_equal_bool (hE.und _ _ hu)]
      rfl
    · rename_i hu
      refine ⟨_, h, pure_ _ (fun φ A w h1 h2 => ?_) rfl⟩
      rw [h1.bool_inv, h2.bool_inv, Sem.run_bind, run_eqGuard_plain _ _ _ _ _ _ _ rfl]
      show ((do pure (.bool (!(← Op.equal t (.bool a) (.bool b)))) : Sem Value)).run P w = _
      rw [Sem.run_bind, run_equal_bool (hE.und _ _ hu)]
      rfl
    · cases h
  · cases h

theorem kun_sim {op : UnOp} {t : TypeId} {x : Operand} {K : Value → Ans} {r : Out × St} (ho : o.op = .unOp op t x) (h : kun op (ev E g x) K = some r) :
    ∃ v, K v = some r ∧ PureSim E P o g v := by
  have pure_ : ∀ v, (∀ φ (a : Act) (w : World), V φ (ev E g x) (a.eval x) → (Op.unary op (a.eval x)).run P w = .ok v w) → flat v = true → PureSim E P o g v := by
    intro v hv hf
    refine fun φ w a hg hr => ⟨v, ?_, .flat hf⟩
    have := run_v (hv φ a w (ev_rel hg hr x))
    simpa only [execOp, ho] using this
  generalize hx : ev E g x = vx at h pure_
  unfold kun at h
  split at h
  · split at h
    · exact ⟨_, h, pure_ _ (fun φ A w h1 => by rw [h1.int_inv]; simp [Op.unary, Op.intArith]) rfl⟩
    · exact ⟨_, h, pure_ _ (fun φ A w h1 => by rw [h1.int_inv]; simp [Op.unary, Op.intBits]) rfl⟩
    · cases h
  · split at h
    · exact ⟨_, h, pure_ _ (fun φ A w h1 => by rw [h1.bool_inv]; simp [Op.unary]) rfl⟩
    · cases h
  · cases h
end
end Go.Proofs.YtckalckfihhldaaDoorF
