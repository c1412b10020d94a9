/- The abstract heap machine, part 13b: whatever order is drawn, the text's order tells the end. -/
import Derived.Test.YtnkbddljndfpnaaDoorF13
set_option linter.unusedVariables false
set_option linter.unusedSimpArgs false
namespace Go.Proofs.YtnkbddljndfpnaaDoorF
open Go

/-! ### 1. A walk in the text's order -/
section
variable (E : Env) (P : Program) (all : Array Oper)
def StepOk (o : Oper) (e : Ent) : Prop :=
  (Wants all o e.g false ∧ e.v = skipV ∧ e.s' = e.s) ∨ (Wants all o e.g true ∧ ToldD E P all o (mask (some (o.looksAt all)) e.g) e.s e.v e.s')
inductive Chain : List Oper → List Ent → Regs → St → Regs → St → Prop
  | nil {g : Regs} {s : St} : Chain [] [] g s g s
  | cons {o : Oper} {os : List Oper} {e : Ent} {es : List Ent} {g' : Regs} {s' : St} (h : StepOk E P all o e) (t : Chain os es (setDst e.g o.dst e.v) e.s' g' s') : Chain (o :: os) (e :: es) e.g e.s g' s'
end
section
variable {E : Env} {P : Program} {all : Array Oper}
theorem Chain.length {os : List Oper} {es : List Ent} {g g' : Regs} {s s' : St} (h : Chain E P all os es g s g' s') : os.length = es.length := by
  induction h with
  | nil => rfl
  | cons _ _ ih => simp [ih]
theorem StepOk.pure {o : Oper} {e : Ent} (h : StepOk E P all o e) (hw : isW (dcl E all o) = false) : e.s' = e.s := by
  rcases h with ⟨_, _, h⟩ | ⟨_, h⟩
  · exact h
  · unfold ToldD at h
    cases hd : dcl E all o <;> rw [hd] at h hw <;> first | exact h.1 | simp [isW] at hw
theorem StepOk.low {o : Oper} {e : Ent} (h : StepOk E P all o e) : Low e.s e.s' := by
  rcases h with ⟨_, _, h⟩ | ⟨_, h⟩
  · rw [h]; exact Low.refl _
  · unfold ToldD at h
    cases hd : dcl E all o <;> rw [hd] at h <;> first | (rw [h.1]; exact Low.refl _) | exact h.2.1 | exact h.2 | (obtain ⟨⟨obj, e1⟩, _⟩ := h; rw [e1]; exact Low.new _ _)
theorem Chain.low {os : List Oper} {es : List Ent} {g g' : Regs} {s s' : St} (h : Chain E P all os es g s g' s') : Low s s' := by
  induction h with
  | nil => exact Low.refl _
  | cons h _ ih => exact h.low.trans ih
theorem Chain.head {o : Oper} {os : List Oper} {e : Ent} {es : List Ent} {g g' : Regs} {s s' : St} (h : Chain E P all (o :: os) (e :: es) g s g' s') :
    g = e.g ∧ s = e.s ∧ StepOk E P all o e ∧ Chain E P all os es (setDst e.g o.dst e.v) e.s' g' s' := by
  cases h with
  | cons h t => exact ⟨rfl, rfl, h, t⟩
theorem Chain.get {os : List Oper} {es : List Ent} {g g' : Regs} {s s' : St} (h : Chain E P all os es g s g' s') : ∀ (j : Nat) (o : Oper) (e : Ent), os[j]? = some o → es[j]? = some e → StepOk E P all o e := by
  induction h with
  | nil => intro j o e h; simp at h
  | cons h t ih =>
    intro j o e h1 h2
    cases j with
    | zero => simp at h1 h2; subst h1; subst h2; exact h
    | succ j => exact ih j o e (by simpa using h1) (by simpa using h2)

/-! ### 2. The registers, when some have come up -/
def regsL (L : Nat → Bool) : Nat → List Oper → List Ent → Regs → Regs
  | i, o :: os, e :: es, g => regsL L (i + 1) os es (if L i then setDst g o.dst e.v else g)
  | _, _, _, g => g
theorem setDst_length (g : Regs) (d : Option Nat) (v : Value) : (setDst g d v).length = g.length := by cases d <;> simp [setDst]
theorem regsL_length (L : Nat → Bool) : ∀ (os : List Oper) (i : Nat) (es : List Ent) (g : Regs), (regsL L i os es g).length = g.length
  | [], _, _, _ => rfl
  | _ :: _, _, [], _ => rfl
  | o :: os, i, e :: es, g => by
    unfold regsL
    rw [regsL_length L os]
    split
    · exact setDst_length ..
    · rfl
theorem setDst_getD {g : Regs} {x : Option Nat} {v : Value} {d : Nat} (h : x ≠ some d) : (setDst g x v).getD d undef = g.getD d undef := by
  cases x with
  | none => rfl
  | some k =>
    have : k ≠ d := fun e => h (by rw [e])
    simp [setDst, List.getD_eq_getElem?_getD, List.getElem?_set_ne this]
theorem setDst_same {g : Regs} {v : Value} {d : Nat} (h : d < g.length) : (setDst g (some d) v).getD d undef = v := by
  simp [setDst, List.getD_eq_getElem?_getD, h]
theorem regsL_congr {L M : Nat → Bool} : ∀ (os : List Oper) (i : Nat) (es : List Ent) (g : Regs), (∀ k, k < os.length → L (i + k) = M (i + k)) → regsL L i os es g = regsL M i os es g
  | [], _, _, _, _ => rfl
  | _ :: _, _, [], _, _ => rfl
  | o :: os, i, e :: es, g, h => by
    unfold regsL
    have h0 : L i = M i := h 0 (by simp)
    rw [h0]
    exact regsL_congr os (i + 1) es _ fun k hk => by
      have := h (k + 1) (by simp; omega)
      rwa [show i + (k + 1) = i + 1 + k by omega] at this
theorem regsL_agree {L M : Nat → Bool} {d : Nat} : ∀ (os : List Oper) (i : Nat) (es : List Ent) (g h : Regs), (∀ k o, os[k]? = some o → o.dst = some d → L (i + k) = M (i + k)) → g.length = h.length →
    g.getD d undef = h.getD d undef → (regsL L i os es g).getD d undef = (regsL M i os es h).getD d undef
  | [], _, _, _, _, _, _, hg => by simpa [regsL] using hg
  | _ :: _, _, [], _, _, _, _, hg => by simpa [regsL] using hg
  | o :: os, i, e :: es, g, h, hL, hlen, hg => by
    unfold regsL
    refine regsL_agree os (i + 1) es _ _ (fun k o' ho hd => ?_) ?_ ?_
    · have := hL (k + 1) o' (by simpa using ho) hd
      rwa [show i + (k + 1) = i + 1 + k by omega] at this
    · split <;> split <;> simp [setDst_length, hlen]
    · by_cases hd : o.dst = some d
      · have h0 : L i = M i := hL 0 o (by simp) hd
        rw [h0]
        split
        · rw [hd]
          by_cases hdl : d < g.length
          · rw [setDst_same hdl, setDst_same (hlen ▸ hdl)]
          · have h1 : (setDst g (some d) e.v).length ≤ d := by rw [setDst_length]; omega
            have h2 : (setDst h (some d) e.v).length ≤ d := by rw [setDst_length]; omega
            simp [List.getD_eq_getElem?_getD, List.getElem?_eq_none h1, List.getElem?_eq_none h2]
        · exact hg
      · split <;> split <;> simp only [setDst_getD hd, hg]
/-- Nothing that has come up writes the register. -/
theorem regsL_skip {L : Nat → Bool} {d : Nat} : ∀ (os : List Oper) (i : Nat) (es : List Ent) (g : Regs), (∀ k o, os[k]? = some o → o.dst = some d → L (i + k) = false) →
    (regsL L i os es g).getD d undef = g.getD d undef
  | [], _, _, _, _ => rfl
  | _ :: _, _, [], _, _ => rfl
  | o :: os, i, e :: es, g, hL => by
    unfold regsL
    rw [regsL_skip os (i + 1) es _ (fun k o' ho hd => by
      have := hL (k + 1) o' (by simpa using ho) hd
      rwa [show i + (k + 1) = i + 1 + k by omega] at this)]
    split
    · rename_i hi
      refine setDst_getD fun hd => ?_
      have := hL 0 o (by simp) hd
      rw [show i + 0 = i from rfl, hi] at this
      cases this
    · rfl
/-- What has come up last of what writes the register. -/
theorem regsL_last {L : Nat → Bool} {d : Nat} : ∀ (j : Nat) (os : List Oper) (i : Nat) (es : List Ent) (g : Regs) (o : Oper) (e : Ent), os[j]? = some o → es[j]? = some e → o.dst = some d → L (i + j) = true →
    (∀ k o', j < k → os[k]? = some o' → o'.dst = some d → L (i + k) = false) → d < g.length → (regsL L i os es g).getD d undef = e.v
  | _, [], _, _, _, _, _, h, _, _, _, _, _ => by simp at h
  | _, _ :: _, _, [], _, _, _, _, h, _, _, _, _ => by simp at h
  | 0, o :: os, i, e :: es, g, o', e', ho, he, hd, hL, hk, hl => by
    simp at ho he
    subst ho; subst he
    unfold regsL
    rw [regsL_skip os (i + 1) es _ (fun k o' ho hd => by
      have := hk (k + 1) o' (by omega) (by simpa using ho) hd
      rwa [show i + (k + 1) = i + 1 + k by omega] at this)]
    rw [if_pos (by simpa using hL), hd, setDst_same hl]
  | j + 1, o :: os, i, e :: es, g, o', e', ho, he, hd, hL, hk, hl => by
    unfold regsL
    refine regsL_last j os (i + 1) es _ o' e' (by simpa using ho) (by simpa using he) hd (by rwa [show i + 1 + j = i + (j + 1) by omega]) (fun k o'' h1 h2 h3 => ?_) ?_
    · have := hk (k + 1) o'' (by omega) (by simpa using h2) h3
      rwa [show i + (k + 1) = i + 1 + k by omega] at this
    · split
      · rw [setDst_length]; exact hl
      · exact hl
/-- The registers of the walk. -/
theorem Chain.regs {os : List Oper} {es : List Ent} {g g' : Regs} {s s' : St} (h : Chain E P all os es g s g' s') (i : Nat) : ∀ (j : Nat) (e : Ent), es[j]? = some e → regsL (fun k => decide (k < i + j)) i os es g = e.g := by
  induction h generalizing i with
  | nil => intro j e h; simp at h
  | @cons o os e0 es g' s' h t ih =>
    intro j e he
    cases j with
    | zero =>
      simp at he
      subst he
      unfold regsL
      simp only [Nat.add_zero, Nat.lt_irrefl, decide_false, Bool.false_eq_true, if_false]
      have : ∀ (os : List Oper) (k : Nat) (es : List Ent) (g : Regs), i < k → regsL (fun k => decide (k < i)) k os es g = g := by
        intro os
        induction os with
        | nil => intro k es g _; rfl
        | cons o os ih =>
          intro k es g hk
          cases es with
          | nil => rfl
          | cons e es =>
            unfold regsL
            rw [if_neg (by simp; omega)]
            exact ih _ _ _ (by omega)
      exact this os (i + 1) es _ (by omega)
    | succ j =>
      have := ih (i + 1) j e (by simpa using he)
      unfold regsL
      rw [if_pos (by simp), show i + (j + 1) = i + 1 + j by omega]
      exact this
theorem Chain.regs_end {os : List Oper} {es : List Ent} {g g' : Regs} {s s' : St} (h : Chain E P all os es g s g' s') (i : Nat) : regsL (fun _ => true) i os es g = g' := by
  induction h generalizing i with
  | nil => rfl
  | cons h t ih => unfold regsL; exact ih (i + 1)

/-! ### 3. The memory, when some have come up -/
def stL (E : Env) (all : Array Oper) (L : Nat → Bool) : Nat → List Oper → List Ent → St → St
  | i, o :: os, e :: es, _ => if isW (dcl E all o) && !L i then e.s else stL E all L (i + 1) os es e.s'
  | _, _, _, s => s
theorem stL_congr {L M : Nat → Bool} : ∀ (os : List Oper) (i : Nat) (es : List Ent) (s : St), (∀ k o, os[k]? = some o → isW (dcl E all o) = true → L (i + k) = M (i + k)) → stL E all L i os es s = stL E all M i os es s
  | [], _, _, _, _ => rfl
  | _ :: _, _, [], _, _ => rfl
  | o :: os, i, e :: es, s, h => by
    unfold stL
    rw [stL_congr (L := L) (M := M) os (i + 1) es e.s' fun k o' ho hw => by
      have := h (k + 1) o' (by simpa using ho) hw
      rwa [show i + (k + 1) = i + 1 + k by omega] at this]
    cases hw : isW (dcl E all o)
    · rfl
    · have h0 : L i = M i := h 0 o (by simp) hw
      rw [h0]
theorem Chain.st_tail {L : Nat → Bool} {os : List Oper} {es : List Ent} {g g' : Regs} {s s' : St} (h : Chain E P all os es g s g' s') (i : Nat) (hL : ∀ k o, os[k]? = some o → isW (dcl E all o) = true → L (i + k) = false) : stL E all L i os es s = s := by
  induction h generalizing i with
  | nil => rfl
  | @cons o os e0 es g' s' h t ih =>
    unfold stL
    cases hw : isW (dcl E all o)
    · simp only [Bool.false_and, Bool.false_eq_true, if_false]
      rw [ih (i + 1) fun k o' ho hw => by
        have := hL (k + 1) o' (by simpa using ho) hw
        rwa [show i + (k + 1) = i + 1 + k by omega] at this]
      exact h.pure hw
    · have h0 : L i = false := hL 0 o (by simp) hw
      simp [h0]
theorem Chain.st_at {L : Nat → Bool} {os : List Oper} {es : List Ent} {g g' : Regs} {s s' : St} (h : Chain E P all os es g s g' s') (i : Nat) : ∀ (j : Nat) (e : Ent), es[j]? = some e →
    (∀ k o, k < j → os[k]? = some o → isW (dcl E all o) = true → L (i + k) = true) → (∀ k o, j ≤ k → os[k]? = some o → isW (dcl E all o) = true → L (i + k) = false) → stL E all L i os es s = e.s := by
  induction h generalizing i with
  | nil => intro j e h; simp at h
  | @cons o os e0 es g' s' h t ih =>
    intro j e he h1 h2
    cases j with
    | zero =>
      simp at he
      subst he
      exact (Chain.cons h t).st_tail i fun k o ho hw => h2 k o (by omega) ho hw
    | succ j =>
      unfold stL
      have : (isW (dcl E all o) && !L i) = false := by
        cases hw : isW (dcl E all o)
        · rfl
        · have := h1 0 o (by omega) (by simp) hw
          simp at this
          simp [this]
      rw [this]
      simp only [Bool.false_eq_true, if_false]
      refine ih (i + 1) j e (by simpa using he) (fun k o' hk ho hw => ?_) (fun k o' hk ho hw => ?_)
      · have := h1 (k + 1) o' (by omega) (by simpa using ho) hw
        rwa [show i + (k + 1) = i + 1 + k by omega] at this
      · have := h2 (k + 1) o' (by omega) (by simpa using ho) hw
        rwa [show i + (k + 1) = i + 1 + k by omega] at this
theorem Chain.st_upto {L : Nat → Bool} {os : List Oper} {es : List Ent} {g g' : Regs} {s s' : St} (h : Chain E P all os es g s g' s') (i : Nat) : ∀ (j : Nat) (e : Ent), es[j]? = some e →
    (∀ k o, k ≤ j → os[k]? = some o → isW (dcl E all o) = true → L (i + k) = true) → (∀ k o, j < k → os[k]? = some o → isW (dcl E all o) = true → L (i + k) = false) → stL E all L i os es s = e.s' := by
  induction h generalizing i with
  | nil => intro j e h; simp at h
  | @cons o os e0 es g' s' h t ih =>
    intro j e he h1 h2
    unfold stL
    have : (isW (dcl E all o) && !L i) = false := by
      cases hw : isW (dcl E all o)
      · rfl
      · have := h1 0 o (by omega) (by simp) hw
        simp at this
        simp [this]
    rw [this]
    simp only [Bool.false_eq_true, if_false]
    cases j with
    | zero =>
      simp at he
      subst he
      refine t.st_tail (i + 1) fun k o' ho hw => ?_
      have := h2 (k + 1) o' (by omega) (by simpa using ho) hw
      rwa [show i + (k + 1) = i + 1 + k by omega] at this
    | succ j =>
      refine ih (i + 1) j e (by simpa using he) (fun k o' hk ho hw => ?_) (fun k o' hk ho hw => ?_)
      · have := h1 (k + 1) o' (by omega) (by simpa using ho) hw
        rwa [show i + (k + 1) = i + 1 + k by omega] at this
      · have := h2 (k + 1) o' (by omega) (by simpa using ho) hw
        rwa [show i + (k + 1) = i + 1 + k by omega] at this
theorem Chain.st_end {L : Nat → Bool} {os : List Oper} {es : List Ent} {g g' : Regs} {s s' : St} (h : Chain E P all os es g s g' s') (i : Nat) (hL : ∀ k o, os[k]? = some o → isW (dcl E all o) = true → L (i + k) = true) : stL E all L i os es s = s' := by
  induction h generalizing i with
  | nil => rfl
  | @cons o os e0 es g' s' h t ih =>
    unfold stL
    have : (isW (dcl E all o) && !L i) = false := by
      cases hw : isW (dcl E all o)
      · rfl
      · have := hL 0 o (by simp) hw
        simp at this
        simp [this]
    rw [this]
    simp only [Bool.false_eq_true, if_false]
    refine ih (i + 1) fun k o' ho hw => ?_
    have := hL (k + 1) o' (by simpa using ho) hw
    rwa [show i + (k + 1) = i + 1 + k by omega] at this
/-- An operation that makes an object, at most. -/
theorem StepOk.al {o : Oper} {e : Ent} (h : StepOk E P all o e) (hw : isE (dcl E all o) = false) : e.s' = e.s ∨ ∃ obj, e.s' = e.s.new obj := by
  cases hW : isW (dcl E all o)
  · exact .inl (h.pure hW)
  · rcases h with ⟨_, _, e⟩ | ⟨_, h⟩
    · exact .inl e
    · unfold ToldD at h
      cases hd : dcl E all o <;> rw [hd] at hW hw h <;> simp [isW, isE] at hW hw
      exact .inr h.1
theorem StepOk.box {o : Oper} {e : Ent} (h : StepOk E P all o e) (hw : dcl E all o ≠ .Ef) : Boxes e.s e.s' := by
  cases hW : isE (dcl E all o)
  · rcases h.al hW with e1 | ⟨obj, e1⟩
    · rw [e1]; exact fun _ _ _ => rfl
    · rw [e1]; exact fun i hi _ => by rw [St.get_new, if_neg (by omega)]
  · rcases h with ⟨_, _, e1⟩ | ⟨_, h⟩
    · rw [e1]; exact fun _ _ _ => rfl
    · unfold ToldD at h
      cases hd : dcl E all o <;> rw [hd] at hW hw h <;> simp [isE] at hW hw
      exact h.2.2
/-- Only objects were made. -/
theorem Chain.st_ext {L : Nat → Bool} {os : List Oper} {es : List Ent} {g g' : Regs} {s s' : St} (h : Chain E P all os es g s g' s') (i : Nat) (ht : s.Top) (hL : ∀ k o, os[k]? = some o → isE (dcl E all o) = true → L (i + k) = false) : Ext s (stL E all L i os es s) := by
  induction h generalizing i with
  | nil => exact Ext.refl _
  | @cons o os e0 es g' s' h t ih =>
    have hL' : ∀ k o', os[k]? = some o' → isE (dcl E all o') = true → L (i + 1 + k) = false := fun k o' ho hw => by
      have := hL (k + 1) o' (by simpa using ho) hw
      rwa [show i + (k + 1) = i + 1 + k by omega] at this
    unfold stL
    split
    · exact Ext.refl _
    · rename_i hi
      have hne : isE (dcl E all o) = false := by
        cases hE : isE (dcl E all o)
        · rfl
        · have h0 : L i = false := hL 0 o (by simp) hE
          have hW : isW (dcl E all o) = true := by cases hd : dcl E all o <;> rw [hd] at hE <;> simp [isE] at hE <;> rfl
          rw [hW, h0] at hi
          simp at hi
      rcases h.al hne with e | ⟨obj, e⟩
      · have := ih (i + 1) (by rw [e]; exact ht) hL'
        rw [e] at this ⊢
        exact this
      · have := ih (i + 1) (by rw [e]; exact ht.new obj) hL'
        rw [e] at this ⊢
        exact (Ext.new ht obj).trans this
theorem Chain.phantom {φ : Phi} {w : World} {Own : Nat → Prop} {os : List Oper} {es : List Ent} {g g' : Regs} {s s' : St} (h : Chain E P all os es g s g' s') (hR : R φ s w Own) : ∀ (j : Nat) (e : Ent), es[j]? = some e →
    (∀ k o, k < j → os[k]? = some o → isE (dcl E all o) = false) → R φ e.s w Own := by
  induction h with
  | nil => intro j e h; simp at h
  | @cons o os e0 es g' s' h t ih =>
    intro j e he hk
    cases j with
    | zero => simp at he; subst he; exact hR
    | succ j =>
      refine ih ?_ j e (by simpa using he) fun k o' hk' ho => hk (k + 1) o' (by omega) (by simpa using ho)
      rcases h.al (hk 0 o (by omega) (by simp)) with e | ⟨obj, e⟩
      · rw [e]; exact hR
      · rw [e]; exact hR.phantom obj
theorem isE_W {d : DC} (h : isE d = true) : isW d = true := by cases d <;> simp [isE] at h <;> rfl
/-- A reading operation's memory, as good as the one that it had in the walk. -/
theorem Chain.reads {L : Nat → Bool} {φ : Phi} {w : World} {Own : Nat → Prop} {os : List Oper} {es : List Ent} {g g' : Regs} {s s' : St} (h : Chain E P all os es g s g' s') (i : Nat) (ht : s.Top) : ∀ (j : Nat) (e : Ent), es[j]? = some e →
    (∀ k o, k < j → os[k]? = some o → isE (dcl E all o) = true → L (i + k) = true) → (∀ k o, j ≤ k → os[k]? = some o → isE (dcl E all o) = true → L (i + k) = false) →
    (∀ k k' o o', k < k' → os[k]? = some o → os[k']? = some o' → isW (dcl E all o) = true → isW (dcl E all o') = true → L (i + k') = true → L (i + k) = true) →
    R φ (stL E all L i os es s) w Own → ∃ s2, Ext e.s s2 ∧ R φ s2 w Own := by
  induction h generalizing i with
  | nil => intro j e h; simp at h
  | @cons o os e0 es g' s' h t ih =>
    intro j e he h1 h2 h3 hR
    cases j with
    | zero =>
      simp at he
      subst he
      exact ⟨_, (Chain.cons h t).st_ext i ht (fun k o ho hd => h2 k o (by omega) ho hd), hR⟩
    | succ j =>
      unfold stL at hR
      split at hR
      · rename_i hi
        simp only [Bool.and_eq_true, Bool.not_eq_true'] at hi
        refine ⟨e.s, Ext.refl _, (Chain.cons h t).phantom hR (j + 1) e he fun k o' hk ho => ?_⟩
        cases hd : isE (dcl E all o')
        · rfl
        · have hl := h1 k o' (by omega) ho hd
          cases k with
          | zero => simp at hl; rw [hl] at hi; cases hi.2
          | succ k =>
            have := h3 0 (k + 1) o o' (by omega) (by simp) ho hi.1 (isE_W hd) hl
            simp at this
            rw [this] at hi
            cases hi.2
      · refine ih (i + 1) (h.low.top ht) j e (by simpa using he) (fun k o' hk ho hd => ?_) (fun k o' hk ho hd => ?_) (fun k k' o1 o2 hk ho1 ho2 hw1 hw2 hl => ?_) hR
        · have := h1 (k + 1) o' (by omega) (by simpa using ho) hd
          rwa [show i + (k + 1) = i + 1 + k by omega] at this
        · have := h2 (k + 1) o' (by omega) (by simpa using ho) hd
          rwa [show i + (k + 1) = i + 1 + k by omega] at this
        · have := h3 (k + 1) (k' + 1) o1 o2 (by omega) (by simpa using ho1) (by simpa using ho2) hw1 hw2 (by rwa [show i + (k' + 1) = i + 1 + k' by omega])
          rwa [show i + (k + 1) = i + 1 + k by omega] at this
/-! ### 4. Boxes stay as they are -/
theorem top_lt {s : St} (ht : s.Top) {b : Nat} (h : isB (s.get b) = true) : b < s.next := by
  cases hg : s.get b with
  | none => rw [hg] at h; simp [isB] at h
  | some o => exact ht.lt hg
theorem Chain.box_on {L : Nat → Bool} {os : List Oper} {es : List Ent} {g g' : Regs} {s s' : St} (h : Chain E P all os es g s g' s') (i : Nat) (ht : s.Top) {b : Nat} (hb : isB (s.get b) = true)
    (hL : ∀ k o, os[k]? = some o → dcl E all o = .Ef → L (i + k) = false) : (stL E all L i os es s).get b = s.get b := by
  induction h generalizing i with
  | nil => rfl
  | @cons o os e0 es g' s' h t ih =>
    have hL' : ∀ k o', os[k]? = some o' → dcl E all o' = .Ef → L (i + 1 + k) = false := fun k o' ho hw => by
      have := hL (k + 1) o' (by simpa using ho) hw
      rwa [show i + (k + 1) = i + 1 + k by omega] at this
    unfold stL
    split
    · rfl
    · rename_i hi
      have hne : dcl E all o ≠ .Ef := fun hd => by
        have h0 : L i = false := hL 0 o (by simp) hd
        rw [hd, h0] at hi
        simp [isW] at hi
      have e := h.box hne b (top_lt ht hb) (.inl hb)
      rw [ih (i + 1) (h.low.top ht) (by rw [e]; exact hb) hL', e]
theorem Chain.box_back {os : List Oper} {es : List Ent} {g g' : Regs} {s s' : St} (h : Chain E P all os es g s g' s') : ∀ (j : Nat) (e : Ent), es[j]? = some e →
    (∀ k o, k < j → os[k]? = some o → dcl E all o ≠ .Ef) → ∀ b, isB (e.s.get b) = true → b < s.next → s.get b = e.s.get b := by
  induction h with
  | nil => intro j e h; simp at h
  | @cons o os e0 es g' s' h t ih =>
    intro j e he hk b hb hlt
    cases j with
    | zero => simp at he; subst he; rfl
    | succ j =>
      have e1 := ih j e (by simpa using he) (fun k o' hk' ho => hk (k + 1) o' (by omega) (by simpa using ho)) b hb (Nat.lt_of_lt_of_le hlt h.low.next)
      have e2 := h.box (hk 0 o (by omega) (by simp)) b hlt (.inr (by rw [e1]; exact hb))
      rw [← e2, e1]
theorem Chain.boxes {L : Nat → Bool} {os : List Oper} {es : List Ent} {g g' : Regs} {s s' : St} (h : Chain E P all os es g s g' s') (i : Nat) (ht : s.Top) : ∀ (j : Nat) (e : Ent), es[j]? = some e →
    (∀ k o, k < j → os[k]? = some o → dcl E all o = .Ef → L (i + k) = true) → (∀ k o, j ≤ k → os[k]? = some o → dcl E all o = .Ef → L (i + k) = false) →
    (∀ k k' o o', k < k' → os[k]? = some o → os[k']? = some o' → isW (dcl E all o) = true → isW (dcl E all o') = true → L (i + k') = true → L (i + k) = true) →
    ∀ b, isB (e.s.get b) = true → b < (stL E all L i os es s).next → (stL E all L i os es s).get b = e.s.get b := by
  induction h generalizing i with
  | nil => intro j e h; simp at h
  | @cons o os e0 es g' s' h t ih =>
    intro j e he h1 h2 h3 b hb hlt
    cases j with
    | zero =>
      simp at he
      subst he
      exact (Chain.cons h t).box_on i ht hb (fun k o ho hd => h2 k o (by omega) ho hd)
    | succ j =>
      unfold stL at hlt ⊢
      split
      · rename_i hi
        rw [if_pos hi] at hlt
        simp only [Bool.and_eq_true, Bool.not_eq_true'] at hi
        refine (Chain.cons h t).box_back (j + 1) e he (fun k o' hk ho hd => ?_) b hb hlt
        have hl := h1 k o' (by omega) ho hd
        cases k with
        | zero => simp at hl; rw [hl] at hi; cases hi.2
        | succ k =>
          have := h3 0 (k + 1) o o' (by omega) (by simp) ho hi.1 (by rw [hd]; rfl) hl
          simp at this
          rw [this] at hi
          cases hi.2
      · rename_i hi
        rw [if_neg hi] at hlt
        refine ih (i + 1) (h.low.top ht) j e (by simpa using he) (fun k o' hk ho hd => ?_) (fun k o' hk ho hd => ?_) (fun k k' o1 o2 hk ho1 ho2 hw1 hw2 hl => ?_) b hb hlt
        · have := h1 (k + 1) o' (by omega) (by simpa using ho) hd
          rwa [show i + (k + 1) = i + 1 + k by omega] at this
        · have := h2 (k + 1) o' (by omega) (by simpa using ho) hd
          rwa [show i + (k + 1) = i + 1 + k by omega] at this
        · have := h3 (k + 1) (k' + 1) o1 o2 (by omega) (by simpa using ho1) (by simpa using ho2) hw1 hw2 (by rwa [show i + (k' + 1) = i + 1 + k' by omega])
          rwa [show i + (k + 1) = i + 1 + k by omega] at this
end
end Go.Proofs.YtnkbddljndfpnaaDoorF
