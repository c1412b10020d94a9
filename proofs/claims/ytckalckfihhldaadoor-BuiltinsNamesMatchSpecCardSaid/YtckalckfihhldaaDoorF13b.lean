/- The abstract heap machine, part 13b: whatever order is drawn, the text's order tells the end. -/
import Derived.Test.YtckalckfihhldaaDoorF13
set_option linter.unusedVariables false
set_option linter.unusedSimpArgs false
namespace Go.Proofs.YtckalckfihhldaaDoorF
open Go

/-! ### 1. A walk in the text's order -/
section
variable (E : Env) (P : Program) (all : Array Oper)
def StepOk (o : Oper) (e : Ent) : Prop :=
  (Wants all o e.g false ∧ e.v = skipV ∧ e.s' = e.s) ∨ (Wants all o e.g true ∧ ToldD E P all o (mask (some (o.looksAt all)) e.g) e.s e.v e.s')
inductive Chain : List Oper → List Ent → Regs → St → Regs → St → Prop
  | nil {g : Regs} {s : St} : Chain [] [] g s g s
  | cons {o : Oper} {os : List Oper} {e : Ent} {es : List Ent} {g' : Regs} {s' : St} (h : StepOk E P all o e) (t : Chain os es (setDst e.g o.dst e.v) e.s' g' s') : Chain (o :: os) (e :: es) e.g e.s g' s'
end
section
variable {E : Env} {P : Program} {all : Array Oper}
theorem Chain.length {os : List Oper} {es : List Ent} {g g' : Regs} {s s' : St} (h : Chain E P all os es g s g' s') : os.length = es.length := by
  induction h with
  | nil => rfl
  | cons _ _ ih => simp [ih]
theorem StepOk.pure {o : Oper} {e : Ent} (h : StepOk E P all o e) (hw : isW (dcl E all o) = false) : e.s' = e.s := by
  rcases h with ⟨_, _, h⟩ | ⟨_, h⟩
  · exact h
  · unfold ToldD at h
    cases hd : dcl E all o <;> rw [hd] at h hw <;> first | exact h.1 | simp [isW] at hw
theorem StepOk.low {o : Oper} {e : Ent} (h : StepOk E P all o e) : Low e.s e.s' := by
  rcases h with ⟨_, _, h⟩ | ⟨_, h⟩
  · rw [h]; exact Low.refl _
  · unfold ToldD at h
    cases hd : dcl E all o <;> rw [hd] at h <;> first | (rw [h.1]; exact Low.refl _) | exact h.2.1 | exact h.2 | (obtain ⟨obj, e1, _⟩ := h; rw [e1]; exact Low.new _ _)
theorem Chain.low {os : List Oper} {es : List Ent} {g g' : Regs} {s s' : St} (h : Chain E P all os es g s g' s') : Low s s' := by
  induction h with
  | nil => exact Low.refl _
  | cons h _ ih => exact h.low.trans ih
theorem Chain.head {o : Oper} {os : List Oper} {e : Ent} {es : List Ent} {g g' : Regs} {s s' : St} (h : Chain E P all (o :: os) (e :: es) g s g' s') :
    g = e.g ∧ s = e.s ∧ StepOk E P all o e ∧ Chain E P all os es (setDst e.g o.dst e.v) e.s' g' s' := by
  cases h with
  | cons h t => exact ⟨rfl, rfl, h, t⟩
theorem Chain.get {os : List Oper} {es : List Ent} {g g' : Regs} {s s' : St} (h : Chain E P all os es g s g' s') : ∀ (j : Nat) (o : Oper) (e : Ent), os[j]? = some o → es[j]? = some e → StepOk E P all o e := by
  induction h with
  | nil => intro j o e h; simp at h
  | cons h t ih =>
    intro j o e h1 h2
    cases j with
    | zero => simp at h1 h2; subst h1; subst h2; exact h
    | succ j => exact ih j o e (by simpa using h1) (by simpa using h2)

/-! ### 2. The registers, when some have come up -/
def regsL (L : Nat → Bool) : Nat → List Oper → List Ent → Regs → Regs
  | i, o :: os, e :: es, g => regsL L (i + 1) os es (if L i then setDst g o.dst e.v else g)
  | _, _, _, g => g
theorem setDst_length (g : Regs) (d : Option Nat) (v : Value) : (setDst g d v).length = g.length := by cases d <;> simp [setDst]
theorem regsL_length (L : Nat → Bool) : ∀ (os : List Oper) (i : Nat) (es : List Ent) (g : Regs), (regsL L i os es g).length = g.length
  | [], _, _, _ => rfl
  | _ :: _, _, [], _ => rfl
  | o :: os, i, e :: es, g => by
    unfold regsL
    rw [regsL_length L os]
    split
    · exact setDst_length ..
    · rfl
theorem setDst_getD {g : Regs} {x : Option Nat} {v : Value} {d : Nat} (h : x ≠ some d) : (setDst g x v).getD d undef = g.getD d undef := by
  cases x with
  | none => rfl
  | some k =>
    have : k ≠ d := fun e => h (by rw [e])
    simp [setDst, List.getD_eq_getElem?_getD, List.getElem?_set_ne this]
theorem setDst_same {g : Regs} {v : Value} {d : Nat} (h : d < g.length) : (setDst g (some d) v).getD d undef = v := by
  simp [setDst, List.getD_eq_getElem?_getD, h]
theorem regsL_congr {L M : Nat → Bool} : ∀ (os : List Oper) (i : Nat) (es : List Ent) (g : Regs), (∀ k, k < os.length → L (i + k) = M (i + k)) → regsL L i os es g = regsL M i os es g
  | [], _, _, _, _ => rfl
  | _ :: _, _, [], _, _ => rfl
  | o :: os, i, e :: es, g, h => by
    unfold regsL
    have h0 : L i = M i := h 0 (by simp)
    rw [h0]
    exact regsL_congr os (i + 1) es _ fun k hk => by
      have := h (k + 1) (by simp; omega)
      rwa [show i + (k + 1) = i + 1 + k by omega] at this
theorem regsL_agree {L M : Nat → Bool} {d : Nat} : ∀ (os : List Oper) (i : Nat) (es : List Ent) (g h : Regs), (∀ k o, os[k]? = some o → o.dst = some d → L (i + k) = M (i + k)) → g.length = h.length →
    g.getD d undef = h.getD d undef → (regsL L i os es g).getD d undef = (regsL M i os es h).getD d undef
  | [], _, _, _, _, _, _, hg => by simpa [regsL] using hg
  | _ :: _, _, [], _, _, _, _, hg => by simpa [regsL] using hg
  | o :: os, i, e :: es, g, h, hL, hlen, hg => by
    unfold regsL
    refine regsL_agree os (i + 1) es _ _ (fun k o' ho hd => ?_) ?_ ?_
    · have := hL (k + 1) o' (by simpa using ho) hd
      rwa [show i + (k + 1) = i + 1 + k by omega] at this
    · split <;> split <;> simp [setDst_length, hlen]
    · by_cases hd : o.dst = some d
      · have h0 : L i = M i := hL 0 o (by simp) hd
        rw [h0]
        split
        · rw [hd]
          by_cases hdl : d < g.length
          · rw [setDst_same hdl, setDst_same (hlen ▸ hdl)]
          · have h1 : (setDst g (some d) e.v).length ≤ d := by rw [setDst_length]; omega
            have h2 : (setDst h (some d) e.v).length ≤ d := by rw [setDst_length]; omega
            simp [List.getD_eq_getElem?_getD, List.getElem?_eq_none h1, List.getElem?_eq_none h2]
        · exact hg
      · split <;> split <;> simp only [setDst_getD hd, hg]
/-- Nothing that has come up writes the register. -/
theorem regsL_skip {L : Nat → Bool} {d : Nat} : ∀ (os : List Oper) (i : Nat) (es : List Ent) (g : Regs), (∀ k o, os[k]? = some o → o.dst = some d → L (i + k) = false) →
    (regsL L i os es g).getD d undef = g.getD d undef
  | [], _, _, _, _ => rfl
  | _ :: _, _, [], _, _ => rfl
  | o :: os, i, e :: es, g, hL => by
    unfold regsL
    rw [regsL_skip os (i + 1) es _ (fun k o' ho hd => by
      have := hL (k + 1) o' (by simpa using ho) hd
      rwa [show i + (k + 1) = i + 1 + k by omega] at this)]
    split
    · rename_i hi
      refine setDst_getD fun hd => ?_
      have := hL 0 o (by simp) hd
      rw [show i + 0 = i from rfl, hi] at this
      cases this
    · rfl
/-- What has come up last of what writes the register. -/
theorem regsL_last {L : Nat → Bool} {d : Nat} : ∀ (j : Nat) (os : List Oper) (i : Nat) (es : List Ent) (g : Regs) (o : Oper) (e : Ent), os[j]? = some o → es[j]? = some e → o.dst = some d → L (i + j) = true →
    (∀ k o', j < k → os[k]? = some o' → o'.dst = some d → L (i + k) = false) → d < g.length → (regsL L i os es g).getD d undef = e.v
  | _, [], _, _, _, _, _, h, _, _, _, _, _ => by simp at h
  | _, _ :: _, _, [], _, _, _, _, h, _, _, _, _ => by simp at h
  | 0, o :: os, i, e :: es, g, o', e', ho, he, hd, hL, hk, hl => by
    simp at ho he
    subst ho; subst he
    unfold regsL
    rw [regsL_skip os (i + 1) es _ (fun k o' ho hd => by
      have := hk (k + 1) o' (by omega) (by simpa using ho) hd
      rwa [show i + (k + 1) = i + 1 + k by omega] at this)]
    rw [if_pos (by simpa using hL), hd, setDst_same hl]
  | j + 1, o :: os, i, e :: es, g, o', e', ho, he, hd, hL, hk, hl => by
    unfold regsL
    refine regsL_last j os (i + 1) es _ o' e' (by simpa using ho) (by simpa using he) hd (by rwa [show i + 1 + j = i + (j + 1) by omega]) (fun k o'' h1 h2 h3 => ?_) ?_
    · have := hk (k + 1) o'' (by omega) (by simpa using h2) h3
      rwa [show i + (k + 1) = i + 1 + k by omega] at this
    · split
      · rw [setDst_length]; exact hl
      · exact hl
/-- The registers of the walk. -/
theorem Chain.regs {os : List Oper} {es : List Ent} {g g' : Regs} {s s' : St} (h : Chain E P all os es g s g' s') (i : Nat) : ∀ (j : Nat) (e : Ent), es[j]? = some e → regsL (fun k => decide (k < i + j)) i os es g = e.g := by
  induction h generalizing i with
  | nil => intro j e h; simp at h
  | @cons o os e0 es g' s' h t ih =>
    intro j e he
    cases j with
    | zero =>
      simp at he
      subst he
      unfold regsL
      simp only [Nat.add_zero, Nat.lt_irrefl, decide_false, Bool.false_eq_true, if_false]
      have : ∀ (os : List Oper) (k : Nat) (es : List Ent) (g : Regs), i < k → regsL (fun k => decide (k < i)) k os es g = g := by
        intro os
        induction os with
        | nil => intro k es g _; rfl
        | cons o os ih =>
          intro k es g hk
          cases es with
          | nil => rfl
          | cons e es =>
            unfold regsL
            rw [if_neg (by simp; omega)]
            exact ih _ _ _ (by omega)
      exact this os (i + 1) es _ (by omega)
    | succ j =>
      have := ih (i + 1) j e (by simpa using he)
      unfold regsL
      rw [if_pos (by simp), show i + (j + 1) = i + 1 + j by omega]
      exact this
theorem Chain.regs_end {os : List Oper} {es : List Ent} {g g' : Regs} {s s' : St} (h : Chain E P all os es g s g' s') (i : Nat) : regsL (fun _ => true) i os es g = g' := by
  induction h generalizing i with
  | nil => rfl
  | cons h t ih => unfold regsL; exact ih (i + 1)

/-! ### 3. The memory, when some have come up -/
theorem isE_W {d : DC} (h : isE d = true) : isW d = true := by cases d <;> simp [isE] at h <;> rfl
theorem top_lt {s : St} (ht : s.Top) {b : Nat} (h : isB (s.get b) = true) : b < s.next := by
  cases hg : s.get b with
  | none => rw [hg] at h; simp [isB] at h
  | some o => exact ht.lt hg
/-- An operation that makes an object, at most. -/
theorem StepOk.al {o : Oper} {e : Ent} (h : StepOk E P all o e) (hw : isE (dcl E all o) = false) : e.s' = e.s ∨ ∃ obj, e.s' = e.s.new obj := by
  cases hW : isW (dcl E all o)
  · exact .inl (h.pure hW)
  · rcases h with ⟨_, _, e⟩ | ⟨_, h⟩
    · exact .inl e
    · unfold ToldD at h
      cases hd : dcl E all o <;> rw [hd] at hW hw h <;> simp [isW, isE] at hW hw
      obtain ⟨obj, h, _⟩ := h
      exact .inr ⟨obj, h⟩
theorem StepOk.box {o : Oper} {e : Ent} (h : StepOk E P all o e) (hw : dcl E all o ≠ .Ef) : Boxes e.s e.s' := by
  cases hW : isE (dcl E all o)
  · rcases h.al hW with e1 | ⟨obj, e1⟩
    · rw [e1]; exact fun _ _ _ => rfl
    · rw [e1]; exact fun i hi _ => by rw [St.get_new, if_neg (by omega)]
  · rcases h with ⟨_, _, e1⟩ | ⟨_, h⟩
    · rw [e1]; exact fun _ _ _ => rfl
    · unfold ToldD at h
      cases hd : dcl E all o <;> rw [hd] at hW hw h <;> simp [isE] at hW hw <;> exact h.2.2

/-- The memory ahead of an operation, in the text's order. -/
def sg : St → List Ent → Nat → St
  | s, _, 0 => s
  | s, [], _ + 1 => s
  | _, e :: es, k + 1 => sg e.s' es k
theorem Chain.step {os : List Oper} {es : List Ent} {g g' : Regs} {s s' : St} (h : Chain E P all os es g s g' s') : ∀ (k : Nat), k < os.length → ∃ o e, os[k]? = some o ∧ es[k]? = some e ∧ StepOk E P all o e ∧ sg s es k = e.s ∧ sg s es (k + 1) = e.s' := by
  induction h with
  | nil => intro k h; simp at h
  | @cons o os e0 es g' s' h t ih =>
    intro k hk
    cases k with
    | zero => exact ⟨o, e0, rfl, rfl, h, rfl, by cases es <;> rfl⟩
    | succ k =>
      obtain ⟨o', e', h1, h2, h3, h4, h5⟩ := ih k (by simpa using hk)
      exact ⟨o', e', by simpa using h1, by simpa using h2, h3, h4, h5⟩
theorem Chain.sg_end {os : List Oper} {es : List Ent} {g g' : Regs} {s s' : St} (h : Chain E P all os es g s g' s') : sg s es os.length = s' := by
  induction h with
  | nil => rfl
  | cons h t ih => exact ih
theorem Chain.sg_low {os : List Oper} {es : List Ent} {g g' : Regs} {s s' : St} (h : Chain E P all os es g s g' s') {a : Nat} : ∀ d, a + d ≤ os.length → Low (sg s es a) (sg s es (a + d))
  | 0, _ => Low.refl _
  | d + 1, hd => by
    obtain ⟨o, e, h1, h2, h3, h4, h5⟩ := h.step (a + d) (by omega)
    have ih := h.sg_low (a := a) d (by omega)
    rw [h4] at ih
    rw [show a + (d + 1) = a + d + 1 by omega, h5]
    exact ih.trans h3.low

/-- Does an operation write? -/
def wAt (E : Env) (all : Array Oper) (os : List Oper) (k : Nat) : Bool := match os[k]? with | some o => isW (dcl E all o) | none => false
theorem wAt_eq {os : List Oper} {k : Nat} {o : Oper} (h : os[k]? = some o) : wAt E all os k = isW (dcl E all o) := by unfold wAt; rw [h]
/-- One more than the number of the last operation that has come up and that writes. -/
def topW (E : Env) (all : Array Oper) (L : Nat → Bool) (os : List Oper) : Nat → Nat
  | 0 => 0
  | n + 1 => if wAt E all os n && L n then n + 1 else topW E all L os n
theorem topW_le (L : Nat → Bool) (os : List Oper) : ∀ n, topW E all L os n ≤ n
  | 0 => Nat.le_refl _
  | n + 1 => by
    unfold topW
    split
    · exact Nat.le_refl _
    · exact Nat.le_succ_of_le (topW_le L os n)
theorem topW_hi {L : Nat → Bool} {os : List Oper} : ∀ {n k : Nat}, topW E all L os n ≤ k → k < n → wAt E all os k = true → L k = false
  | 0, k, _, h, _ => by omega
  | n + 1, k, h1, h2, h3 => by
    unfold topW at h1
    split at h1
    · omega
    · rename_i hn
      rcases Nat.lt_succ_iff_lt_or_eq.1 h2 with h2 | rfl
      · exact topW_hi h1 h2 h3
      · rw [h3] at hn
        cases hl : L k
        · rfl
        · rw [hl] at hn; simp at hn
theorem topW_pos {L : Nat → Bool} {os : List Oper} : ∀ {n m : Nat}, topW E all L os n = m + 1 → wAt E all os m = true ∧ L m = true
  | 0, m, h => by cases h
  | n + 1, m, h => by
    unfold topW at h
    split at h
    · rename_i hn
      simp only [Bool.and_eq_true] at hn
      injection h with h
      subst h
      exact hn
    · exact topW_pos h
theorem topW_congr {L M : Nat → Bool} {os : List Oper} : ∀ {n : Nat}, (∀ k, k < n → wAt E all os k = true → L k = M k) → topW E all L os n = topW E all M os n
  | 0, _ => rfl
  | n + 1, h => by
    unfold topW
    rw [topW_congr (n := n) fun k hk => h k (by omega)]
    cases hw : wAt E all os n
    · rfl
    · rw [h n (by omega) hw]
theorem topW_all {L : Nat → Bool} {os : List Oper} {n : Nat} (h : ∀ k, topW E all L os n ≤ k → k < n → wAt E all os k = true → L k = true) {k : Nat} (h1 : topW E all L os n ≤ k) (h2 : k < n) : wAt E all os k = false := by
  cases hw : wAt E all os k
  · rfl
  · have e1 := h k h1 h2 hw
    rw [topW_hi h1 h2 hw] at e1
    cases e1
theorem topW_up {L : Nat → Bool} {os : List Oper} {j : Nat} : ∀ {n : Nat}, j < n → wAt E all os j = true → L j = false → topW E all (fun k => if k = j then true else L k) os n = if topW E all L os n ≤ j then j + 1 else topW E all L os n
  | 0, h, _, _ => by omega
  | n + 1, h, hw, hl => by
    rcases Nat.lt_succ_iff_lt_or_eq.1 h with h | rfl
    · have ih := topW_up h hw hl
      unfold topW
      rw [if_neg (show ¬ n = j by omega), ih]
      split
      · rw [if_neg (by omega)]
      · rfl
    · have e1 := topW_le (E := E) (all := all) L os j
      unfold topW
      rw [if_pos rfl, hw, hl]
      simp only [Bool.and_self, if_true, Bool.and_false, Bool.false_eq_true, if_false]
      rw [if_pos e1]
def stL (E : Env) (all : Array Oper) (L : Nat → Bool) (os : List Oper) (es : List Ent) (s : St) : St := sg s es (topW E all L os os.length)

/-! ### 4. What lies between two operations -/
section
variable {os : List Oper} {es : List Ent} {g g' : Regs} {s s' : St}
theorem Chain.seg_id (h : Chain E P all os es g s g' s') {a : Nat} : ∀ d, a + d ≤ os.length → (∀ k, a ≤ k → k < a + d → wAt E all os k = false) → sg s es (a + d) = sg s es a
  | 0, _, _ => rfl
  | d + 1, hd, hk => by
    obtain ⟨o, e, h1, h2, h3, h4, h5⟩ := h.step (a + d) (by omega)
    have ih := h.seg_id (a := a) d (by omega) fun k h1 h2 => hk k h1 (by omega)
    have := hk (a + d) (by omega) (by omega)
    rw [wAt_eq h1] at this
    rw [show a + (d + 1) = a + d + 1 by omega, h5, h3.pure this, ← h4, ih]
theorem Chain.seg_R (h : Chain E P all os es g s g' s') {φ : Phi} {w : World} {Own : Nat → Prop} {a : Nat} (hR : R φ (sg s es a) w Own) : ∀ d, a + d ≤ os.length → (∀ k o, a ≤ k → k < a + d → os[k]? = some o → isE (dcl E all o) = false) → R φ (sg s es (a + d)) w Own
  | 0, _, _ => hR
  | d + 1, hd, hk => by
    obtain ⟨o, e, h1, h2, h3, h4, h5⟩ := h.step (a + d) (by omega)
    have ih := h.seg_R hR d (by omega) fun k o h1 h2 => hk k o h1 (by omega)
    rw [h4] at ih
    rw [show a + (d + 1) = a + d + 1 by omega, h5]
    rcases h3.al (hk (a + d) o (by omega) (by omega) h1) with e1 | ⟨obj, e1⟩
    · rw [e1]; exact ih
    · rw [e1]; exact ih.phantom obj
theorem Chain.seg_ext (h : Chain E P all os es g s g' s') {a : Nat} (ht : (sg s es a).Top) : ∀ d, a + d ≤ os.length → (∀ k o, a ≤ k → k < a + d → os[k]? = some o → isE (dcl E all o) = false) → Ext (sg s es a) (sg s es (a + d))
  | 0, _, _ => Ext.refl _
  | d + 1, hd, hk => by
    obtain ⟨o, e, h1, h2, h3, h4, h5⟩ := h.step (a + d) (by omega)
    have ih := h.seg_ext ht d (by omega) fun k o h1 h2 => hk k o h1 (by omega)
    have ht2 := (h.sg_low (a := a) d (by omega)).top ht
    rw [h4] at ih ht2
    rw [show a + (d + 1) = a + d + 1 by omega, h5]
    rcases h3.al (hk (a + d) o (by omega) (by omega) h1) with e1 | ⟨obj, e1⟩
    · rw [e1]; exact ih
    · rw [e1]; exact ih.trans (Ext.new ht2 obj)
theorem Chain.seg_box (h : Chain E P all os es g s g' s') {a : Nat} : ∀ d, a + d ≤ os.length → (∀ k o, a ≤ k → k < a + d → os[k]? = some o → dcl E all o ≠ .Ef) → Boxes (sg s es a) (sg s es (a + d))
  | 0, _, _ => fun _ _ _ => rfl
  | d + 1, hd, hk => by
    obtain ⟨o, e, h1, h2, h3, h4, h5⟩ := h.step (a + d) (by omega)
    have ih := h.seg_box (a := a) d (by omega) fun k o h1 h2 => hk k o h1 (by omega)
    have hl := (h.sg_low (a := a) d (by omega)).next
    rw [h4] at ih hl
    rw [show a + (d + 1) = a + d + 1 by omega, h5]
    have hb := h3.box (hk (a + d) o (by omega) (by omega) h1)
    intro i hi hbb
    have hi2 : i < e.s.next := Nat.lt_of_lt_of_le hi hl
    rcases hbb with hbb | hbb
    · have e1 := ih i hi (.inl hbb)
      rw [hb i hi2 (.inl (by rw [e1]; exact hbb)), e1]
    · have e1 := hb i hi2 (.inr hbb)
      rw [e1] at hbb ⊢
      exact ih i hi (.inr hbb)
theorem Chain.st_end (h : Chain E P all os es g s g' s') {L : Nat → Bool} (hL : ∀ k, k < os.length → wAt E all os k = true → L k = true) : stL E all L os es s = s' := by
  have hT : topW E all L os os.length ≤ os.length := topW_le ..
  have := h.seg_id (a := topW E all L os os.length) (os.length - topW E all L os os.length) (by omega) fun k h1 h2 => by
    cases hw : wAt E all os k
    · rfl
    · have k1 := hL k (by omega) hw
      rw [topW_hi h1 (by omega) hw] at k1
      cases k1
  rw [show topW E all L os os.length + (os.length - topW E all L os os.length) = os.length by omega, h.sg_end] at this
  exact this.symm
/-- What is known of objects that were made in the text's order, and that the world has not yet. -/
def Ghost (E : Env) (all : Array Oper) (L : Nat → Bool) (os : List Oper) (es : List Ent) (n : Nat) (φ : Phi) (st : St) : Prop :=
  ∀ k e obj, k < n → L k = false → wAt E all os k = true → es[k]? = some e → e.s' = e.s.new obj → Ph φ st e.s.next ∧ st.get e.s.next = some obj
theorem Chain.seg_ghost (h : Chain E P all os es g s g' s') {φ : Phi} {w : World} {Own : Nat → Prop} {L : Nat → Bool} {a : Nat} (hR : R φ (sg s es a) w Own) (hg : Ghost E all L os es a φ (sg s es a)) :
    ∀ d, a + d ≤ os.length → (∀ k o, a ≤ k → k < a + d → os[k]? = some o → isE (dcl E all o) = false) → Ghost E all L os es (a + d) φ (sg s es (a + d))
  | 0, _, _ => hg
  | d + 1, hd, hk => by
    obtain ⟨o, e, h1, h2, h3, h4, h5⟩ := h.step (a + d) (by omega)
    have ih := h.seg_ghost hR hg d (by omega) fun k o h1 h2 => hk k o h1 (by omega)
    have hR2 := h.seg_R hR d (by omega) fun k o h1 h2 => hk k o h1 (by omega)
    rw [h4] at ih hR2
    rw [show a + (d + 1) = a + d + 1 by omega, h5]
    intro k e' obj' hk' hl hw he hn
    rcases Nat.lt_succ_iff_lt_or_eq.1 hk' with hk' | rfl
    · obtain ⟨k1, k2⟩ := ih k e' obj' hk' hl hw he hn
      rcases h3.al (hk (a + d) o (by omega) (by omega) h1) with e1 | ⟨obj, e1⟩
      · rw [e1]; exact ⟨k1, k2⟩
      · rw [e1]
        refine ⟨k1.phantom hR2 obj, ?_⟩
        have := k1.lt
        rw [St.get_new, if_neg (by omega)]
        exact k2
    · rw [h2] at he
      injection he with he
      subst he
      rw [hn]
      exact ⟨Ph.made hR2 obj', by rw [St.get_new, if_pos rfl]⟩
end
end
end Go.Proofs.YtckalckfihhldaaDoorF
