/- The abstract heap machine, part 11: regions in the text's order. -/
import Derived.Test.YtckalckfihhldaaDoorF10
set_option linter.unusedVariables false
set_option linter.unusedSimpArgs false
namespace Go.Proofs.YtckalckfihhldaaDoorF
open Go

theorem set_getD : ∀ {g : Regs} {d : Nat} {v : Value}, g.getD d undef = v → g.set d v = g
  | [], _, _, _ => rfl
  | x :: g, 0, v, h => by simp at h; subst h; rfl
  | x :: g, d + 1, v, h => by
    have : g.getD d undef = v := by simpa using h
    simp [set_getD this]
theorem maskFrom_length (live : List Nat) : ∀ (i : Nat) (g : Regs), (maskFrom live i g).length = g.length
  | _, [] => rfl
  | i, v :: g => by simp [maskFrom, maskFrom_length live (i + 1) g]
theorem maskFrom_getD (live : List Nat) : ∀ (i : Nat) (g : Regs) (k : Nat), (maskFrom live i g).getD k undef = g.getD k undef ∨ (maskFrom live i g).getD k undef = undef
  | _, [], k => by simp [maskFrom]
  | i, v :: g, 0 => by
    unfold maskFrom
    split
    · exact .inl rfl
    · exact .inr rfl
  | i, v :: g, k + 1 => by
    unfold maskFrom
    simpa using maskFrom_getD live (i + 1) g k
theorem Rr.mask {φ : Phi} {g : Regs} {t : Array Value} (h : Rr φ g t) (m : Option (List Nat)) : Rr φ (mask m g) t := by
  unfold Go.Proofs.YtckalckfihhldaaDoorF.mask
  split
  · rename_i l
    refine ⟨by rw [maskFrom_length]; exact h.len, fun i => ?_⟩
    rcases maskFrom_getD l 0 g i with e | e
    · rw [e]; exact h.reg i
    · rw [e]; exact .any _
  · exact h
theorem Rr.bool {φ : Phi} {g : Regs} {t : Array Value} (h : Rr φ g t) {d : Nat} {b : Bool} (hg : g.getD d undef = .bool b) : t[d]? = some (.bool b) := by
  have := h.reg d
  rw [hg] at this
  have e := this.bool_inv
  rw [Array.getD_eq_getD_getElem?] at e
  cases ht : t[d]? with
  | none => rw [ht] at e; cases e
  | some v => rw [ht] at e; simpa using e
theorem put_defers (a : Act) (d : Option Tmp) (v : Value) : (a.put d v).defers = a.defers := by cases d <;> rfl
theorem Rr.args {φ : Phi} {l : List Value} {t : Array Value} (h : VL φ l t.toList) (n : Nat) : Rr φ (l ++ List.replicate (n - l.length) undef) (t ++ Array.replicate (n - t.size) undef) := by
  have hl : l.length = t.size := by simpa using h.length
  refine ⟨by simp [hl], fun i => ?_⟩
  have hr : VL φ (List.replicate (n - l.length) undef) (List.replicate (n - l.length) undef) := by
    generalize n - l.length = k
    induction k with
    | zero => exact .nil
    | succ k ih => exact .cons (.any _) ih
  have := h.append hr
  rw [List.getD_eq_getElem?_getD, Array.getD_eq_getD_getElem?]
  cases hx : (l ++ List.replicate (n - l.length) undef)[i]? with
  | none => exact .any _
  | some v =>
    obtain ⟨v', k1, k2⟩ := this.get _ _ hx
    have : (t ++ Array.replicate (n - t.size) undef)[i]? = some v' := by
      rw [← Array.getElem?_toList]
      simpa [hl] using k1
    rw [this]
    exact k2

/-! ### Regions in the text's order -/
def Next (φ : Phi) (s : St) (w : World) (Own : Nat → Prop) (df : List Deferred) (g' : Regs) (s' : St) (Q : Phi → Act → World → Prop) : Prop :=
  Low s s' → ∀ φ' w' Own' a', Phi.le φ φ' → R φ' s' w' Own' → Fr w w' Own Own' → Rr φ' g' a'.tmps → a'.defers = df → Q φ' a' w'
theorem Next.trans {φ φ1 : Phi} {s s1 s' : St} {w w1 : World} {Own Own1 : Nat → Prop} {df : List Deferred} {g' : Regs} {Q : Phi → Act → World → Prop}
    (h : Next φ s w Own df g' s' Q) (lo : Low s s1) (le : Phi.le φ φ1) (fr : Fr w w1 Own Own1) : Next φ1 s1 w1 Own1 df g' s' Q :=
  fun hl φ' w' Own' a' hle hR hF => h (lo.trans hl) φ' w' Own' a' (Phi.le_trans le hle) hR (fr.trans hF)
theorem Next.mono {φ : Phi} {s s' : St} {w : World} {Own : Nat → Prop} {df : List Deferred} {g' : Regs} {Q Q' : Phi → Act → World → Prop}
    (h : Next φ s w Own df g' s' Q) (hq : ∀ φ' a' w', Q φ' a' w' → Q' φ' a' w') : Next φ s w Own df g' s' Q' :=
  fun hl φ' w' Own' a' hle hR hF hr hd => hq _ _ _ (h hl φ' w' Own' a' hle hR hF hr hd)

section
variable {E : Env} {P : Program} {call : FuncId → List Value → St → Ans} {r : Out × St}

theorem kop_step (hE : E.Ok P) (hq : E.EqOk P) (hc : Calling E P call) {o : Oper} {g : Regs} {s : St} {K : Value → St → Ans} {Kp : List PanicEntry → St → Ans} (h : kop E call o g s K Kp = some r)
    {φ : Phi} {w : World} {Own : Nat → Prop} {a : Act} {next : Act → World → Prop} {Q : Exit → Act → World → Prop} (hg : Glob E φ) (hR : R φ s w Own) (hr : Rr φ g a.tmps)
    (hK : ∀ v s', K v s' = some r → Next φ s w Own a.defers (setDst g o.dst v) s' (fun _ a' w' => next a' w'))
    (hKp : ∀ ch s', Kp ch s' = some r → Next φ s w Own a.defers g s' (fun φ' a' w' => ∀ ch', CR φ' ch ch' → Q (.panic ch') a' w')) : o.wp P a w next Q := by
  rcases kop_told hE hq hc h with ⟨v, s', h1, h2⟩ | ⟨ch, s', h1, h2, h3, -⟩
  · obtain ⟨h2, h3⟩ := h2.sim
    exact h2 φ w Own a next Q hg hR hr fun φ' w' Own' v' hle hR' hF hv => hK v s' h1 h3 φ' w' Own' _ hle hR' hF ((hr.mono hle).put _ hv) (put_defers _ _ _)
  · exact h2 φ w Own a next Q hg hR hr fun φ' w' Own' ch' hle hR' hF hv => hKp ch s' h1 h3 φ' w' Own' a hle hR' hF (hr.mono hle) rfl ch' hv

theorem kops_sim (hE : E.Ok P) (hq : E.EqOk P) (hc : Calling E P call) {all : Array Oper} {K : Regs → St → Ans} {Kp : Regs → List PanicEntry → St → Ans} : ∀ (l : List Oper) (i : Nat) (g : Regs) (s : St),
    (∀ j, l[j]? = all[i + j]?) → kops E call all l g s K Kp = some r → ∀ φ w Own (a : Act) (Q : Exit → Act → World → Prop), Glob E φ → R φ s w Own → Rr φ g a.tmps →
    (∀ g' s', K g' s' = some r → Next φ s w Own a.defers g' s' (fun _ a' w' => Q .normal a' w')) →
    (∀ g' ch s', Kp g' ch s' = some r → Next φ s w Own a.defers g' s' (fun φ' a' w' => ∀ ch', CR φ' ch ch' → Q (.panic ch') a' w')) →
    wpOps P all Q (List.range' i l.length) a w
  | [], i, g, s, _, h, φ, w, Own, a, Q, hg, hR, hr, hK, _ => hK g s h (Low.refl s) φ w Own a (Phi.le_refl _) hR (Fr.refl w Own) hr rfl
  | o :: rest, i, g, s, hl, h, φ, w, Own, a, Q, hg, hR, hr, hK, hKp => by
    have ho : all[i]? = some o := by simpa using (hl 0).symm
    have hl' : ∀ j, rest[j]? = all[i + 1 + j]? := fun j => by
      have := hl (j + 1)
      rw [show i + (j + 1) = i + 1 + j by omega] at this
      simpa using this
    have go : ∀ (g : Regs), Rr φ g a.tmps → kop E call o g s (fun v s' => kops E call all rest (setDst g o.dst v) s' K Kp) (fun ch s' => Kp g ch s') = some r →
        o.wp P a w (wpOps P all Q (List.range' (i + 1) rest.length)) Q := fun g hr h => by
      refine kop_step hE hq hc h hg hR hr (fun v s' hv => ?_) (fun ch s' hv => hKp g ch s' hv)
      intro lo φ' w' Own' a' le hR' hF hr' hd
      refine kops_sim hE hq hc rest (i + 1) _ s' hl' hv φ' w' Own' a' Q (hg.mono le) hR' hr' (fun g'' s'' h'' => ?_) (fun g'' ch s'' h'' => ?_)
      · rw [hd]; exact (hK g'' s'' h'').trans lo le hF
      · rw [hd]; exact (hKp g'' ch s'' h'').trans lo le hF
    have skip : ∀ (g : Regs), Rr φ g a.tmps → kops E call all rest (setDst g o.dst skipV) s K Kp = some r →
        wpOps P all Q (List.range' (i + 1) rest.length) (a.put o.dst undef) w := fun g hr h => by
      refine kops_sim hE hq hc rest (i + 1) _ s hl' h φ w Own (a.put o.dst undef) Q hg hR (hr.put _ .skip) (fun g'' s'' h'' => ?_) (fun g'' ch s'' h'' => ?_)
      · rw [put_defers]; exact hK g'' s'' h''
      · rw [put_defers]; exact hKp g'' ch s'' h''
    simp only [List.length_cons, List.range'_succ, wpOps, ho]
    unfold kops at h
    split at h
    · rename_i hgd
      simp only [Region.wanted, hgd, if_true]
      exact .inl (go g hr h)
    · rename_i j want hgd
      split at h
      · cases h
      · rename_i d hd
        split at h
        · rename_i b hb
          have hy : yielded all a.tmps j = some b := by
            unfold yielded
            rw [hd]
            simp only [Option.bind_some]
            rw [hr.bool hb]
          simp only [Region.wanted, hgd, hy]
          cases b
          · rw [if_neg Bool.false_ne_true, set_getD hb] at h
            cases want
            · rw [if_neg Bool.false_ne_true] at h
              simpa using Or.inl (go g hr h)
            · rw [if_pos rfl] at h
              simpa using skip g hr h
          · rw [if_pos rfl, set_getD hb] at h
            cases want
            · rw [if_neg Bool.false_ne_true] at h
              simpa using skip g hr h
            · rw [if_pos rfl] at h
              simpa using Or.inl (go g hr h)
        · rename_i hb
          have hy : yielded all a.tmps j = none := by
            have hs := hr.reg d
            rw [hb] at hs
            have e := V.skip_inv hs
            unfold yielded
            rw [hd]
            simp only [Option.bind_some]
            rw [Array.getD_eq_getD_getElem?] at e
            cases hx : a.tmps[d]? with
            | none => rfl
            | some v => rw [hx] at e; simp at e; subst e; rfl
          simp only [Region.wanted, hgd, hy]
          simpa using skip g hr h
        · cases h

theorem kops_low (hE : E.Ok P) (hq : E.EqOk P) (hc : Calling E P call) {all : Array Oper} {K : Regs → St → Ans} {Kp : Regs → List PanicEntry → St → Ans} : ∀ (l : List Oper) (g : Regs) (s : St),
    kops E call all l g s K Kp = some r → (∃ g' s', K g' s' = some r ∧ Low s s') ∨ (∃ g' ch s', Kp g' ch s' = some r ∧ Low s s')
  | [], g, s, h => .inl ⟨g, s, h, Low.refl s⟩
  | o :: rest, g, s, h => by
    have go : ∀ (g : Regs), kop E call o g s (fun v s' => kops E call all rest (setDst g o.dst v) s' K Kp) (fun ch s' => Kp g ch s') = some r →
        (∃ g' s', K g' s' = some r ∧ Low s s') ∨ (∃ g' ch s', Kp g' ch s' = some r ∧ Low s s') := fun g h => by
      rcases kop_told hE hq hc h with ⟨v, s', h1, h2⟩ | ⟨ch, s', h1, h2, h3, -⟩
      · rcases kops_low hE hq hc rest _ _ h1 with ⟨g', s2, k1, k2⟩ | ⟨g', ch, s2, k1, k2⟩
        · exact .inl ⟨g', s2, k1, h2.sim.2.trans k2⟩
        · exact .inr ⟨g', ch, s2, k1, h2.sim.2.trans k2⟩
      · exact .inr ⟨_, ch, s', h1, h3⟩
    unfold kops at h
    split at h
    · exact go g h
    · split at h
      · cases h
      · split at h
        · split at h
          · split at h
            · exact go _ h
            · exact kops_low hE hq hc rest _ _ h
          · split at h
            · exact kops_low hE hq hc rest _ _ h
            · exact go _ h
        · exact kops_low hE hq hc rest _ _ h
        · cases h
end
end Go.Proofs.YtckalckfihhldaaDoorF
