/- The abstract heap machine, part 13c: the check of a region; its walk serves every order. -/
import Derived.Test.YtckalckfihhldaaDoorF13b
set_option linter.unusedVariables false
set_option linter.unusedSimpArgs false
namespace Go.Proofs.YtckalckfihhldaaDoorF
open Go

/-! ### 1. The check -/
def Shut (all : Array Oper) (L : Nat → Bool) : Prop := ∀ j o, all[j]? = some o → L j = true → ∀ e ∈ o.after.toList, Region.binds .any e = true → L e.on = true
theorem befs_sound {all : Array Oper} {L : Nat → Bool} (hs : Shut all L) : ∀ (os : List Oper) (tab : List (List Nat)), (∀ k, os[k]? = all[tab.length + k]?) → (∀ j, ∀ i ∈ tab.getD j [], L j = true → L i = true) →
    ∀ j, ∀ i ∈ (befs os tab).getD j [], L j = true → L i = true
  | [], tab, _, h => h
  | o :: os, tab, hl, h => by
    unfold befs
    refine befs_sound hs os _ (fun k => ?_) fun j i hi hj => ?_
    · have := hl (k + 1)
      simp only [List.getElem?_cons_succ] at this
      rw [this]
      congr 1
      simp
      omega
    · rw [List.getD_eq_getElem?_getD] at hi
      rcases Nat.lt_trichotomy j tab.length with hlt | heq | hgt
      · rw [List.getElem?_append_left hlt] at hi
        exact h j i (by rw [List.getD_eq_getElem?_getD]; exact hi) hj
      · subst heq
        simp only [List.getElem?_concat_length, Option.getD_some, List.mem_flatMap, List.mem_filter] at hi
        obtain ⟨e, ⟨he, hb⟩, hi⟩ := hi
        have ho : all[tab.length]? = some o := by simpa using (hl 0).symm
        have hon := hs _ o ho hj e he hb
        rcases List.mem_cons.1 hi with rfl | hi
        · exact hon
        · exact h _ i hi hon
      · rw [List.getElem?_eq_none (by simp; omega)] at hi
        simp at hi
theorem prec_sound {all : Array Oper} {L : Nat → Bool} (hs : Shut all L) {i j : Nat} (h : prec (befs all.toList []) i j = true) (hj : L j = true) : L i = true :=
  befs_sound hs all.toList [] (by simp) (fun j i hi => by simp at hi) j i (by simpa [prec] using h) hj

theorem pairRow_sound {E : Env} {all : Array Oper} {tab : List (List Nat)} {x : Oper} {i : Nat} : ∀ (os : List Oper) (j : Nat), pairRow E all tab x i j os = true → ∀ k o, os[k]? = some o →
    prec tab i (j + k) = true ∨ (x.apart all o = true ∧ clash (dcl E all x) (dcl E all o) = false)
  | [], _, _, k, o, h => by simp at h
  | y :: os, j, hp, k, o, h => by
    simp only [pairRow, Bool.and_eq_true, Bool.or_eq_true, Bool.not_eq_true'] at hp
    cases k with
    | zero => simp at h; subst h; exact hp.1
    | succ k =>
      have := pairRow_sound os (j + 1) hp.2 k o (by simpa using h)
      rwa [show j + 1 + k = j + (k + 1) by omega] at this
theorem pairsAll_sound {E : Env} {all : Array Oper} {tab : List (List Nat)} : ∀ (os : List Oper) (i : Nat), pairsAll E all tab i os = true → ∀ k o, os[k]? = some o →
    (∀ e ∈ o.after.toList, Region.binds .any e = true → e.on < i + k) ∧ ∀ k' o', k < k' → os[k']? = some o' → prec tab (i + k) (i + k') = true ∨ (o.apart all o' = true ∧ clash (dcl E all o) (dcl E all o') = false)
  | [], _, _, k, o, h => by simp at h
  | x :: os, i, hp, k, o, h => by
    simp only [pairsAll, Bool.and_eq_true] at hp
    cases k with
    | zero =>
      simp at h
      subst h
      refine ⟨fun e he hb => by have := List.all_eq_true.1 hp.1.1 e he; rw [hb] at this; simpa using this, fun k' o' hk ho' => ?_⟩
      cases k' with
      | zero => omega
      | succ k' =>
        have := pairRow_sound os (i + 1) hp.1.2 k' o' (by simpa using ho')
        rwa [show i + 1 + k' = i + (k' + 1) by omega] at this
    | succ k =>
      have ih := pairsAll_sound os (i + 1) hp.2 k o (by simpa using h)
      refine ⟨fun e he hb => by have := ih.1 e he hb; omega, fun k' o' hk ho' => ?_⟩
      cases k' with
      | zero => omega
      | succ k' =>
        have := ih.2 k' o' (by omega) (by simpa using ho')
        rwa [show i + 1 + k = i + (k + 1) by omega, show i + 1 + k' = i + (k' + 1) by omega] at this

/-! ### 2. The walk is there -/
section
variable {E : Env} {P : Program} {call : FuncId → List Value → St → Ans} {r : Out × St} {all : Array Oper}
theorem kguard_sound {o : Oper} {g : Regs} {A B : Regs → Ans} (h : kguard all o g A B = some r) : (Wants all o g true ∧ A g = some r) ∨ (Wants all o g false ∧ B g = some r) := by
  unfold kguard at h
  unfold Wants
  split at h
  · rename_i hg
    rw [hg]
    exact .inl ⟨rfl, h⟩
  · rename_i j want hg
    rw [hg]
    split at h
    · cases h
    · rename_i d hd
      split at h
      · rename_i b hb
        cases b
        · rw [if_neg Bool.false_ne_true, set_getD hb] at h
          cases want
          · rw [if_neg Bool.false_ne_true] at h
            exact .inl ⟨⟨d, hd, .inl ⟨false, hb, rfl⟩⟩, h⟩
          · rw [if_pos rfl] at h
            exact .inr ⟨⟨d, hd, .inl ⟨false, hb, rfl⟩⟩, h⟩
        · rw [if_pos rfl, set_getD hb] at h
          cases want
          · rw [if_neg Bool.false_ne_true] at h
            exact .inr ⟨⟨d, hd, .inl ⟨true, hb, rfl⟩⟩, h⟩
          · rw [if_pos rfl] at h
            exact .inl ⟨⟨d, hd, .inl ⟨true, hb, rfl⟩⟩, h⟩
      · rename_i hb
        exact .inr ⟨⟨d, hd, .inr ⟨hb, rfl⟩⟩, h⟩
      · cases h

theorem kopsD_trace (hE : E.Ok P) (hq : E.EqOk P) (hc : Calling E P call) (hz : E.noGlob = true → ∀ b, E.glob b = false) {K : Regs → St → Ans} {Kp : Nat → List PanicEntry → St → Ans} : ∀ (os : List Oper) (i : Nat) (g : Regs) (s : St),
    kopsD E call all i os g s K Kp = some r →
    (∃ es g' s', Chain E P all os es g s g' s' ∧ K g' s' = some r) ∨
    (∃ os' o tail es g' s' ch s2, os = os' ++ o :: tail ∧ Chain E P all os' es g s g' s' ∧ Wants all o g' true ∧ (isE (dcl E all o) = true ∧ dcl E all o ≠ .Ap) ∧ OpPan E P o (mask (some (o.looksAt all)) g') s' ch s2 ∧ Low s' s2 ∧ Kp (i + os'.length) ch s2 = some r)
  | [], i, g, s, h => .inl ⟨[], g, s, .nil, h⟩
  | o :: os, i, g, s, h => by
    unfold kopsD at h
    have more : ∀ v s', StepOk E P all o ⟨g, s, v, s'⟩ → kopsD E call all (i + 1) os (setDst g o.dst v) s' K Kp = some r → _ := fun v s' hs h => kopsD_trace hE hq hc hz os (i + 1) _ _ h
    have join : ∀ v s', StepOk E P all o ⟨g, s, v, s'⟩ → kopsD E call all (i + 1) os (setDst g o.dst v) s' K Kp = some r →
        (∃ es g' s', Chain E P all (o :: os) es g s g' s' ∧ K g' s' = some r) ∨
        (∃ os' o' tail es g' s' ch s2, o :: os = os' ++ o' :: tail ∧ Chain E P all os' es g s g' s' ∧ Wants all o' g' true ∧ (isE (dcl E all o') = true ∧ dcl E all o' ≠ .Ap) ∧ OpPan E P o' (mask (some (o'.looksAt all)) g') s' ch s2 ∧ Low s' s2 ∧ Kp (i + os'.length) ch s2 = some r) := fun v s' hs h => by
      rcases kopsD_trace hE hq hc hz os (i + 1) _ _ h with ⟨es, g', s2, h1, h2⟩ | ⟨os', o', tail, es, g', s2, ch, s3, h1, h2, h3, h4, h5, h6, h7⟩
      · exact .inl ⟨⟨g, s, v, s'⟩ :: es, g', s2, Chain.cons (e := ⟨g, s, v, s'⟩) hs h1, h2⟩
      · refine .inr ⟨o :: os', o', tail, ⟨g, s, v, s'⟩ :: es, g', s2, ch, s3, by rw [h1]; rfl, Chain.cons (e := ⟨g, s, v, s'⟩) hs h2, h3, h4, h5, h6, ?_⟩
        rw [← h7]
        congr 1
        simp
        omega
    rcases kguard_sound h with ⟨hw, h⟩ | ⟨hw, h⟩
    · rcases kopD_told hE hq hc hz h with ⟨v, s', h1, h2⟩ | ⟨ch, s', h1, h2, h3, h4⟩
      · exact join v s' (.inr ⟨hw, h2⟩) h1
      · exact .inr ⟨[], o, os, [], g, s, ch, s', rfl, .nil, hw, h4, h2, h3, by simpa using h1⟩
    · exact join skipV s (.inl ⟨hw, rfl, rfl⟩) h

theorem kopsD_low (hE : E.Ok P) (hq : E.EqOk P) (hc : Calling E P call) (hz : E.noGlob = true → ∀ b, E.glob b = false) {K : Regs → St → Ans} {Kp : Nat → List PanicEntry → St → Ans} {os : List Oper} {i : Nat} {g : Regs} {s : St}
    (h : kopsD E call all i os g s K Kp = some r) : (∃ g' s', K g' s' = some r ∧ Low s s') ∨ (∃ i ch s', Kp i ch s' = some r ∧ Low s s') := by
  rcases kopsD_trace hE hq hc hz os i g s h with ⟨es, g', s2, h1, h2⟩ | ⟨os', o', tail, es, g', s2, ch, s3, h1, h2, h3, h4, h5, h6, h7⟩
  · exact .inl ⟨g', s2, h2, h1.low⟩
  · exact .inr ⟨_, ch, s3, h7, h2.low.trans h6⟩
end

/-! ### 3. Registers that an operation looks at -/
theorem maskFrom_eq (live : List Nat) : ∀ (g : Regs) (i k : Nat), (maskFrom live i g).getD k undef = if live.contains (i + k) then g.getD k undef else undef
  | [], i, k => by simp [maskFrom]
  | v :: g, i, 0 => by simp [maskFrom]
  | v :: g, i, k + 1 => by
    have := maskFrom_eq live g (i + 1) k
    rw [show i + 1 + k = i + (k + 1) by omega] at this
    simpa [maskFrom] using this
theorem rr_looks {φ : Phi} {l : List Nat} {g : Regs} {t : Array Value} (hl : g.length = t.size) (h : ∀ i, i ∈ l → V φ (g.getD i undef) (t.getD i undef)) : Rr φ (mask (some l) g) t := by
  refine ⟨by show (maskFrom l 0 g).length = _; rw [maskFrom_length]; exact hl, fun i => ?_⟩
  show V φ ((maskFrom l 0 g).getD i undef) _
  rw [maskFrom_eq]
  split
  · rename_i hi
    exact h i (by simpa using hi)
  · exact .any _
theorem wanted_of {φ : Phi} {all : Array Oper} {o : Oper} {g : Regs} {t : Array Value} {b : Bool} (h : Wants all o g b) (hv : ∀ i, i ∈ o.looksAt all → V φ (g.getD i undef) (t.getD i undef)) : Region.wanted o (yielded all t) = b := by
  unfold Wants at h
  unfold Region.wanted
  split at h
  · rename_i hg
    rw [hg, h]
  · rename_i j want hg
    obtain ⟨d, h1, h2⟩ := h
    rw [hg]
    have hd : d ∈ o.looksAt all := by
      unfold Oper.looksAt
      rw [hg]
      simp [h1]
    have hvd := hv d hd
    rcases h2 with ⟨c, h2, h3⟩ | ⟨h2, h3⟩
    · rw [h2] at hvd
      have e := hvd.bool_inv
      have ht : t[d]? = some (.bool c) := by
        rw [Array.getD_eq_getD_getElem?] at e
        cases hx : t[d]? with
        | none => rw [hx] at e; cases e
        | some v => rw [hx] at e; simpa using e
      have hy : yielded all t j = some c := by
        unfold yielded
        rw [h1]
        simp only [Option.bind_some]
        rw [ht]
      simp only [hy, h3]
      cases c <;> cases want <;> rfl
    · rw [h2] at hvd
      have e := V.skip_inv hvd
      have hy : yielded all t j = none := by
        unfold yielded
        rw [h1]
        simp only [Option.bind_some]
        rw [Array.getD_eq_getD_getElem?] at e
        cases hx : t[d]? with
        | none => rfl
        | some v => rw [hx] at e; simp at e; subst e; rfl
      simp only [hy, h3]
      rfl
theorem clear_getD : ∀ (ops : List Oper) (g : Regs) (i : Nat), (clear ops g).getD i undef = undef ∨ ((∀ o ∈ ops, o.dst ≠ some i) ∧ (clear ops g).getD i undef = g.getD i undef)
  | [], g, i => .inr ⟨by simp, rfl⟩
  | o :: ops, g, i => by
    show (clear ops (setDst g o.dst undef)).getD i undef = undef ∨ _ ∧ (clear ops (setDst g o.dst undef)).getD i undef = _
    rcases clear_getD ops (setDst g o.dst undef) i with h | ⟨h1, h2⟩
    · exact .inl h
    · by_cases hd : o.dst = some i
      · left
        rw [h2, hd]
        by_cases hl : i < g.length
        · exact setDst_same hl
        · have : (setDst g (some i) undef).length ≤ i := by rw [setDst_length]; omega
          simp [List.getD_eq_getElem?_getD, List.getElem?_eq_none this]
      · right
        refine ⟨fun o' ho' => ?_, by rw [h2, setDst_getD hd]⟩
        rcases List.mem_cons.1 ho' with rfl | ho'
        · exact hd
        · exact h1 o' ho'
theorem clear_length : ∀ (ops : List Oper) (g : Regs), (clear ops g).length = g.length
  | [], g => rfl
  | o :: ops, g => by
    show (clear ops (setDst g o.dst undef)).length = _
    rw [clear_length ops, setDst_length]
end Go.Proofs.YtckalckfihhldaaDoorF
