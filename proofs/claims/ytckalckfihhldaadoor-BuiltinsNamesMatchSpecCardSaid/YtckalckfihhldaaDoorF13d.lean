/- The abstract heap machine, part 13d: a region that draws its order. -/
import Derived.Test.YtckalckfihhldaaDoorF13c
set_option linter.unusedVariables false
set_option linter.unusedSimpArgs false
namespace Go.Proofs.YtckalckfihhldaaDoorF
open Go

section
variable {E : Env} {P : Program} {all : Array Oper}

theorem bool_cases {b : Bool} (h : b ≠ true) : b = false := by cases b <;> simp_all

/-- An object that was made ahead of its time gets its block. -/
theorem R.fill {φ : Phi} {s : St} {w : World} {Own : Nat → Prop} (h : R φ s w Own) {n : Nat} {o : AObj} (hp : Ph φ s n) (hg : s.get n = some o) (oc : Obj) (l : Loc) (hb : l.block = w.heap.size)
    (hrel : ∀ ψ, Phi.le φ ψ → ψ n = some l → ORel ψ s (w.alloc oc) (fun k => Own k ∨ k = w.heap.size) l o) : R (Phi.put φ n l) s (w.alloc oc) (fun k => Own k ∨ k = w.heap.size) := by
  have le := Phi.put_le l hp.no
  have old : ∀ i m, φ i = some m → m.block < w.heap.size := h.lt
  have cases_ : ∀ i m, Phi.put φ n l i = some m → (i = n ∧ m = l) ∨ (i ≠ n ∧ φ i = some m) := by
    intro i m e
    unfold Phi.put at e
    split at e
    · rename_i hi; injection e with e; exact .inl ⟨hi, e.symm⟩
    · rename_i hi; exact .inr ⟨hi, e⟩
  refine ⟨h.top, fun i m e => ?_, fun i m e => ?_, fun k e => ?_, fun i m e => ?_, fun i j m q o' ei ej hne hbl ho hl => ?_⟩
  · rcases cases_ i m e with ⟨rfl, _⟩ | ⟨_, e⟩
    · exact hp.lt
    · exact h.dom i m e
  · rcases cases_ i m e with ⟨_, rfl⟩ | ⟨_, e⟩
    · simp [hb]
    · have := h.lt i m e; simp; omega
  · rcases e with e | e
    · have := h.ltOwn k e; simp; omega
    · simp [e]
  · rcases cases_ i m e with ⟨rfl, rfl⟩ | ⟨hi, e⟩
    · exact ⟨o, hg, hrel _ le (Phi.put_same ..)⟩
    · obtain ⟨o', h1, h2⟩ := h.obj i m e
      refine ⟨o', h1, h2.keep le (Nat.le_refl _) (fun _ _ hc => hc) ?_ ?_⟩
      · exact heap_alloc_old w oc (old i m e)
      · have := old i m e
        constructor
        · rintro (h | h)
          · exact h
          · omega
        · exact .inl
  · rcases cases_ i m ei with ⟨hi, hm⟩ | ⟨hi, ei2⟩
    · rcases cases_ j q ej with ⟨hj, _⟩ | ⟨hj, ej2⟩
      · exact absurd (hi.trans hj.symm) hne
      · have := old j q ej2; rw [hm] at hbl; omega
    · rcases cases_ j q ej with ⟨hj, e2⟩ | ⟨hj, ej2⟩
      · have := old i m ei2; rw [e2] at hbl; omega
      · exact h.sep i j m q o' ei2 ej2 hne hbl ho hl
theorem Ph.put {φ : Phi} {s : St} {p n : Nat} (h : Ph φ s p) (hne : p ≠ n) (l : Loc) (hr : ∀ r, s.get n = some (.row r) → r.mode = .own → r.root ≠ p) : Ph (Phi.put φ n l) s p := by
  refine ⟨h.lt, by unfold Phi.put; rw [if_neg hne]; exact h.no, fun i m r hi hg hm => ?_⟩
  unfold Phi.put at hi
  split at hi
  · rename_i e
    subst e
    exact hr r hg hm
  · exact h.line i m r hi hg hm

/-- What is known, when some have come up. -/
structure Inv (E : Env) (all : Array Oper) (os : List Oper) (es : List Ent) (g : Regs) (s : St) (df : List Deferred) (φ0 : Phi) (w0 : World) (Own0 : Nat → Prop) (L : Nat → Bool) (φ : Phi) (Own : Nat → Prop) (a : Act) (w : World) : Prop where
  le : Phi.le φ0 φ
  rel : R φ (stL E all L os es s) w Own
  gh : Ghost E all L os es (topW E all L os os.length) φ (stL E all L os es s)
  fr : Fr w0 w Own0 Own
  reg : Rr φ (regsL L 0 os es g) a.tmps
  df : a.defers = df

/-- What is known of a region's operations. -/
structure RegGood (E : Env) (all : Array Oper) : Prop where
  low : ∀ (k : Nat) (o : Oper), all[k]? = some o → ∀ e ∈ o.after.toList, Region.binds .any e = true → e.on < k
  pair : ∀ (k k' : Nat) (o o' : Oper), k < k' → all[k]? = some o → all[k']? = some o' → prec (befs all.toList []) k k' = true ∨ (o.apart all o' = true ∧ clash (dcl E all o) (dcl E all o') = false)
theorem RegGood.of (h : ordOk E all = true) : RegGood E all := by
  have key := pairsAll_sound (E := E) (all := all) (tab := befs all.toList []) all.toList 0 h
  refine ⟨fun k o ho e he hb => ?_, fun k k' o o' hk ho ho' => ?_⟩
  · have := (key k o (by simpa using ho)).1 e he hb
    omega
  · have := (key k o (by simpa using ho)).2 k' o' hk (by simpa using ho')
    simpa using this

def up (L : Nat → Bool) (j : Nat) : Nat → Bool := fun k => if k = j then true else L k
theorem Shut.up {L : Nat → Bool} (h : Shut all L) {j : Nat} {o : Oper} (ho : all[j]? = some o) (he : ∀ e ∈ o.after.toList, Region.binds .any e = true → L e.on = true) : Shut all (up L j) := by
  intro k o' ho' hk e hee hb
  unfold Go.Proofs.YtckalckfihhldaaDoorF.up at hk ⊢
  split
  · rfl
  · by_cases hkj : k = j
    · subst hkj
      rw [ho] at ho'
      injection ho' with ho'
      subst ho'
      exact he e hee hb
    · rw [if_neg hkj] at hk
      exact h k o' ho' hk e hee hb

theorem apart_after (x y : Oper) (h : x.apart all y = true) : (∀ d, y.dst = some d → d ∉ x.looksAt all) ∧ (∀ d, x.dst = some d → d ∉ y.looksAt all) ∧ (∀ d, x.dst = some d → y.dst ≠ some d) :=
  let ⟨a, b, c⟩ := Oper.apart_spec h
  ⟨c, a, b⟩

theorem step_any (hG : RegGood E all) {os : List Oper} {es : List Ent} {g g' : Regs} {s s' : St} (hC : Chain E P all os es g s g' s') (hos : ∀ k, k < os.length → os[k]? = all[k]?)
    {df : List Deferred} {φ0 : Phi} {w0 : World} {Own0 : Nat → Prop} {Q : Exit → Act → World → Prop} (hg0 : Glob E φ0) (ht : s.Top)
    {L : Nat → Bool} (hS : Shut all L) {j : Nat} {o : Oper} (hj : j < os.length) (ho : all[j]? = some o) (hLj : L j = false) (he : ∀ e ∈ o.after.toList, Region.binds .any e = true → L e.on = true)
    {φ : Phi} {Own : Nat → Prop} {a : Act} {w : World} (hI : Inv E all os es g s df φ0 w0 Own0 L φ Own a w) {K : Act → World → Prop}
    (hK : ∀ φ' Own' a' w', Inv E all os es g s df φ0 w0 Own0 (up L j) φ' Own' a' w' → K a' w') : wpOp P all Q j K a w := by
  have hS' := hS.up ho he
  obtain ⟨e, hee⟩ : ∃ e, es[j]? = some e := ⟨es[j]'(by rw [← hC.length]; exact hj), by simp⟩
  have hoj : os[j]? = some o := by rw [hos j hj]; exact ho
  have hstep := hC.get j o e hoj hee
  have lift : ∀ {k o'}, os[k]? = some o' → all[k]? = some o' := fun {k o'} h => by
    have hk : k < os.length := (List.getElem?_eq_some_iff.1 h).1
    rw [← hos k hk]; exact h
  -- what comes ahead has come up; what comes behind has not
  have before : ∀ k o', k < j → os[k]? = some o' → (o'.apart all o = false ∨ clash (dcl E all o') (dcl E all o) = true) → L k = true := fun k o' hk hok hc => by
    rcases hG.pair k j o' o hk (lift hok) ho with h | ⟨h1, h2⟩
    · have := prec_sound hS' h (by simp [up])
      unfold up at this
      rwa [if_neg (by omega)] at this
    · rcases hc with hc | hc
      · rw [h1] at hc; cases hc
      · rw [h2] at hc; cases hc
  have behind : ∀ k o', j < k → os[k]? = some o' → (o.apart all o' = false ∨ clash (dcl E all o) (dcl E all o') = true) → L k = false := fun k o' hk hok hc => by
    rcases hG.pair j k o o' hk ho (lift hok) with h | ⟨h1, h2⟩
    · refine bool_cases fun hl => ?_
      have := prec_sound hS h hl
      rw [hLj] at this
      cases this
    · rcases hc with hc | hc
      · rw [h1] at hc; cases hc
      · rw [h2] at hc; cases hc
  -- the registers that it looks at
  have hlen : (regsL L 0 os es g).length = g.length := regsL_length L os 0 es g
  have hglen : e.g.length = g.length := by
    rw [← hC.regs 0 j e hee, regsL_length]
  have hlook : ∀ i, i ∈ o.looksAt all → V φ (e.g.getD i undef) (a.tmps.getD i undef) := fun i hi => by
    have hagree : (regsL (fun k => decide (k < 0 + j)) 0 os es g).getD i undef = (regsL L 0 os es g).getD i undef := by
      refine regsL_agree os 0 es g g (fun k o' hok hd => ?_) rfl rfl
      rcases Nat.lt_trichotomy k j with hk | hk | hk
      · rw [show (0 : Nat) + k = k by omega, before k o' hk hok (.inl (bool_cases fun hap => (apart_after o' o hap).2.1 i hd hi))]
        simpa using hk
      · subst hk
        rw [show (0 : Nat) + k = k by omega, hLj]
        simp
      · rw [show (0 : Nat) + k = k by omega, behind k o' hk hok (.inl (bool_cases fun hap => (apart_after o o' hap).1 i hd hi))]
        simp
        omega
    rw [hC.regs 0 j e hee] at hagree
    rw [hagree]
    exact hI.reg.reg i
  have hmask : Rr φ (mask (some (o.looksAt all)) e.g) a.tmps := rr_looks (by rw [hglen, ← hlen]; exact hI.reg.len) hlook
  -- the registers behind it
  have hafter : ∀ {φ' : Phi} {v' : Value}, Phi.le φ φ' → V φ' e.v v' → Rr φ' (regsL (up L j) 0 os es g) (a.put o.dst v').tmps := fun {φ' v'} le hv => by
    refine ⟨?_, fun i => ?_⟩
    · rw [regsL_length, ← hlen, hI.reg.len]
      cases o.dst <;> simp [Act.put]
    · by_cases hd : o.dst = some i
      · by_cases hi : i < g.length
        · rw [regsL_last j os 0 es g o e hoj hee hd (by simp [up]) (fun k o' hk hok hd' => ?_) hi]
          · rw [hd]
            have hsz : i < a.tmps.size := by rw [← hI.reg.len, hlen]; exact hi
            simpa [Act.put, Array.getD_eq_getD_getElem?, hsz] using hv
          · rw [show (0 : Nat) + k = k by omega]
            unfold up
            rw [if_neg (by omega)]
            exact behind k o' hk hok (.inl (bool_cases fun hap => (apart_after o o' hap).2.2 i hd hd'))
        · have : (regsL (up L j) 0 os es g).length ≤ i := by rw [regsL_length]; omega
          rw [List.getD_eq_getElem?_getD, List.getElem?_eq_none this]
          exact .any _
      · have h1 : (regsL (up L j) 0 os es g).getD i undef = (regsL L 0 os es g).getD i undef := by
          refine regsL_agree os 0 es g g (fun k o' hok hd' => ?_) rfl rfl
          unfold up
          rw [if_neg]
          rintro hk
          rw [show (0 : Nat) + k = k by omega] at hk
          subst hk
          rw [hoj] at hok
          injection hok with hok
          subst hok
          exact hd hd'
        have h2 : (a.put o.dst v').tmps.getD i undef = a.tmps.getD i undef := by
          cases hx : o.dst with
          | none => rfl
          | some d =>
            have : d ≠ i := fun e => hd (by rw [hx, e])
            simp [Act.put, Array.getD_eq_getD_getElem?, Array.getElem?_setIfInBounds_ne this]
        rw [h1, h2]
        exact (hI.reg.reg i).mono le
  have hdf : ∀ v', (a.put o.dst v').defers = df := fun v' => by rw [put_defers]; exact hI.df
  -- the memory
  obtain ⟨o1, e1, hq1, hq2, -, hsj, hsj1⟩ := hC.step j hj
  rw [hoj] at hq1
  injection hq1 with hq1
  subst hq1
  rw [hee] at hq2
  injection hq2 with hq2
  subst hq2
  have hwj : wAt E all os j = isW (dcl E all o) := wAt_eq hoj
  obtain ⟨T, hT⟩ : ∃ T, T = topW E all L os os.length := ⟨_, rfl⟩
  have hTle : T ≤ os.length := by rw [hT]; exact topW_le ..
  have hThi : ∀ k, T ≤ k → k < os.length → wAt E all os k = true → L k = false := fun k h => topW_hi (by rw [← hT]; exact h)
  have hst : stL E all L os es s = sg s es T := by unfold stL; rw [← hT]
  have hrel := hI.rel
  have hgh := hI.gh
  rw [hst] at hrel
  rw [hst, ← hT] at hgh
  have ghUp : ∀ {n : Nat} {φ' : Phi} {st : St}, Ghost E all L os es n φ' st → Ghost E all (up L j) os es n φ' st := fun {n φ' st} h k e' obj hk hl => by
    unfold up at hl
    split at hl
    · cases hl
    · exact h k e' obj hk hl
  have stUp : ∀ {n : Nat}, topW E all (up L j) os os.length = n → stL E all (up L j) os es s = sg s es n := fun {n} h => by unfold stL; rw [h]
  have topN : isW (dcl E all o) = false → topW E all (up L j) os os.length = T := fun hw => by
    rw [hT]
    refine topW_congr fun k hk hw' => ?_
    unfold up
    rw [if_neg]
    rintro rfl
    rw [hwj, hw] at hw'
    cases hw'
  have topU : isW (dcl E all o) = true → topW E all (up L j) os os.length = if T ≤ j then j + 1 else T := fun hw => by
    rw [hT]
    exact topW_up hj (by rw [hwj, hw]) hLj
  have wOf : ∀ {k : Nat}, wAt E all os k = true → ∃ o', os[k]? = some o' ∧ isW (dcl E all o') = true := fun {k} h => by
    unfold wAt at h
    split at h
    · rename_i o' ho'; exact ⟨o', ho', h⟩
    · cases h
  have eLow : ∀ {k m : Nat} {o' : Oper}, os[k]? = some o' → isE (dcl E all o') = true → k < m → wAt E all os m = true → L m = true → L k = true := fun {k m o'} hk hE hkm hwm hlm => by
    obtain ⟨o2, h1, h2⟩ := wOf hwm
    rcases hG.pair k m o' o2 hkm (lift hk) (lift h1) with h | ⟨_, h⟩
    · exact prec_sound hS h hlm
    · cases hd1 : dcl E all o' <;> rw [hd1] at hE h <;> simp [isE] at hE <;> cases hd2 : dcl E all o2 <;> rw [hd2] at h2 h <;> simp [isW] at h2 <;> cases h
  have hg : Glob E φ := hg0.mono hI.le
  -- the text's memory, if nothing behind has come up
  have toJ : T ≤ j → (∀ k o', k < j → os[k]? = some o' → isE (dcl E all o') = true → L k = true) → R φ e.s w Own ∧ Ghost E all L os es j φ e.s := fun hTj hb => by
    have hno : ∀ k o', T ≤ k → k < T + (j - T) → os[k]? = some o' → isE (dcl E all o') = false := fun k o' h1 h2 h3 => by
      cases hE : isE (dcl E all o')
      · rfl
      · have k1 := hb k o' (by omega) h3 hE
        rw [hThi k h1 (by omega) (by rw [wAt_eq h3]; exact isE_W hE)] at k1
        cases k1
    have k1 := hC.seg_R hrel (j - T) (by omega) hno
    have k2 := hC.seg_ghost hrel hgh (j - T) (by omega) hno
    rw [show T + (j - T) = j by omega, hsj] at k1 k2
    exact ⟨k1, k2⟩
  have atP : (∀ k, k < j → wAt E all os k = true → L k = true) → T ≤ j → sg s es T = e.s := fun hb hTj => by
    have := hC.seg_id (a := T) (j - T) (by omega) fun k h1 h2 => by
      cases hw : wAt E all os k
      · rfl
      · have k1 := hb k (by omega) hw
        rw [hThi k h1 (by omega) hw] at k1
        cases k1
    rw [show T + (j - T) = j by omega, hsj] at this
    exact this.symm
  have bW : (∀ d, isW d = true → clash d (dcl E all o) = true) → ∀ k, k < j → wAt E all os k = true → L k = true := fun hcl k hk hw => by
    obtain ⟨o', h1, h2⟩ := wOf hw
    exact before k o' hk h1 (.inr (hcl _ h2))
  have aW : (∀ d, isW d = true → clash (dcl E all o) d = true) → T ≤ j := fun hcl => by
    rcases Nat.lt_or_ge j T with h | h
    · exfalso
      obtain ⟨m, rfl⟩ : ∃ m, T = m + 1 := ⟨T - 1, by omega⟩
      obtain ⟨h1, h2⟩ := topW_pos hT.symm
      rcases Nat.eq_or_lt_of_le (Nat.le_of_lt_succ h) with h3 | h3
      · subst h3; rw [hLj] at h2; cases h2
      · obtain ⟨o', h4, h5⟩ := wOf h1
        rw [behind m o' h3 h4 (.inr (hcl _ h5))] at h2
        cases h2
    · exact h
  -- what has come up behind, if none behind that may do anything
  have late : j < T → ∀ k o', j ≤ k → k < T → os[k]? = some o' → isE (dcl E all o') = true → clash (dcl E all o) (dcl E all o') = true → k = j := fun hjT k o' h1 h2 h3 h4 h5 => by
    rcases Nat.eq_or_lt_of_le h1 with h6 | h6
    · exact h6.symm
    · exfalso
      have k1 := behind k o' h6 h3 (.inr h5)
      obtain ⟨m, hm⟩ : ∃ m, T = m + 1 := ⟨T - 1, by omega⟩
      obtain ⟨k2, k3⟩ := topW_pos (hT.symm.trans hm)
      rcases Nat.eq_or_lt_of_le (show k ≤ m by omega) with h7 | h7
      · subst h7; rw [k1] at k3; cases k3
      · rw [eLow h3 h4 h7 k2 k3] at k1; cases k1
  have gh0 : (∀ k, k < j → wAt E all os k = true → L k = true) → ∀ {φ' : Phi} {st : St}, Ghost E all (up L j) os es (j + 1) φ' st := fun hb {φ' st} k e' obj hk hl hw => by
    exfalso
    unfold up at hl
    split at hl
    · cases hl
    · rw [hb k (by omega) hw] at hl
      cases hl
  -- an operation that leaves the memory as it is
  have plain : ∀ {w' : World} {Own' : Nat → Prop} {v' : Value}, topW E all (up L j) os os.length = T → R φ (sg s es T) w' Own' → Fr w w' Own Own' → V φ e.v v' → K (a.put o.dst v') w' := fun {w' Own' v'} htop hR hF hv =>
    hK φ Own' _ w' ⟨hI.le, by rw [stUp htop]; exact hR, by rw [stUp htop, htop]; exact ghUp hgh, hI.fr.trans hF, hafter (Phi.le_refl _) hv, hdf _⟩
  have after_ : isW (dcl E all o) = true → T ≤ j → ∀ {φ' : Phi} {w' : World} {Own' : Nat → Prop} {v' : Value}, Phi.le φ φ' → R φ' e.s' w' Own' → Ghost E all (up L j) os es (j + 1) φ' e.s' → Fr w w' Own Own' → V φ' e.v v' → K (a.put o.dst v') w' := fun hw hTj {φ' w' Own' v'} le hR hG' hF hv => by
    have htop := topU hw
    rw [if_pos hTj] at htop
    exact hK φ' Own' _ w' ⟨Phi.le_trans hI.le le, by rw [stUp htop, hsj1]; exact hR, by rw [stUp htop, htop, hsj1]; exact hG', hI.fr.trans hF, hafter le hv, hdf _⟩
  unfold wpOp
  simp only [ho]
  rcases hstep with ⟨hw, hv, hs⟩ | ⟨hw, htold⟩
  · rw [wanted_of hw hlook, if_neg Bool.false_ne_true]
    have hvs : V φ e.v undef := by rw [hv]; exact .skip
    cases hW : isW (dcl E all o)
    · exact plain (topN hW) hrel (Fr.refl _ _) hvs
    · rcases Nat.lt_or_ge j T with hjT | hTj
      · refine plain ?_ hrel (Fr.refl _ _) hvs
        rw [topU hW, if_neg (by omega)]
      · obtain ⟨k1, k2⟩ := toJ hTj fun k o' hk hok hE => before k o' hk hok (.inr (by
          cases hd1 : dcl E all o' <;> rw [hd1] at hE <;> simp [isE] at hE <;> cases hd2 : dcl E all o <;> rw [hd2] at hW <;> simp [isW] at hW <;> rfl))
        refine after_ hW hTj (Phi.le_refl _) (by rw [hs]; exact k1) (fun k e' obj hk hl hw' he' hn => ?_) (Fr.refl _ _) hvs
        rw [hs]
        unfold up at hl
        split at hl
        · cases hl
        · exact k2 k e' obj (by omega) hl hw' he' hn
  · rw [wanted_of hw hlook, if_pos rfl]
    refine .inl ?_
    unfold ToldD at htold
    cases hd : dcl E all o <;> rw [hd] at htold
    · obtain ⟨-, hp⟩ := htold
      obtain ⟨v', h1, h2⟩ := hp φ w a hg hmask
      unfold Oper.wp
      rw [h1]
      exact plain (topN (by rw [hd]; rfl)) hrel (Fr.refl _ _) h2
    · obtain ⟨-, hp⟩ := htold
      refine hp φ w a K Q hmask fun w' v' hs hk h1 h2 h3 hv => ?_
      refine plain (topN (by rw [hd]; rfl)) (hrel.world hs hk) ⟨h1, h2, h3, hs, fun k hk' _ => hk k hk', fun k h => .inl h⟩ hv
    · obtain ⟨-, hp⟩ := htold
      have hEf : ∀ d, isE d = true → clash d (dcl E all o) = true ∧ clash (dcl E all o) d = true := fun d h => by rw [hd]; cases d <;> simp [isE] at h <;> exact ⟨rfl, rfl⟩
      obtain ⟨s2, hx, hR2⟩ : ∃ s2, Ext e.s s2 ∧ R φ s2 w Own := by
        rcases Nat.lt_or_ge j T with hjT | hTj
        · refine ⟨_, ?_, hrel⟩
          have ht2 : (sg s es j).Top := by
            have := hC.sg_low (a := 0) j (by omega)
            rw [Nat.zero_add] at this
            exact this.top (by cases es <;> exact ht)
          have := hC.seg_ext ht2 (T - j) (by omega) fun k o' h1 h2 h3 => by
            cases hE : isE (dcl E all o')
            · rfl
            · have := late hjT k o' h1 (by omega) h3 hE (hEf _ hE).2
              subst this
              rw [hoj] at h3
              injection h3 with h3
              subst h3
              rw [hd] at hE
              cases hE
          rw [show j + (T - j) = T by omega, hsj] at this
          exact this
        · exact ⟨e.s, Ext.refl _, (toJ hTj fun k o' hk hok hE => before k o' hk hok (.inr (hEf _ hE).1)).1⟩
      obtain ⟨v', h1, h2⟩ := hp s2 hx φ w Own a hg hR2 hmask
      unfold Oper.wp
      rw [h1]
      exact plain (topN (by rw [hd]; rfl)) hrel (Fr.refl _ _) h2
    · obtain ⟨-, b, hb, hp⟩ := htold
      have hsame' : b < (sg s es T).next → (sg s es T).get b = e.s.get b := fun hlt => by
        rcases Nat.lt_or_ge j T with hjT | hTj
        · have ht2 : (sg s es j).Top := by
            have := hC.sg_low (a := 0) j (by omega)
            rw [Nat.zero_add] at this
            exact this.top (by cases es <;> exact ht)
          have := hC.seg_box (a := j) (T - j) (by omega) fun k o' h1 h2 h3 hE => by
            have hE' : isE (dcl E all o') = true := by rw [hE]; rfl
            have := late hjT k o' h1 (by omega) h3 hE' (by rw [hd, hE]; rfl)
            subst this
            rw [hoj] at h3
            injection h3 with h3
            subst h3
            rw [hd] at hE
            cases hE
          rw [show j + (T - j) = T by omega, hsj] at this
          rw [hsj] at ht2
          exact this b (top_lt ht2 hb) (.inl hb)
        · have := hC.seg_box (a := T) (j - T) (by omega) fun k o' h1 h2 h3 hE => by
            have k1 := before k o' (by omega) h3 (.inr (by rw [hd, hE]; rfl))
            rw [hThi k h1 (by omega) (by rw [wAt_eq h3, hE]; rfl)] at k1
            cases k1
          rw [show T + (j - T) = j by omega, hsj] at this
          exact (this b hlt (.inr hb)).symm
      obtain ⟨v', h1, h2⟩ := hp φ _ w Own a hg hrel hmask hsame'
      unfold Oper.wp
      rw [h1]
      exact plain (topN (by rw [hd]; rfl)) hrel (Fr.refl _ _) h2
    · obtain ⟨-, hp⟩ := htold
      have hTj := aW fun d h => by rw [hd]; cases d <;> simp [isW] at h <;> rfl
      have hst2 := atP (bW fun d h => by rw [hd]; cases d <;> simp [isW] at h <;> rfl) hTj
      rw [hst2] at hrel
      refine hp φ w Own a K Q hg hrel hmask fun w' Own' v' hR' hF hv => ?_
      exact plain (topN (by rw [hd]; rfl)) (by rw [hst2]; exact hR') hF hv
    · obtain ⟨obj, hnew, hp⟩ := htold
      have hW : isW (dcl E all o) = true := by rw [hd]; rfl
      have hb := bW fun d h => by rw [hd]; cases d <;> simp [isW] at h <;> rfl
      rcases Nat.lt_or_ge j T with hjT | hTj
      · obtain ⟨kp, kg⟩ := hgh j e obj hjT hLj (by rw [hwj, hW]) hee hnew
        obtain ⟨oc, l, v', h1, h2, h3⟩ := hp φ w a hg hmask
        have le := Phi.put_le l kp.no
        have htop : topW E all (up L j) os os.length = T := by rw [topU hW, if_neg (by omega)]
        unfold Oper.wp
        rw [h2]
        have hroot : ∀ r, obj = .row r → r.mode = .own → r.root ≤ e.s.next := fun r hr hm => by
          have := (h3 (Phi.put φ e.s.next l) { St.bare with next := e.s.next + 1 } (fun k => Own k ∨ k = w.heap.size) le (Phi.put_same ..) (.inr h1) (by simp)).1
          rw [hr, ORel.own hm] at this
          exact Nat.le_of_lt_succ this.2.1
        refine hK (Phi.put φ e.s.next l) _ _ _ ⟨Phi.le_trans hI.le le, ?_, ?_, hI.fr.trans (Fr.alloc w oc Own), hafter le (h3 _ (sg s es T) (fun k => Own k ∨ k = w.heap.size) le (Phi.put_same ..) (.inr h1) kp.lt).2, hdf _⟩
        · rw [stUp htop]
          exact hrel.fill kp kg oc l h1 fun ψ le' hl => (h3 ψ _ _ le' hl (.inr h1) kp.lt).1
        · rw [stUp htop, htop]
          intro k e' obj' hk hl hw' he' hn
          obtain ⟨hkj, hlk⟩ : k ≠ j ∧ L k = false := by
            unfold up at hl
            split at hl
            · cases hl
            · exact ⟨by assumption, hl⟩
          have hgt : j < k := by
            rcases Nat.lt_or_ge j k with h | h
            · exact h
            · have := hb k (by omega) hw'
              rw [hlk] at this
              cases this
          obtain ⟨q1, q2⟩ := hgh k e' obj' hk hlk hw' he' hn
          have hkn : e.s.next < e'.s.next := by
            obtain ⟨o3, e3, r1, r2, -, r3, -⟩ := hC.step k (by omega)
            rw [he'] at r2
            injection r2 with r2
            subst r2
            have := (hC.sg_low (a := j + 1) (k - (j + 1)) (by omega)).next
            rw [show j + 1 + (k - (j + 1)) = k by omega, hsj1, hnew, r3] at this
            simp at this
            omega
          refine ⟨q1.put (by omega) l fun r hr hm => ?_, q2⟩
          rw [kg] at hr
          injection hr with hr
          have := hroot r hr hm
          omega
      · have hst2 := atP hb hTj
        rw [hst2] at hrel
        refine hp.sim φ w Own a K Q hg hrel hmask fun φ' w' Own' v' le hR' hF hv => ?_
        exact after_ hW hTj le (by rw [hnew]; exact hR') (gh0 hb) hF hv
    · obtain ⟨hp, -⟩ := htold
      have hW : isW (dcl E all o) = true := by rw [hd]; rfl
      have hTj := aW fun d h => by rw [hd]; cases d <;> simp [isW] at h <;> rfl
      have hb := bW fun d h => by rw [hd]; cases d <;> simp [isW] at h <;> rfl
      rw [atP hb hTj] at hrel
      exact hp φ w Own a K Q hg hrel hmask fun φ' w' Own' v' le hR' hF hv => after_ hW hTj le hR' (gh0 hb) hF hv
    · obtain ⟨hp, -⟩ := htold
      have hW : isW (dcl E all o) = true := by rw [hd]; rfl
      have hTj := aW fun d h => by rw [hd]; cases d <;> simp [isW] at h <;> rfl
      obtain ⟨k1, k2⟩ := toJ hTj fun k o' hk hok hE => before k o' hk hok (.inr (by rw [hd]; cases hd1 : dcl E all o' <;> rw [hd1] at hE <;> simp [isE] at hE <;> rfl))
      refine hp φ w Own a K Q hg k1 hmask fun φ' w' Own' v' le hR' hF hv hkeep => after_ hW hTj le hR' (fun k e' obj hk hl hw' he' hn => ?_) hF hv
      unfold up at hl
      split at hl
      · cases hl
      · obtain ⟨q1, q2⟩ := k2 k e' obj (by omega) hl hw' he' hn
        obtain ⟨q3, q4⟩ := hkeep _ q1
        exact ⟨q3, q4.trans q2⟩
    · obtain ⟨hp, -⟩ := htold
      have hW : isW (dcl E all o) = true := by rw [hd]; rfl
      have hTj := aW fun d h => by rw [hd]; cases d <;> simp [isW] at h <;> rfl
      have hb := bW fun d h => by rw [hd]; cases d <;> simp [isW] at h <;> rfl
      rw [atP hb hTj] at hrel
      exact hp φ w Own a K Q hg hrel hmask fun φ' w' Own' v' le hR' hF hv => after_ hW hTj le hR' (gh0 hb) hF hv

/-- Whatever order is drawn. -/
def unl (ls : Array Bool) : Nat := ls.toList.countP (fun b => !b)
theorem unl_set {ls : Array Bool} {j : Nat} (h : ls.getD j true = false) : unl (ls.setIfInBounds j true) + 1 = unl ls := by
  have hj : j < ls.size := by
    rcases Nat.lt_or_ge j ls.size with h' | h'
    · exact h'
    · simp [Array.getD_eq_getD_getElem?, Array.getElem?_eq_none h'] at h
  have hv : ls.toList[j]'(by simpa using hj) = false := by simpa [Array.getD_eq_getD_getElem?, hj] using h
  unfold unl
  rw [Array.toList_setIfInBounds, List.countP_set (by simpa using hj), hv]
  have : 0 < ls.toList.countP (fun b => !b) := List.countP_pos_iff.2 ⟨false, by rw [← hv]; exact List.getElem_mem _, rfl⟩
  simp only [Bool.not_false, Bool.not_true, if_true, Bool.false_eq_true, if_false, Nat.add_zero]
  omega
theorem unl_zero {ls : Array Bool} (h : unl ls = 0) {k : Nat} (hk : k < ls.size) : ls.getD k false = true := by
  unfold unl at h
  rw [List.countP_eq_zero] at h
  have := h (ls[k]) (by simp)
  simpa [Array.getD_eq_getD_getElem?, hk] using this
theorem getD_lt {ls : Array Bool} {j : Nat} (h : ls.getD j true = false) : j < ls.size ∧ ls.getD j false = false := by
  have hj : j < ls.size := by
    rcases Nat.lt_or_ge j ls.size with h' | h'
    · exact h'
    · simp [Array.getD_eq_getD_getElem?, Array.getElem?_eq_none h'] at h
  exact ⟨hj, by simpa [Array.getD_eq_getD_getElem?, hj] using h⟩
theorem up_eq {ls : Array Bool} {j : Nat} (hj : j < ls.size) : (fun k => (ls.setIfInBounds j true).getD k false) = up (fun k => ls.getD k false) j := by
  funext k
  unfold up
  by_cases h : k = j
  · subst h
    simp [Array.getD_eq_getD_getElem?, hj]
  · rw [if_neg h]
    simp [Array.getD_eq_getD_getElem?, Array.getElem?_setIfInBounds_ne (Ne.symm h)]

theorem any_order (hG : RegGood E all) {os : List Oper} {es : List Ent} {g g' : Regs} {s s' : St} (hC : Chain E P all os es g s g' s') (hle : os.length ≤ all.size) (hos : ∀ k, k < os.length → os[k]? = all[k]?)
    {df : List Deferred} {φ0 : Phi} {w0 : World} {Own0 : Nat → Prop} {Q : Exit → Act → World → Prop} (hg0 : Glob E φ0) (ht : s.Top)
    (hfin : ∀ L φ Own a w, (∀ k, k < all.size → L k = true) → (∀ k, os.length ≤ k → L k = false) → Inv E all os es g s df φ0 w0 Own0 L φ Own a w → Q .normal a w)
    (hpan : ∀ L φ Own a w j o (K : Act → World → Prop), Shut all L → os.length ≤ j → all[j]? = some o → L j = false → (∀ k, os.length ≤ k → L k = false) → (∀ e ∈ o.after.toList, Region.binds .any e = true → L e.on = true) → Inv E all os es g s df φ0 w0 Own0 L φ Own a w → wpOp P all Q j K a w) :
    ∀ (fuel : Nat) (ls : Array Bool), ls.size = all.size → unl ls ≤ fuel → Shut all (fun k => ls.getD k false) → (∀ k, os.length ≤ k → ls.getD k false = false) → ∀ φ Own a w, Inv E all os es g s df φ0 w0 Own0 (fun k => ls.getD k false) φ Own a w → wpAny P .any all Q fuel ls a w := by
  have fin : ∀ (ls : Array Bool), ls.size = all.size → Region.ready .any all ls = [] → Shut all (fun k => ls.getD k false) → (∀ k, k < all.size → ls.getD k false = true) := by
    intro ls hsz hr hS
    -- the first that has not come up could come up
    have : ∀ n k, k < n → k < all.size → ls.getD k false = true := by
      intro n
      induction n with
      | zero => intro k h; omega
      | succ n ih =>
        intro k hk hks
        rcases Nat.lt_succ_iff_lt_or_eq.1 hk with hk' | rfl
        · exact ih k hk' hks
        · cases hb : ls.getD k false
          · have hmem : k ∈ Region.ready .any all ls := by
              rw [mem_ready]
              refine ⟨?_, all[k], by simp [hks], fun e he heb => ?_⟩
              · simpa [Array.getD_eq_getD_getElem?, hsz, hks] using hb
              · have hlt := hG.low k all[k] (by simp [hks]) e (by simpa using he) heb
                exact ih e.on hlt (by omega)
            rw [hr] at hmem
            cases hmem
          · rfl
    intro k hk
    exact this (k + 1) k (by omega) hk
  intro fuel
  induction fuel with
  | zero =>
    intro ls hsz hf hS hhi φ Own a w hI
    have h0 : unl ls = 0 := by omega
    have hall : ∀ k, k < all.size → ls.getD k false = true := fun k hk => unl_zero h0 (by omega)
    refine ⟨?_, hfin _ _ _ _ _ hall hhi hI⟩
    cases hr : Region.ready .any all ls with
    | nil => rfl
    | cons j l =>
      have hm : j ∈ Region.ready .any all ls := by rw [hr]; simp
      obtain ⟨h1, _⟩ := mem_ready.1 hm
      obtain ⟨h2, h3⟩ := getD_lt h1
      rw [hall j (by omega)] at h3
      cases h3
  | succ fuel ih =>
    intro ls hsz hf hS hhi φ Own a w hI
    refine ⟨fun hr => hfin _ _ _ _ _ (fin ls hsz hr hS) hhi hI, fun j hj => ?_⟩
    obtain ⟨h1, o, ho, hed⟩ := mem_ready.1 hj
    obtain ⟨h2, h3⟩ := getD_lt h1
    have hed' : ∀ e ∈ o.after.toList, Region.binds .any e = true → ls.getD e.on false = true := fun e he hb => hed e (by simpa using he) hb
    rcases Nat.lt_or_ge j os.length with hlt | hge
    · refine step_any hG hC hos hg0 ht hS hlt ho h3 hed' hI fun φ' Own' a' w' hI' => ?_
      refine ih (ls.setIfInBounds j true) (by simpa using hsz) (by have := unl_set h1; omega) ?_ (fun k hk => ?_) φ' Own' a' w' ?_
      · rw [up_eq h2]; exact hS.up ho hed'
      · have : (ls.setIfInBounds j true).getD k false = up (fun k => ls.getD k false) j k := congrFun (up_eq h2) k
        rw [this]
        unfold up
        rw [if_neg (by omega)]
        exact hhi k hk
      · rw [up_eq h2]; exact hI'
    · exact hpan _ _ _ _ _ j o _ hS hge ho h3 hhi hed' hI
end
end Go.Proofs.YtckalckfihhldaaDoorF
