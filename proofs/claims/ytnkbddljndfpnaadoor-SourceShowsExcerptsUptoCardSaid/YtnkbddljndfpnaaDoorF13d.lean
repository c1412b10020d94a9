/- The abstract heap machine, part 13d: a region that draws its order. -/
import Derived.Test.YtnkbddljndfpnaaDoorF13c
set_option linter.unusedVariables false
set_option linter.unusedSimpArgs false
namespace Go.Proofs.YtnkbddljndfpnaaDoorF
open Go

section
variable {E : Env} {P : Program} {all : Array Oper}

theorem bool_cases {b : Bool} (h : b ≠ true) : b = false := by cases b <;> simp_all

/-- What is known, when some have come up. -/
structure Inv (E : Env) (all : Array Oper) (os : List Oper) (es : List Ent) (g : Regs) (s : St) (df : List Deferred) (φ0 : Phi) (w0 : World) (Own0 : Nat → Prop) (L : Nat → Bool) (φ : Phi) (Own : Nat → Prop) (a : Act) (w : World) : Prop where
  le : Phi.le φ0 φ
  rel : R φ (stL E all L 0 os es s) w Own
  fr : Fr w0 w Own0 Own
  reg : Rr φ (regsL L 0 os es g) a.tmps
  df : a.defers = df

/-- What is known of a region's operations. -/
structure RegGood (E : Env) (all : Array Oper) : Prop where
  low : ∀ (k : Nat) (o : Oper), all[k]? = some o → ∀ e ∈ o.after.toList, Region.binds .any e = true → e.on < k
  pair : ∀ (k k' : Nat) (o o' : Oper), k < k' → all[k]? = some o → all[k']? = some o' → prec (befs all.toList []) k k' = true ∨ (o.apart all o' = true ∧ clash (dcl E all o) (dcl E all o') = false)
theorem RegGood.of (h : ordOk E all = true) : RegGood E all := by
  have key := pairsAll_sound (E := E) (all := all) (tab := befs all.toList []) all.toList 0 h
  refine ⟨fun k o ho e he hb => ?_, fun k k' o o' hk ho ho' => ?_⟩
  · have := (key k o (by simpa using ho)).1 e he hb
    omega
  · have := (key k o (by simpa using ho)).2 k' o' hk (by simpa using ho')
    simpa using this

def up (L : Nat → Bool) (j : Nat) : Nat → Bool := fun k => if k = j then true else L k
theorem Shut.up {L : Nat → Bool} (h : Shut all L) {j : Nat} {o : Oper} (ho : all[j]? = some o) (he : ∀ e ∈ o.after.toList, Region.binds .any e = true → L e.on = true) : Shut all (up L j) := by
  intro k o' ho' hk e hee hb
  unfold Go.Proofs.YtnkbddljndfpnaaDoorF.up at hk ⊢
  split
  · rfl
  · by_cases hkj : k = j
    · subst hkj
      rw [ho] at ho'
      injection ho' with ho'
      subst ho'
      exact he e hee hb
    · rw [if_neg hkj] at hk
      exact h k o' ho' hk e hee hb

theorem apart_after (x y : Oper) (h : x.apart all y = true) : (∀ d, y.dst = some d → d ∉ x.looksAt all) ∧ (∀ d, x.dst = some d → d ∉ y.looksAt all) ∧ (∀ d, x.dst = some d → y.dst ≠ some d) :=
  let ⟨a, b, c⟩ := Oper.apart_spec h
  ⟨c, a, b⟩

theorem step_any (hG : RegGood E all) {os : List Oper} {es : List Ent} {g g' : Regs} {s s' : St} (hC : Chain E P all os es g s g' s') (hos : ∀ k, k < os.length → os[k]? = all[k]?)
    {df : List Deferred} {φ0 : Phi} {w0 : World} {Own0 : Nat → Prop} {Q : Exit → Act → World → Prop} (hg0 : Glob E φ0) (ht : s.Top)
    {L : Nat → Bool} (hS : Shut all L) {j : Nat} {o : Oper} (hj : j < os.length) (ho : all[j]? = some o) (hLj : L j = false) (he : ∀ e ∈ o.after.toList, Region.binds .any e = true → L e.on = true)
    {φ : Phi} {Own : Nat → Prop} {a : Act} {w : World} (hI : Inv E all os es g s df φ0 w0 Own0 L φ Own a w) {K : Act → World → Prop}
    (hK : ∀ φ' Own' a' w', Inv E all os es g s df φ0 w0 Own0 (up L j) φ' Own' a' w' → K a' w') : wpOp P all Q j K a w := by
  have hS' := hS.up ho he
  obtain ⟨e, hee⟩ : ∃ e, es[j]? = some e := ⟨es[j]'(by rw [← hC.length]; exact hj), by simp⟩
  have hoj : os[j]? = some o := by rw [hos j hj]; exact ho
  have hstep := hC.get j o e hoj hee
  have lift : ∀ {k o'}, os[k]? = some o' → all[k]? = some o' := fun {k o'} h => by
    have hk : k < os.length := (List.getElem?_eq_some_iff.1 h).1
    rw [← hos k hk]; exact h
  -- what comes ahead has come up; what comes behind has not
  have before : ∀ k o', k < j → os[k]? = some o' → (o'.apart all o = false ∨ clash (dcl E all o') (dcl E all o) = true) → L k = true := fun k o' hk hok hc => by
    rcases hG.pair k j o' o hk (lift hok) ho with h | ⟨h1, h2⟩
    · have := prec_sound hS' h (by simp [up])
      unfold up at this
      rwa [if_neg (by omega)] at this
    · rcases hc with hc | hc
      · rw [h1] at hc; cases hc
      · rw [h2] at hc; cases hc
  have behind : ∀ k o', j < k → os[k]? = some o' → (o.apart all o' = false ∨ clash (dcl E all o) (dcl E all o') = true) → L k = false := fun k o' hk hok hc => by
    rcases hG.pair j k o o' hk ho (lift hok) with h | ⟨h1, h2⟩
    · refine bool_cases fun hl => ?_
      have := prec_sound hS h hl
      rw [hLj] at this
      cases this
    · rcases hc with hc | hc
      · rw [h1] at hc; cases hc
      · rw [h2] at hc; cases hc
  -- the registers that it looks at
  have hlen : (regsL L 0 os es g).length = g.length := regsL_length L os 0 es g
  have hglen : e.g.length = g.length := by
    rw [← hC.regs 0 j e hee, regsL_length]
  have hlook : ∀ i, i ∈ o.looksAt all → V φ (e.g.getD i undef) (a.tmps.getD i undef) := fun i hi => by
    have hagree : (regsL (fun k => decide (k < 0 + j)) 0 os es g).getD i undef = (regsL L 0 os es g).getD i undef := by
      refine regsL_agree os 0 es g g (fun k o' hok hd => ?_) rfl rfl
      rcases Nat.lt_trichotomy k j with hk | hk | hk
      · rw [show (0 : Nat) + k = k by omega, before k o' hk hok (.inl (bool_cases fun hap => (apart_after o' o hap).2.1 i hd hi))]
        simpa using hk
      · subst hk
        rw [show (0 : Nat) + k = k by omega, hLj]
        simp
      · rw [show (0 : Nat) + k = k by omega, behind k o' hk hok (.inl (bool_cases fun hap => (apart_after o o' hap).1 i hd hi))]
        simp
        omega
    rw [hC.regs 0 j e hee] at hagree
    rw [hagree]
    exact hI.reg.reg i
  have hmask : Rr φ (mask (some (o.looksAt all)) e.g) a.tmps := rr_looks (by rw [hglen, ← hlen]; exact hI.reg.len) hlook
  -- the registers behind it
  have hafter : ∀ {φ' : Phi} {v' : Value}, Phi.le φ φ' → V φ' e.v v' → Rr φ' (regsL (up L j) 0 os es g) (a.put o.dst v').tmps := fun {φ' v'} le hv => by
    refine ⟨?_, fun i => ?_⟩
    · rw [regsL_length, ← hlen, hI.reg.len]
      cases o.dst <;> simp [Act.put]
    · by_cases hd : o.dst = some i
      · by_cases hi : i < g.length
        · rw [regsL_last j os 0 es g o e hoj hee hd (by simp [up]) (fun k o' hk hok hd' => ?_) hi]
          · rw [hd]
            have hsz : i < a.tmps.size := by rw [← hI.reg.len, hlen]; exact hi
            simpa [Act.put, Array.getD_eq_getD_getElem?, hsz] using hv
          · rw [show (0 : Nat) + k = k by omega]
            unfold up
            rw [if_neg (by omega)]
            exact behind k o' hk hok (.inl (bool_cases fun hap => (apart_after o o' hap).2.2 i hd hd'))
        · have : (regsL (up L j) 0 os es g).length ≤ i := by rw [regsL_length]; omega
          rw [List.getD_eq_getElem?_getD, List.getElem?_eq_none this]
          exact .any _
      · have h1 : (regsL (up L j) 0 os es g).getD i undef = (regsL L 0 os es g).getD i undef := by
          refine regsL_agree os 0 es g g (fun k o' hok hd' => ?_) rfl rfl
          unfold up
          rw [if_neg]
          rintro hk
          rw [show (0 : Nat) + k = k by omega] at hk
          subst hk
          rw [hoj] at hok
          injection hok with hok
          subst hok
          exact hd hd'
        have h2 : (a.put o.dst v').tmps.getD i undef = a.tmps.getD i undef := by
          cases hx : o.dst with
          | none => rfl
          | some d =>
            have : d ≠ i := fun e => hd (by rw [hx, e])
            simp [Act.put, Array.getD_eq_getD_getElem?, Array.getElem?_setIfInBounds_ne this]
        rw [h1, h2]
        exact (hI.reg.reg i).mono le
  have hdf : ∀ v', (a.put o.dst v').defers = df := fun v' => by rw [put_defers]; exact hI.df
  -- the memory
  have hsame : isW (dcl E all o) = false → stL E all (up L j) 0 os es s = stL E all L 0 os es s := fun hw => by
    refine stL_congr os 0 es s fun k o' hok hw' => ?_
    unfold up
    rw [if_neg]
    rintro hk
    rw [show (0 : Nat) + k = k by omega] at hk
    subst hk
    rw [hoj] at hok
    injection hok with hok
    subst hok
    rw [hw] at hw'
    cases hw'
  have clW : ∀ o1 o2 : Oper, isW (dcl E all o1) = true → isW (dcl E all o2) = true → clash (dcl E all o1) (dcl E all o2) = true := fun o1 o2 h1 h2 => by
    cases hd1 : dcl E all o1 <;> rw [hd1] at h1 <;> simp [isW] at h1 <;> cases hd2 : dcl E all o2 <;> rw [hd2] at h2 <;> simp [isW] at h2 <;> rfl
  have atP : (∀ o', isW (dcl E all o') = true → clash (dcl E all o') (dcl E all o) = true ∧ clash (dcl E all o) (dcl E all o') = true) → stL E all L 0 os es s = e.s := fun hcl => by
    refine hC.st_at 0 j e hee (fun k o' hk hok hw => ?_) (fun k o' hk hok hw => ?_)
    · rw [show (0 : Nat) + k = k by omega]; exact before k o' hk hok (.inr (hcl o' hw).1)
    · rw [show (0 : Nat) + k = k by omega]
      rcases Nat.eq_or_lt_of_le hk with rfl | hk
      · exact hLj
      · exact behind k o' hk hok (.inr (hcl o' hw).2)
  have atW : isW (dcl E all o) = true → stL E all L 0 os es s = e.s := fun hw => atP fun o' hw' => ⟨clW o' o hw' hw, clW o o' hw hw'⟩
  have afterW : isW (dcl E all o) = true → stL E all (up L j) 0 os es s = e.s' := fun hw => by
    refine hC.st_upto 0 j e hee (fun k o' hk hok hw' => ?_) (fun k o' hk hok hw' => ?_)
    · rw [show (0 : Nat) + k = k by omega]
      unfold up
      split
      · rfl
      · exact before k o' (by omega) hok (.inr (clW o' o hw' hw))
    · rw [show (0 : Nat) + k = k by omega]
      unfold up
      rw [if_neg (by omega)]
      exact behind k o' hk hok (.inr (clW o o' hw hw'))
  have hg : Glob E φ := hg0.mono hI.le
  -- an operation that leaves the memory as it is
  have plain : ∀ {w' : World} {Own' : Nat → Prop} {v' : Value}, stL E all (up L j) 0 os es s = stL E all L 0 os es s → R φ (stL E all L 0 os es s) w' Own' → Fr w w' Own Own' → V φ e.v v' → K (a.put o.dst v') w' := fun {w' Own' v'} hst hR hF hv =>
    hK φ Own' _ w' ⟨hI.le, by rw [hst]; exact hR, hI.fr.trans hF, hafter (Phi.le_refl _) hv, hdf _⟩
  unfold wpOp
  simp only [ho]
  rcases hstep with ⟨hw, hv, hs⟩ | ⟨hw, htold⟩
  · rw [wanted_of hw hlook, if_neg Bool.false_ne_true]
    refine plain ?_ hI.rel (Fr.refl _ _) (by rw [hv]; exact .skip)
    cases hW : isW (dcl E all o)
    · exact hsame hW
    · rw [afterW hW, atW hW, hs]
  · rw [wanted_of hw hlook, if_pos rfl]
    refine .inl ?_
    unfold ToldD at htold
    cases hd : dcl E all o <;> rw [hd] at htold
    · obtain ⟨-, hp⟩ := htold
      obtain ⟨v', h1, h2⟩ := hp φ w a hg hmask
      unfold Oper.wp
      rw [h1]
      exact plain (hsame (by rw [hd]; rfl)) hI.rel (Fr.refl _ _) h2
    · obtain ⟨-, hp⟩ := htold
      refine hp φ w a K Q hmask fun w' v' hs hk h1 h2 h3 hv => ?_
      refine plain (hsame (by rw [hd]; rfl)) (hI.rel.world hs hk) ⟨h1, h2, h3, hs, fun k hk' _ => hk k hk', fun k h => .inl h⟩ hv
    · obtain ⟨-, hp⟩ := htold
      have hEf : ∀ o', isE (dcl E all o') = true → clash (dcl E all o') (dcl E all o) = true ∧ clash (dcl E all o) (dcl E all o') = true := fun o' h => by rw [hd]; cases hd' : dcl E all o' <;> rw [hd'] at h <;> simp [isE] at h <;> exact ⟨rfl, rfl⟩
      obtain ⟨s2, hx, hR2⟩ := hC.reads 0 ht j e hee
        (fun k o' hk hok h => by rw [show (0 : Nat) + k = k by omega]; exact before k o' hk hok (.inr (hEf o' h).1))
        (fun k o' hk hok h => by
          rw [show (0 : Nat) + k = k by omega]
          rcases Nat.eq_or_lt_of_le hk with rfl | hk
          · exact hLj
          · exact behind k o' hk hok (.inr (hEf o' h).2))
        (fun k k' o1 o2 hk hok1 hok2 hw1 hw2 hl => by
          rw [show (0 : Nat) + k' = k' by omega] at hl
          rw [show (0 : Nat) + k = k by omega]
          rcases hG.pair k k' o1 o2 hk (lift hok1) (lift hok2) with h | ⟨_, h⟩
          · exact prec_sound hS h hl
          · rw [clW o1 o2 hw1 hw2] at h; cases h)
        hI.rel
      obtain ⟨v', h1, h2⟩ := hp s2 hx φ w Own a hg hR2 hmask
      unfold Oper.wp
      rw [h1]
      exact plain (hsame (by rw [hd]; rfl)) hI.rel (Fr.refl _ _) h2
    · obtain ⟨-, b, hb, hp⟩ := htold
      have hEf : ∀ o', dcl E all o' = .Ef → clash (dcl E all o') (dcl E all o) = true ∧ clash (dcl E all o) (dcl E all o') = true := fun o' h => by rw [h, hd]; exact ⟨rfl, rfl⟩
      have hsame' := hC.boxes (L := L) 0 ht j e hee
        (fun k o' hk hok h => by rw [show (0 : Nat) + k = k by omega]; exact before k o' hk hok (.inr (hEf o' h).1))
        (fun k o' hk hok h => by
          rw [show (0 : Nat) + k = k by omega]
          rcases Nat.eq_or_lt_of_le hk with rfl | hk
          · exact hLj
          · exact behind k o' hk hok (.inr (hEf o' h).2))
        (fun k k' o1 o2 hk hok1 hok2 hw1 hw2 hl => by
          rw [show (0 : Nat) + k' = k' by omega] at hl
          rw [show (0 : Nat) + k = k by omega]
          rcases hG.pair k k' o1 o2 hk (lift hok1) (lift hok2) with h | ⟨_, h⟩
          · exact prec_sound hS h hl
          · rw [clW o1 o2 hw1 hw2] at h; cases h)
        b hb
      obtain ⟨v', h1, h2⟩ := hp φ _ w Own a hg hI.rel hmask hsame'
      unfold Oper.wp
      rw [h1]
      exact plain (hsame (by rw [hd]; rfl)) hI.rel (Fr.refl _ _) h2
    · obtain ⟨-, hp⟩ := htold
      have hst : stL E all L 0 os es s = e.s := atP fun o' hw' => by
        cases hd' : dcl E all o' <;> rw [hd'] at hw' <;> simp [isW] at hw' <;> rw [hd] <;> exact ⟨rfl, rfl⟩
      have hrel := hI.rel
      rw [hst] at hrel
      refine hp φ w Own a K Q hg hrel hmask fun w' Own' v' hR' hF hv => ?_
      exact plain (hsame (by rw [hd]; rfl)) (by rw [hst]; exact hR') hF hv
    · obtain ⟨-, hp⟩ := htold
      have hW : isW (dcl E all o) = true := by rw [hd]; rfl
      have hrel := hI.rel
      rw [atW hW] at hrel
      refine hp φ w Own a K Q hg hrel hmask fun φ' w' Own' v' le hR' hF hv => ?_
      exact hK φ' Own' _ w' ⟨Phi.le_trans hI.le le, by rw [afterW hW]; exact hR', hI.fr.trans hF, hafter le hv, hdf _⟩
    · obtain ⟨hp, -⟩ := htold
      have hW : isW (dcl E all o) = true := by rw [hd]; rfl
      have hrel := hI.rel
      rw [atW hW] at hrel
      refine hp φ w Own a K Q hg hrel hmask fun φ' w' Own' v' le hR' hF hv => ?_
      exact hK φ' Own' _ w' ⟨Phi.le_trans hI.le le, by rw [afterW hW]; exact hR', hI.fr.trans hF, hafter le hv, hdf _⟩
    · obtain ⟨hp, -⟩ := htold
      have hW : isW (dcl E all o) = true := by rw [hd]; rfl
      have hrel := hI.rel
      rw [atW hW] at hrel
      refine hp φ w Own a K Q hg hrel hmask fun φ' w' Own' v' le hR' hF hv => ?_
      exact hK φ' Own' _ w' ⟨Phi.le_trans hI.le le, by rw [afterW hW]; exact hR', hI.fr.trans hF, hafter le hv, hdf _⟩

/-- Whatever order is drawn. -/
def unl (ls : Array Bool) : Nat := ls.toList.countP (fun b => !b)
theorem unl_set {ls : Array Bool} {j : Nat} (h : ls.getD j true = false) : unl (ls.setIfInBounds j true) + 1 = unl ls := by
  have hj : j < ls.size := by
    rcases Nat.lt_or_ge j ls.size with h' | h'
    · exact h'
    · simp [Array.getD_eq_getD_getElem?, Array.getElem?_eq_none h'] at h
  have hv : ls.toList[j]'(by simpa using hj) = false := by simpa [Array.getD_eq_getD_getElem?, hj] using h
  unfold unl
  rw [Array.toList_setIfInBounds, List.countP_set (by simpa using hj), hv]
  have : 0 < ls.toList.countP (fun b => !b) := List.countP_pos_iff.2 ⟨false, by rw [← hv]; exact List.getElem_mem _, rfl⟩
  simp only [Bool.not_false, Bool.not_true, if_true, Bool.false_eq_true, if_false, Nat.add_zero]
  omega
theorem unl_zero {ls : Array Bool} (h : unl ls = 0) {k : Nat} (hk : k < ls.size) : ls.getD k false = true := by
  unfold unl at h
  rw [List.countP_eq_zero] at h
  have := h (ls[k]) (by simp)
  simpa [Array.getD_eq_getD_getElem?, hk] using this
theorem getD_lt {ls : Array Bool} {j : Nat} (h : ls.getD j true = false) : j < ls.size ∧ ls.getD j false = false := by
  have hj : j < ls.size := by
    rcases Nat.lt_or_ge j ls.size with h' | h'
    · exact h'
    · simp [Array.getD_eq_getD_getElem?, Array.getElem?_eq_none h'] at h
  exact ⟨hj, by simpa [Array.getD_eq_getD_getElem?, hj] using h⟩
theorem up_eq {ls : Array Bool} {j : Nat} (hj : j < ls.size) : (fun k => (ls.setIfInBounds j true).getD k false) = up (fun k => ls.getD k false) j := by
  funext k
  unfold up
  by_cases h : k = j
  · subst h
    simp [Array.getD_eq_getD_getElem?, hj]
  · rw [if_neg h]
    simp [Array.getD_eq_getD_getElem?, Array.getElem?_setIfInBounds_ne (Ne.symm h)]

theorem any_order (hG : RegGood E all) {os : List Oper} {es : List Ent} {g g' : Regs} {s s' : St} (hC : Chain E P all os es g s g' s') (hle : os.length ≤ all.size) (hos : ∀ k, k < os.length → os[k]? = all[k]?)
    {df : List Deferred} {φ0 : Phi} {w0 : World} {Own0 : Nat → Prop} {Q : Exit → Act → World → Prop} (hg0 : Glob E φ0) (ht : s.Top)
    (hfin : ∀ L φ Own a w, (∀ k, k < all.size → L k = true) → (∀ k, os.length ≤ k → L k = false) → Inv E all os es g s df φ0 w0 Own0 L φ Own a w → Q .normal a w)
    (hpan : ∀ L φ Own a w j o (K : Act → World → Prop), Shut all L → os.length ≤ j → all[j]? = some o → L j = false → (∀ k, os.length ≤ k → L k = false) → (∀ e ∈ o.after.toList, Region.binds .any e = true → L e.on = true) → Inv E all os es g s df φ0 w0 Own0 L φ Own a w → wpOp P all Q j K a w) :
    ∀ (fuel : Nat) (ls : Array Bool), ls.size = all.size → unl ls ≤ fuel → Shut all (fun k => ls.getD k false) → (∀ k, os.length ≤ k → ls.getD k false = false) → ∀ φ Own a w, Inv E all os es g s df φ0 w0 Own0 (fun k => ls.getD k false) φ Own a w → wpAny P .any all Q fuel ls a w := by
  have fin : ∀ (ls : Array Bool), ls.size = all.size → Region.ready .any all ls = [] → Shut all (fun k => ls.getD k false) → (∀ k, k < all.size → ls.getD k false = true) := by
    intro ls hsz hr hS
    -- the first that has not come up could come up
    have : ∀ n k, k < n → k < all.size → ls.getD k false = true := by
      intro n
      induction n with
      | zero => intro k h; omega
      | succ n ih =>
        intro k hk hks
        rcases Nat.lt_succ_iff_lt_or_eq.1 hk with hk' | rfl
        · exact ih k hk' hks
        · cases hb : ls.getD k false
          · have hmem : k ∈ Region.ready .any all ls := by
              rw [mem_ready]
              refine ⟨?_, all[k], by simp [hks], fun e he heb => ?_⟩
              · simpa [Array.getD_eq_getD_getElem?, hsz, hks] using hb
              · have hlt := hG.low k all[k] (by simp [hks]) e (by simpa using he) heb
                exact ih e.on hlt (by omega)
            rw [hr] at hmem
            cases hmem
          · rfl
    intro k hk
    exact this (k + 1) k (by omega) hk
  intro fuel
  induction fuel with
  | zero =>
    intro ls hsz hf hS hhi φ Own a w hI
    have h0 : unl ls = 0 := by omega
    have hall : ∀ k, k < all.size → ls.getD k false = true := fun k hk => unl_zero h0 (by omega)
    refine ⟨?_, hfin _ _ _ _ _ hall hhi hI⟩
    cases hr : Region.ready .any all ls with
    | nil => rfl
    | cons j l =>
      have hm : j ∈ Region.ready .any all ls := by rw [hr]; simp
      obtain ⟨h1, _⟩ := mem_ready.1 hm
      obtain ⟨h2, h3⟩ := getD_lt h1
      rw [hall j (by omega)] at h3
      cases h3
  | succ fuel ih =>
    intro ls hsz hf hS hhi φ Own a w hI
    refine ⟨fun hr => hfin _ _ _ _ _ (fin ls hsz hr hS) hhi hI, fun j hj => ?_⟩
    obtain ⟨h1, o, ho, hed⟩ := mem_ready.1 hj
    obtain ⟨h2, h3⟩ := getD_lt h1
    have hed' : ∀ e ∈ o.after.toList, Region.binds .any e = true → ls.getD e.on false = true := fun e he hb => hed e (by simpa using he) hb
    rcases Nat.lt_or_ge j os.length with hlt | hge
    · refine step_any hG hC hos hg0 ht hS hlt ho h3 hed' hI fun φ' Own' a' w' hI' => ?_
      refine ih (ls.setIfInBounds j true) (by simpa using hsz) (by have := unl_set h1; omega) ?_ (fun k hk => ?_) φ' Own' a' w' ?_
      · rw [up_eq h2]; exact hS.up ho hed'
      · have : (ls.setIfInBounds j true).getD k false = up (fun k => ls.getD k false) j k := congrFun (up_eq h2) k
        rw [this]
        unfold up
        rw [if_neg (by omega)]
        exact hhi k hk
      · rw [up_eq h2]; exact hI'
    · exact hpan _ _ _ _ _ j o _ hS hge ho h3 hhi hed' hI
end
end Go.Proofs.YtnkbddljndfpnaaDoorF
