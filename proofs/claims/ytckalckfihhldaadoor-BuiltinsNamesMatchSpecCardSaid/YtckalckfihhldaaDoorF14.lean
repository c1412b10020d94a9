/- The abstract heap machine, part 14: code, calls. -/
import Derived.Test.YtckalckfihhldaaDoorF13d
import Derived.Below
import Derived.LoopN
set_option linter.unusedVariables false
set_option linter.unusedSimpArgs false
namespace Go.Proofs.YtckalckfihhldaaDoorF
open Go Go.RowKit

section
variable {E : Env} {P : Program} {call : FuncId → List Value → St → Ans} {r : Out × St}

/-! ### Code -/
def XR (φ : Phi) : X → Exit → Prop
  | .normal, .normal => True
  | .exit i, .exit j => i = j
  | .ret, .ret => True
  | .pan ch, .panic ch' => CR φ ch ch'
  | _, _ => False
def Konts (K : Kont) (r : Out × St) (φ : Phi) (s : St) (w : World) (Own : Nat → Prop) (df : List Deferred) (Q : Exit → Act → World → Prop) : Prop :=
  ∀ x g' s', K x g' s' = some r → Next φ s w Own df g' s' (fun φ' a' w' => ∀ e, XR φ' x e → Q e a' w')
theorem Konts.trans {K : Kont} {φ φ1 : Phi} {s s1 : St} {w w1 : World} {Own Own1 : Nat → Prop} {df : List Deferred} {Q : Exit → Act → World → Prop}
    (h : Konts K r φ s w Own df Q) (lo : Low s s1) (le : Phi.le φ φ1) (fr : Fr w w1 Own Own1) : Konts K r φ1 s1 w1 Own1 df Q :=
  fun x g' s' e => (h x g' s' e).trans lo le fr
/-- A run of code. -/
def RunSim (E : Env) (P : Program) (run : Regs → St → Kont → Ans) (c : Code) : Prop :=
  ∀ g s K r, run g s K = some r → ∀ φ w Own (a : Act) (Q : Exit → Act → World → Prop), Glob E φ → R φ s w Own → Rr φ g a.tmps → Konts K r φ s w Own a.defers Q → c.wp P Q a w

/-- What follows a run that has ended regularly. -/
def thenK (next : Regs → St → Ans) (K : Kont) : Kont := fun e g s => match e with
  | .normal => next g s
  | .exit i => K (.exit i) g s
  | .ret => K .ret g s
  | .pan c => K (.pan c) g s
theorem Konts.then {next : Regs → St → Ans} {K : Kont} {φ : Phi} {s : St} {w : World} {Own : Nat → Prop} {df : List Deferred} {nextW : Act → World → Prop} {Q : Exit → Act → World → Prop}
    (h : Konts K r φ s w Own df Q) (hn : ∀ g' s', next g' s' = some r → Next φ s w Own df g' s' (fun _ a' w' => nextW a' w')) : Konts (thenK next K) r φ s w Own df (Exit.then nextW Q) := by
  intro x g' s' hx
  cases x with
  | normal => exact (hn g' s' hx).mono fun φ' a' w' hw e he => by cases e <;> first | exact hw | exact he.elim
  | exit i => exact (h _ g' s' hx).mono fun φ' a' w' hw e he => by cases e <;> first | exact hw _ he | exact he.elim
  | ret => exact (h _ g' s' hx).mono fun φ' a' w' hw e he => by cases e <;> first | exact hw _ he | exact he.elim
  | pan c => exact (h _ g' s' hx).mono fun φ' a' w' hw e he => by cases e <;> first | exact hw _ he | exact he.elim

theorem kloop_sim {body : Regs → St → Kont → Ans} {c : Code} (hb : RunSim E P body c) : ∀ (n : Nat) (g : Regs) (s : St) (K : Kont), kloop body n g s K = some r →
    ∀ φ w Own (a : Act) (Q : Exit → Act → World → Prop), Glob E φ → R φ s w Own → Rr φ g a.tmps → Konts K r φ s w Own a.defers Q → Code.rounds P c Q n a w
  | 0, _, _, _, h, _, _, _, _, _, _, _, _, _ => by cases h
  | n + 1, g, s, K, h, φ, w, Own, a, Q, hg, hR, hr, hK => by
    rw [rounds_succ]
    refine hb g s (thenK (fun g s => kloop body n g s K) K) r h φ w Own a _ hg hR hr (hK.then fun g' s' hn => ?_)
    intro lo φ' w' Own' a' le hR' hF hr' hd
    refine kloop_sim hb n g' s' K hn φ' w' Own' a' Q (hg.mono le) hR' hr' ?_
    rw [hd]
    exact hK.trans lo le hF

/-- All that is asked of the surroundings. -/
structure Env.All (E : Env) (P : Program) : Prop where
  ok : E.Ok P
  eq : E.EqOk P
  ng : E.noGlob = true → ∀ b, E.glob b = false
  mix : P.follows .mixedOrders = true
  ord : ∀ f g c, E.fn f = some g → g.body = some c → codeOk E (E.ord f) c = true
  sum : ∀ f g, E.sum f = some g → ∀ args s v, g args s = some v → (∀ φ, V φ v v) ∧ ∀ φ w Own (args' : Array Value), Glob E φ → R φ s w Own → VL φ args args'.toList → Calls P f args' w fun e w' => e = .returned v ∧ Below w.heap.size w w'
  sumW : ∀ f g, E.sumW f = some g → ∀ args s out s', g args s = some (out, s') → CallSim E P f args s out s' ∧ Low s s'

theorem draw_sim (hE : E.Ok P) (hq : E.EqOk P) (hz : E.noGlob = true → ∀ b, E.glob b = false) (hm : P.follows .mixedOrders = true) (hc : Calling E P call) {id : Nat} {ops : Array Oper} (hok : ordOk E ops = true) {g : Regs} {s : St} {K : Kont}
    (m : Option (List Nat)) (h : kopsD E call ops 0 ops.toList g s (fun g s => K .normal (mask m g) s) (fun i ch s => if allAfter ops i then K (.pan ch) (clear ops.toList g) s else none) = some r)
    {φ : Phi} {w : World} {Own : Nat → Prop} {a : Act} {Q : Exit → Act → World → Prop} (hg : Glob E φ) (hR : R φ s w Own) (hr : Rr φ g a.tmps) (hK : Konts K r φ s w Own a.defers Q) : (Code.region id ops true).wp P Q a w := by
  refine wp_region_any hm ?_
  have hG := RegGood.of hok
  have h0 : ∀ k, (Array.replicate ops.size false).getD k false = false := fun k => by
    rw [Array.getD_eq_getD_getElem?]
    by_cases hk : k < ops.size
    · simp [hk]
    · simp [Array.getElem?_eq_none (show (Array.replicate ops.size false).size ≤ k by simp; omega)]
  have hshut : Shut ops (fun k => (Array.replicate ops.size false).getD k false) := fun j o _ hj => by
    simp only [h0] at hj
    cases hj
  have hunl : unl (Array.replicate ops.size false) ≤ ops.size := by
    unfold unl
    refine Nat.le_trans List.countP_le_length (by simp)
  have inv : ∀ {os : List Oper} {es : List Ent} {g' : Regs} {s' : St}, Chain E P ops os es g s g' s' → Inv E ops os es g s a.defers φ w Own (fun k => (Array.replicate ops.size false).getD k false) φ Own a { w with drawn := w.drawn + 1 } := fun {os es g' s'} hC => by
    have htop : topW E ops (fun k => (Array.replicate ops.size false).getD k false) os os.length = 0 := by
      cases ht : topW E ops (fun k => (Array.replicate ops.size false).getD k false) os os.length with
      | zero => rfl
      | succ m => have := (topW_pos ht).2; rw [h0] at this; cases this
    refine ⟨Phi.le_refl _, ?_, ?_, Fr.drew w Own, ⟨by rw [regsL_length]; exact hr.len, fun i => ?_⟩, rfl⟩
    · unfold stL
      rw [htop]
      have : sg s es 0 = s := by cases es <;> rfl
      rw [this]
      exact hR.of_heap rfl
    · rw [htop]
      intro k e obj hk
      omega
    · rw [regsL_skip os 0 es g fun k o _ _ => h0 _]
      exact hr.reg i
  rcases kopsD_trace hE hq hc hz _ _ _ _ h with ⟨es, g', s', hC, h1⟩ | ⟨os, o, tail, es, g', s', ch, s2, hsplit, hC, hw, hd, hp, hlow, h1⟩
  · refine any_order hG hC (by simp) (fun k _ => by simp) hg hR.top ?_ ?_ ops.size _ (by simp) hunl hshut (fun k hk => h0 k) φ Own a _ (inv hC)
    · intro L φ' Own' a' w' hall _ hI
      have e1 : regsL L 0 ops.toList es g = g' := by
        rw [← hC.regs_end 0]
        exact regsL_congr _ 0 es g fun k hk => hall _ (by simp at hk; omega)
      have e2 : stL E ops L ops.toList es s = s' := hC.st_end fun k hk _ => hall _ (by simpa using hk)
      refine hK _ _ s' h1 hC.low φ' w' Own' a' hI.le ?_ hI.fr (Rr.mask ?_ m) hI.df .normal trivial
      · rw [← e2]; exact hI.rel
      · rw [← e1]; exact hI.reg
    · intro L φ' Own' a' w' j o K' _ hj ho
      have := (Array.getElem?_eq_some_iff.1 ho).1
      simp at hj
      omega
  · have hlt : os.length < ops.size := by
      have := congrArg List.length hsplit
      simp at this
      omega
    have hat : ∀ k, k < os.length → os[k]? = ops[k]? := fun k hk => by
      rw [← Array.getElem?_toList, hsplit, List.getElem?_append_left hk]
    have hop : ops[os.length]? = some o := by
      rw [← Array.getElem?_toList, hsplit]
      simp
    simp only [Nat.zero_add] at h1
    split at h1
    case isFalse => cases h1
    rename_i haft
    have hafter : ∀ k, k < ops.size → os.length < k → prec (befs ops.toList []) os.length k = true := fun k hk hlt => by
      have := List.all_eq_true.1 haft k (by simpa using hk)
      simp only [Bool.or_eq_true, decide_eq_true_eq] at this
      rcases this with h | h
      · omega
      · exact h
    refine any_order hG hC (by omega) hat hg hR.top ?_ ?_ ops.size _ (by simp) hunl hshut (fun k hk => h0 k) φ Own a _ (inv hC)
    · intro L φ' Own' a' w' hall hnone _
      have e1 := hall os.length hlt
      rw [hnone os.length (Nat.le_refl _)] at e1
      cases e1
    · intro L φ' Own' a' w' j oj K' hS hj ho hLj hnone he hI
      have hS' := hS.up ho he
      rcases Nat.eq_or_lt_of_le hj with rfl | hgt
      · rw [hop] at ho
        injection ho with ho
        subst ho
        have before : ∀ k o', os[k]? = some o' → (o'.apart ops o = false ∨ clash (dcl E ops o') (dcl E ops o) = true) → L k = true := fun k o' hok hcl => by
          have hk := (List.getElem?_eq_some_iff.1 hok).1
          rcases hG.pair k os.length o' o hk (by rw [← hat k hk]; exact hok) hop with h | ⟨h1, h2⟩
          · have := prec_sound hS' h (by simp [up])
            unfold up at this
            rwa [if_neg (by omega)] at this
          · rcases hcl with hc | hc
            · rw [h1] at hc; cases hc
            · rw [h2] at hc; cases hc
        have hst : stL E ops L os es s = s' := hC.st_end fun k hk hw' => by
          obtain ⟨o', e', hok, _⟩ := hC.step k hk
          rw [wAt_eq hok] at hw'
          refine before k o' hok (.inr ?_)
          cases hd2 : dcl E ops o <;> rw [hd2] at hd <;> simp [isE] at hd <;> cases hd' : dcl E ops o' <;> rw [hd'] at hw' <;> simp [isW] at hw' <;> rfl
        have hlook : ∀ i, i ∈ o.looksAt ops → V φ' (g'.getD i undef) (a'.tmps.getD i undef) := fun i hi => by
          have hagree : (regsL (fun _ => true) 0 os es g).getD i undef = (regsL L 0 os es g).getD i undef := by
            refine regsL_agree os 0 es g g (fun k o' hok hd' => ?_) rfl rfl
            rw [show (0 : Nat) + k = k by omega]
            exact (before k o' hok (.inl (bool_cases fun hap => (apart_after o' o hap).2.1 i hd' hi))).symm
          rw [hC.regs_end 0] at hagree
          rw [hagree]
          exact hI.reg.reg i
        have hlen : g'.length = a'.tmps.size := by rw [← hI.reg.len, regsL_length, ← hC.regs_end 0, regsL_length]
        unfold wpOp
        simp only [hop]
        rw [wanted_of hw hlook, if_pos rfl]
        have hrel := hI.rel
        rw [hst] at hrel
        refine .inl (hp φ' w' Own' a' K' Q (hg.mono hI.le) hrel (rr_looks hlen hlook) fun φ2 w2 Own2 ch' le hR2 hF2 hch => ?_)
        refine hK _ _ s2 h1 (hC.low.trans hlow) φ2 w2 Own2 a' (Phi.le_trans hI.le le) hR2 (hI.fr.trans hF2) ⟨?_, fun i => ?_⟩ hI.df (.panic ch') hch
        · rw [clear_length, ← hI.reg.len, regsL_length]
        · rcases clear_getD ops.toList g i with h | ⟨h1, h2⟩
          · rw [h]; exact .any _
          · rw [h2]
            have := (hI.reg.reg i).mono le
            rwa [regsL_skip os 0 es g fun k o' hok hd' => absurd hd' (h1 o' (by rw [hsplit]; exact List.mem_append_left _ (List.mem_of_getElem? hok)))] at this
      · have hjs := (Array.getElem?_eq_some_iff.1 ho).1
        have := prec_sound hS' (hafter j hjs hgt) (by simp [up])
        unfold up at this
        rw [if_neg (by omega), hnone os.length (Nat.le_refl _)] at this
        cases this

theorem kexec_sim (hA : E.All P) (hc : Calling E P call) (n : Nat) (hint : Nat → Option (List Nat)) (ord : Nat → Bool) : ∀ c : Code, codeOk E ord c = true → RunSim E P (kexec E call n hint ord c) c
  | .skip, ok, g, s, K, r, h, φ, w, Own, a, Q, hg, hR, hr, hK => wp_skip (hK .normal g s h (Low.refl s) φ w Own a (Phi.le_refl _) hR (Fr.refl w Own) hr rfl .normal trivial)
  | .region id ops draw, ok, g, s, K, r, h, φ, w, Own, a, Q, hg, hR, hr, hK => by
    unfold kexec at h
    cases draw
    · refine wp_region ?_
      have := kops_sim hA.ok hA.eq hc ops.toList 0 _ s (by simp) h φ w Own a Q hg hR hr (fun g' s' h' => ?_) (fun g' ch s' h' => ?_)
      · simpa [List.range_eq_range'] using this
      · exact fun lo φ' w' Own' a' le hR' hF hr' hd => hK _ _ s' h' lo φ' w' Own' a' le hR' hF (hr'.mask _) hd .normal trivial
      · exact (hK _ g' s' h').mono fun φ' a' w' hw ch' hch => hw (.panic ch') hch
    · dsimp only at h
      split at h
      · rename_i ho
        refine draw_sim hA.ok hA.eq hA.ng hA.mix hc ?_ _ h hg hR hr hK
        simpa [codeOk, ho] using ok
      · cases h
  | .seq x y, ok, g, s, K, r, h, φ, w, Own, a, Q, hg, hR, hr, hK => by
    refine wp_seq ?_
    unfold kexec at h
    simp only [codeOk, Bool.and_eq_true] at ok
    refine kexec_sim hA hc n hint ord x ok.1 g s (thenK (fun g s => kexec E call n hint ord y g s K) K) r h φ w Own a _ hg hR hr (hK.then fun g' s' hn => ?_)
    intro lo φ' w' Own' a' le hR' hF hr' hd
    refine kexec_sim hA hc n hint ord y ok.2 g' s' K r hn φ' w' Own' a' Q (hg.mono le) hR' hr' ?_
    rw [hd]
    exact hK.trans lo le hF
  | .cond c x y, ok, g, s, K, r, h, φ, w, Own, a, Q, hg, hR, hr, hK => by
    simp only [codeOk, Bool.and_eq_true] at ok
    unfold kexec at h
    split at h
    · rename_i t
      split at h
      · rename_i v hv
        have hv' : a.eval (.tmp t) = .bool v := by
          have := hr.reg t
          rw [hv] at this
          exact this.bool_inv
        cases v
        · rw [if_neg Bool.false_ne_true, set_getD hv] at h
          exact wp_cond_false hv' (kexec_sim hA hc n hint ord y ok.2 g s K r h φ w Own a Q hg hR hr hK)
        · rw [if_pos rfl, set_getD hv] at h
          exact wp_cond_true hv' (kexec_sim hA hc n hint ord x ok.1 g s K r h φ w Own a Q hg hR hr hK)
      · cases h
    · cases h
  | .block id c, ok, g, s, K, r, h, φ, w, Own, a, Q, hg, hR, hr, hK => by
    refine wp_block ?_
    unfold kexec at h
    refine kexec_sim hA hc n hint ord c ok g s _ r h φ w Own a _ hg hR hr ?_
    intro x g' s' hx
    cases x with
    | normal => exact (hK _ g' s' hx).mono fun φ' a' w' hw e he => by cases e <;> first | exact hw _ he | exact he.elim
    | exit i =>
      by_cases hi : i = id
      · replace hx : K .normal g' s' = some r := by simpa [hi] using hx
        refine (hK _ g' s' hx).mono fun φ' a' w' hw e he => ?_
        cases e <;> first | exact he.elim | skip
        have he' : i = _ := he
        subst he'
        simp only [Exit.inBlock, hi, if_true]
        exact hw .normal trivial
      · replace hx : K (.exit i) g' s' = some r := by simpa [hi] using hx
        refine (hK _ g' s' hx).mono fun φ' a' w' hw e he => ?_
        cases e <;> first | exact he.elim | skip
        have he' : i = _ := he
        subst he'
        simp only [Exit.inBlock, hi, if_false]
        exact hw _ rfl
    | ret => exact (hK _ g' s' hx).mono fun φ' a' w' hw e he => by cases e <;> first | exact hw _ he | exact he.elim
    | pan c => exact (hK _ g' s' hx).mono fun φ' a' w' hw e he => by cases e <;> first | exact hw _ he | exact he.elim
  | .loop c, ok, g, s, K, r, h, φ, w, Own, a, Q, hg, hR, hr, hK => by
    unfold kexec at h
    exact wp_loop_rounds n (kloop_sim (kexec_sim hA hc n hint ord c ok) n g s K h φ w Own a Q hg hR hr hK)
  | .exit i, ok, g, s, K, r, h, φ, w, Own, a, Q, hg, hR, hr, hK => wp_exit (hK (.exit i) g s h (Low.refl s) φ w Own a (Phi.le_refl _) hR (Fr.refl w Own) hr rfl (.exit i) rfl)
  | .ret, ok, g, s, K, r, h, φ, w, Own, a, Q, hg, hR, hr, hK => wp_ret (hK .ret g s h (Low.refl s) φ w Own a (Phi.le_refl _) hR (Fr.refl w Own) hr rfl .ret trivial)
  | .rangeFunc .., _, _, _, _, _, h, _, _, _, _, _, _, _, _, _ => by cases h
  | .scope _, _, _, _, _, _, h, _, _, _, _, _, _, _, _, _ => by cases h
  | .label _, _, _, _, _, _, h, _, _, _, _, _, _, _, _, _ => by cases h
  | .goto _, _, _, _, _, _, h, _, _, _, _, _, _, _, _, _ => by cases h
  | .refuse _, _, _, _, _, _, h, _, _, _, _, _, _, _, _, _ => by cases h

def RunLow (run : Regs → St → Kont → Ans) : Prop := ∀ g s K r, run g s K = some r → ∃ x g' s', K x g' s' = some r ∧ Low s s'
theorem kloop_low {body : Regs → St → Kont → Ans} (hb : RunLow body) : ∀ n, RunLow (kloop body n)
  | 0, _, _, _, _, h => by cases h
  | n + 1, g, s, K, r, h => by
    obtain ⟨x, g', s', k1, k2⟩ := hb _ _ _ _ h
    cases x with
    | normal => obtain ⟨x, g2, s2, j1, j2⟩ := kloop_low hb n _ _ _ _ k1; exact ⟨x, g2, s2, j1, k2.trans j2⟩
    | exit i => exact ⟨_, g', s', k1, k2⟩
    | ret => exact ⟨_, g', s', k1, k2⟩
    | pan c => exact ⟨_, g', s', k1, k2⟩
theorem kexec_low (hA : E.All P) (hc : Calling E P call) (n : Nat) (hint : Nat → Option (List Nat)) (ord : Nat → Bool) : ∀ c : Code, RunLow (kexec E call n hint ord c)
  | .skip, g, s, K, r, h => ⟨_, g, s, h, Low.refl s⟩
  | .region id ops draw, g, s, K, r, h => by
    unfold kexec at h
    cases draw
    · rcases kops_low hA.ok hA.eq hc _ _ _ h with ⟨g', s', k1, k2⟩ | ⟨g', ch, s', k1, k2⟩
      · exact ⟨_, _, s', k1, k2⟩
      · exact ⟨_, g', s', k1, k2⟩
    · dsimp only at h
      split at h
      · rcases kopsD_low hA.ok hA.eq hc hA.ng h with ⟨g', s', k1, k2⟩ | ⟨i, ch, s', k1, k2⟩
        · exact ⟨_, _, s', k1, k2⟩
        · split at k1
          · exact ⟨_, _, s', k1, k2⟩
          · cases k1
      · cases h
  | .seq x y, g, s, K, r, h => by
    unfold kexec at h
    obtain ⟨x, g', s', k1, k2⟩ := kexec_low hA hc n hint ord _ _ _ _ _ h
    cases x with
    | normal => obtain ⟨x, g2, s2, j1, j2⟩ := kexec_low hA hc n hint ord _ _ _ _ _ k1; exact ⟨x, g2, s2, j1, k2.trans j2⟩
    | exit i => exact ⟨_, g', s', k1, k2⟩
    | ret => exact ⟨_, g', s', k1, k2⟩
    | pan c => exact ⟨_, g', s', k1, k2⟩
  | .cond c x y, g, s, K, r, h => by
    unfold kexec at h
    split at h
    · split at h
      · split at h
        · exact kexec_low hA hc n hint ord _ _ _ _ _ h
        · exact kexec_low hA hc n hint ord _ _ _ _ _ h
      · cases h
    · cases h
  | .block id c, g, s, K, r, h => by
    unfold kexec at h
    obtain ⟨x, g', s', k1, k2⟩ := kexec_low hA hc n hint ord _ _ _ _ _ h
    cases x with
    | normal => exact ⟨_, g', s', k1, k2⟩
    | exit i =>
      dsimp only at k1
      split at k1
      · exact ⟨_, g', s', k1, k2⟩
      · exact ⟨_, g', s', k1, k2⟩
    | ret => exact ⟨_, g', s', k1, k2⟩
    | pan c => exact ⟨_, g', s', k1, k2⟩
  | .loop c, g, s, K, r, h => by
    unfold kexec at h
    exact kloop_low (kexec_low hA hc n hint ord c) n _ _ _ _ h
  | .exit i, g, s, K, r, h => ⟨_, g, s, h, Low.refl s⟩
  | .ret, g, s, K, r, h => ⟨_, g, s, h, Low.refl s⟩
  | .rangeFunc .., _, _, _, _, h => by cases h
  | .scope _, _, _, _, _, h => by cases h
  | .label _, _, _, _, _, h => by cases h
  | .goto _, _, _, _, _, h => by cases h
  | .refuse _, _, _, _, _, h => by cases h

/-! ### Calls -/
theorem loadVar_sim (hE : E.Ok P) {t : TypeId} {x : Value} {s : St} {K : Value → Option (Out × St)} (h : loadT E s t x K = some r) :
    ∃ v, K v = some r ∧ ∀ φ w Own x', R φ s w Own → V φ x x' → ∃ ad v', x' = .pointer (some ad) ∧ (loadVar t ad).run P w = .ok v' w ∧ V φ v v' := by
  obtain ⟨v, h1, h2⟩ := loadT_run hE h
  exact ⟨v, h1, fun φ w Own x' hR hv => h2 φ s w Own x' hR hv fun _ _ _ _ _ _ _ hu => hu⟩

def resultRun (tmps : Array Value) (x : ResultVar) : Sem Value := match x with
  | .tmp t => pure (tmps.getD t undef)
  | .cell a t => do loadVar t (← asAddr (tmps.getD a undef))
theorem resultL_sim (hE : E.Ok P) {s : St} {g : Regs} : ∀ {l : List ResultVar} {K : List Value → Ans}, resultL E s g l K = some r →
    ∃ vs, K vs = some r ∧ ∀ φ w Own t, R φ s w Own → Rr φ g t → ∃ vs', VL φ vs vs' ∧ (List.mapM (resultRun t) l).run P w = .ok vs' w
  | [], K, h => ⟨[], h, fun φ w Own t _ _ => ⟨[], .nil, by simp⟩⟩
  | .tmp t :: l, K, h => by
    obtain ⟨vs, h1, h2⟩ := resultL_sim hE (K := fun l => K (g.getD t undef :: l)) h
    refine ⟨_, h1, fun φ w Own u hR hr => ?_⟩
    obtain ⟨vs', k1, k2⟩ := h2 φ w Own u hR hr
    refine ⟨_, .cons (hr.reg t) k1, ?_⟩
    simp [List.mapM_cons, resultRun, k2]
  | .cell a t :: l, K, h => by
    obtain ⟨v, h0, h3⟩ := loadVar_sim hE h
    obtain ⟨vs, h1, h2⟩ := resultL_sim hE (K := fun l => K (v :: l)) h0
    refine ⟨_, h1, fun φ w Own u hR hr => ?_⟩
    obtain ⟨ad, v', j1, j2, j3⟩ := h3 φ w Own _ hR (hr.reg a)
    obtain ⟨vs', k1, k2⟩ := h2 φ w Own u hR hr
    refine ⟨_, .cons j3 k1, ?_⟩
    simp [List.mapM_cons, resultRun, asAddr, j1, j2, k2]

theorem VL.oneOf {φ : Phi} : ∀ {l l' : List Value}, VL φ l l' → V φ (oneOf l) (oneOf l')
  | _, _, .nil => .any _
  | _, _, .cons h .nil => h
  | _, _, .cons h (.cons k m) => .tuple (by simpa using VL.cons h (VL.cons k m))
theorem results_sim (hE : E.Ok P) {s : St} {g : Regs} {fn : Func} {K : List Value → Ans} (h : resultL E s g fn.results.toList K = some r) :
    ∃ vs, K vs = some r ∧ ∀ φ w Own t, R φ s w Own → Rr φ g t → ∃ v', V φ (oneOf vs) v' ∧ (results fn t).run P w = .ok v' w := by
  obtain ⟨vs, h1, h2⟩ := resultL_sim hE h
  refine ⟨vs, h1, fun φ w Own t hR hr => ?_⟩
  obtain ⟨vs', k1, k2⟩ := h2 φ w Own t hR hr
  refine ⟨_, k1.oneOf, ?_⟩
  have e : results fn t = (do let vs ← fn.results.mapM (resultRun t); pure (if h : vs.size = 1 then vs[0] else .tuple vs)) := by
    unfold results
    have : (fun (x : ResultVar) => (match x with
      | .tmp u => pure (t.getD u undef)
      | .cell a ty => do loadVar ty (← asAddr (t.getD a undef)) : Sem Value)) = resultRun t := by
      funext x
      cases x <;> rfl
    rw [← this]
    rfl
  rw [e, Sem.run_bind, Array.mapM_eq_mapM_toList, Sem.run_map, k2]
  cases vs' with
  | nil => rfl
  | cons v l => cases l <;> rfl

theorem acall_sim (hA : E.All P) : ∀ (n : Nat), Calling E P (acall E n)
  | 0 => fun f args s out s' h => by cases h
  | n + 1 => fun f args s out s' h => by
    unfold acall at h
    split at h
    · rename_i g hg
      split at h
      · rename_i v hv
        injection h with h
        injection h with h1 h2
        subst h1; subst h2
        obtain ⟨k1, k2⟩ := hA.sum f g hg args s v hv
        refine ⟨fun φ w Own args' hG hR ha => (k2 φ w Own args' hG hR ha).mono fun e w' ⟨e1, e2⟩ => ?_, Low.refl s⟩
        exact ⟨φ, Own, Phi.le_refl _, hR.world e2.size e2.block, ⟨e2.os, e2.tape, e2.output, e2.size, fun k hk _ => e2.block k hk, fun _ h => .inl h⟩, v, e1, k1 φ⟩
      · cases h
    · split at h
      · rename_i g hg
        exact hA.sumW f g hg args s out s' h
      · split at h
        · cases h
        · rename_i fn hfn
          obtain ⟨e1, e2, e3⟩ := hA.ok.fn _ _ hfn
          split at h
          · cases h
          · rename_i c hc
            have sim := kexec_sim hA (acall_sim hA n) n (E.hint f) (E.ord f) c (hA.ord _ _ _ hfn hc) _ _ _ _ h
            refine ⟨fun φ w Own args' hg hR hv => ?_, ?_⟩
            · refine calls_of_wp e1 hc ?_
              refine sim φ w Own _ _ hg hR (Rr.args hv _) ?_
              intro x g' s2 hx
              cases x with
              | normal =>
                intro lo φ' w' Own' a' le hR' hF hr' hd e he
                obtain ⟨vs, k1, k2⟩ := results_sim hA.ok hx
                cases k1
                obtain ⟨v', k3, k4⟩ := k2 _ _ _ _ hR' hr'
                cases e <;> first | exact ⟨hd, v', k4, φ', Own', le, hR', hF, v', rfl, k3⟩ | exact he.elim
              | ret =>
                intro lo φ' w' Own' a' le hR' hF hr' hd e he
                obtain ⟨vs, k1, k2⟩ := results_sim hA.ok hx
                cases k1
                obtain ⟨v', k3, k4⟩ := k2 _ _ _ _ hR' hr'
                cases e <;> first | exact ⟨hd, v', k4, φ', Own', le, hR', hF, v', rfl, k3⟩ | exact he.elim
              | pan ch =>
                intro lo φ' w' Own' a' le hR' hF hr' hd e he
                cases hx
                cases e <;> first | exact ⟨hd, φ', Own', le, hR', hF, _, rfl, he⟩ | exact he.elim
              | exit i => cases hx
            · obtain ⟨x, g', s2, k1, k2⟩ := kexec_low hA (acall_sim hA n) n (E.hint f) (E.ord f) c _ _ _ _ h
              cases x with
              | normal => obtain ⟨vs, j1, -⟩ := results_sim hA.ok k1; cases j1; exact k2
              | ret => obtain ⟨vs, j1, -⟩ := results_sim hA.ok k1; cases j1; exact k2
              | pan ch => cases k1; exact k2
              | exit i => cases k1
end
end Go.Proofs.YtckalckfihhldaaDoorF
