/- The abstract heap machine, part 13: regions that draw their order. -/
import Derived.Test.YtckalckfihhldaaDoorF12
set_option linter.unusedVariables false
set_option linter.unusedSimpArgs false
namespace Go.Proofs.YtckalckfihhldaaDoorF
open Go

def isW : DC → Bool
  | .Al | .A | .Ap | .Ef => true
  | _ => false
def isE : DC → Bool
  | .A | .Ap | .Ef => true
  | _ => false
/-- No box that was there was written. -/
def Boxes (s s' : St) : Prop := ∀ i, i < s.next → (isB (s.get i) = true ∨ isB (s'.get i) = true) → s'.get i = s.get i
structure Ent where
  g : Regs
  s : St
  v : Value
  s' : St

/-! ### What an operation is known to do -/
section
variable (E : Env) (P : Program) (all : Array Oper)
def Wants (o : Oper) (g : Regs) (b : Bool) : Prop :=
  match o.guard with
  | none => b = true
  | some (j, want) => ∃ d, (all[j]?).bind (·.dst) = some d ∧ ((∃ c, g.getD d undef = .bool c ∧ b = (c == want)) ∨ (g.getD d undef = skipV ∧ b = false))
def ZSim (o : Oper) (g : Regs) (v : Value) : Prop :=
  ∀ φ (w : World) (a : Act) (next : Act → World → Prop) (Q : Exit → Act → World → Prop), Rr φ g a.tmps →
    (∀ (w' : World) v', w.heap.size ≤ w'.heap.size → (∀ k, k < w.heap.size → w'.heap[k]? = w.heap[k]?) → w'.os = w.os → w'.tape = w.tape → w'.output = w.output → V φ v v' → next (a.put o.dst v') w') → o.wp P a w next Q
def PSim (o : Oper) (g : Regs) (s : St) (v : Value) : Prop :=
  ∀ φ w Own (a : Act) (next : Act → World → Prop) (Q : Exit → Act → World → Prop), Glob E φ → R φ s w Own → Rr φ g a.tmps →
    (∀ w' Own' v', R φ s w' Own' → Fr w w' Own Own' → V φ v v' → next (a.put o.dst v') w') → o.wp P a w next Q
def BoxSim (o : Oper) (g : Regs) (s : St) (v : Value) : Prop :=
  ∃ i, isB (s.get i) = true ∧ ∀ φ s2 w Own (a : Act), Glob E φ → R φ s2 w Own → Rr φ g a.tmps → (i < s2.next → s2.get i = s.get i) → ∃ v', (execOp a.eval o).run P w = .ok (.value v') w ∧ V φ v v'
def ToldD (o : Oper) (g : Regs) (s : St) (v : Value) (s' : St) : Prop :=
  match dcl E all o with
  | .N => s' = s ∧ PureSim E P o g v
  | .Z => s' = s ∧ ZSim P o g v
  | .Rd => s' = s ∧ ∀ s2, Ext s s2 → RdSim E P o g s2 v
  | .RdB => s' = s ∧ BoxSim E P o g s v
  | .P => s' = s ∧ PSim E P o g s v
  | .Al => ∃ obj, s' = s.new obj ∧ AllocSim E P o g s.next obj v
  | .A => OpSim E P o g s v s' ∧ Low s s' ∧ Boxes s s'
  | .Ap => AppSim E P o g s v s' ∧ Low s s' ∧ Boxes s s'
  | .Ef => OpSim E P o g s v s' ∧ Low s s'
end

theorem all_flat_eq {φ ψ : Phi} : ∀ {l l' : List Value}, VL φ l l' → (∀ v ∈ l, flat v = true) → VL ψ l l'
  | _, _, h, k => by rw [h.flat_eq k]; exact VL.of_flat k
theorem one_flat {φ ψ : Phi} {u u' : Value} (h : V φ u u') (k : Go.Proofs.YtckalckfihhldaaDoorF.flat u = true) : V ψ u u' := by
  have : VL φ [u] [u'] := .cons h .nil
  have e := this.flat_eq (by simpa using k)
  injection e with e
  rw [e]
  exact .flat k
theorem VL.flat2 {φ ψ : Phi} : ∀ {l l' : List Value}, VL φ l l' → (∀ v ∈ l, (Go.Proofs.YtckalckfihhldaaDoorF.flat v || match v with | .agg b => b.toList.all Go.Proofs.YtckalckfihhldaaDoorF.flat | _ => false) = true) → VL ψ l l'
  | _, _, .nil, _ => .nil
  | _, _, .cons h t, k => by
    refine .cons ?_ (VL.flat2 t fun x hx => k x (by simp [hx]))
    have := k _ (List.mem_cons_self ..)
    simp only [Bool.or_eq_true] at this
    rcases this with e | e
    · exact one_flat h e
    · split at e
      · obtain ⟨a', e', h'⟩ := h.agg_inv
        rw [e']
        exact .agg (all_flat_eq h' (List.all_eq_true.1 e))
      · cases e
theorem V.flat2 {φ ψ : Phi} {v v' : Value} (h : V φ v v') (k : Go.Proofs.YtckalckfihhldaaDoorF.flat2 v = true) : V ψ v v' := by
  unfold Go.Proofs.YtckalckfihhldaaDoorF.flat2 at k
  split at k
  · obtain ⟨a', e', h'⟩ := h.agg_inv
    rw [e']
    exact .agg (all_flat_eq h' (List.all_eq_true.1 k))
  · rename_i a
    simp only [Bool.and_eq_true, Bool.not_eq_true', List.isEmpty_eq_false_iff] at k
    obtain ⟨a', e', h'⟩ := h.tuple_inv (by rintro rfl; exact k.1 rfl)
    rw [e']
    exact .tuple (VL.flat2 h' (List.all_eq_true.1 k.2))
  · exact one_flat h k

section
variable {E : Env} {P : Program} {call : FuncId → List Value → St → Ans} {r : Out × St} {all : Array Oper}
theorem callCls_cases (E : Env) (o : Oper) : callCls E o = .Z ∨ callCls E o = .P ∨ callCls E o = .A ∨ callCls E o = .Ef := by
  unfold callCls
  split
  · rename_i f _ _ _
    cases h1 : E.pure f <;> cases h2 : E.reads f <;> cases h3 : E.wrb f <;> simp
  · simp
theorem dcl_N {o : Oper} (h : cls E o = .N) : dcl E all o = .N := by unfold dcl; rw [h]
theorem dcl_Al {o : Oper} (h : cls E o = .Al) : dcl E all o = .Al := by unfold dcl; rw [h]
theorem dcl_C {o : Oper} (h : cls E o = .C) : dcl E all o = callCls E o := by unfold dcl; rw [h]
theorem dcl_Rd {o : Oper} (h : cls E o = .Rd) : dcl E all o = .Rd ∨ dcl E all o = .RdB := by unfold dcl; rw [h]; dsimp only; split <;> simp
theorem dcl_Ef {o : Oper} (h : cls E o = .Ef) : dcl E all o = .Ap ∨ dcl E all o = .Ef := by unfold dcl; rw [h]; dsimp only; split <;> simp
theorem dcl_Ap {o : Oper} (h : dcl E all o = .Ap) : isApp o = true := by
  unfold dcl at h
  split at h
  · cases h
  · split at h <;> cases h
  · cases h
  · split at h
    · assumption
    · cases h
  · rcases callCls_cases E o with e | e | e | e <;> rw [e] at h <;> cases h
/-- Only boxes that were made since were written. -/
theorem kop_A {o : Oper} {g : Regs} {s s' : St} (lo : Low { s with lowb := s.next } s') (hb : s.next ≤ s'.lowb) : Low s { s' with lowb := min s.lowb s'.lowb } ∧ Boxes s { s' with lowb := min s.lowb s'.lowb } := by
  have hbox : Boxes s { s' with lowb := min s.lowb s'.lowb } := fun i hi hbb => lo.box i hi (Nat.lt_of_lt_of_le hi hb) hbb
  exact ⟨⟨lo.next, lo.low, lo.same, fun t => lo.top t, Nat.min_le_left _ _, fun i hi _ hbb => hbox i hi hbb⟩, hbox⟩

theorem Rr.flat {φ ψ : Phi} {g : Regs} {t : Array Value} (h : Rr φ g t) (k : g.all (fun v => Go.Proofs.YtckalckfihhldaaDoorF.flat v || isU v) = true) : Rr ψ g t := by
  refine ⟨h.len, fun i => ?_⟩
  have := h.reg i
  rw [List.getD_eq_getElem?_getD] at this ⊢
  cases hx : g[i]? with
  | none => exact .any _
  | some v =>
    rw [hx] at this
    have hm := List.all_eq_true.1 k v (List.mem_of_getElem? hx)
    simp only [Bool.or_eq_true] at hm
    rcases hm with e | e
    · have h1 : VL φ [v] [t.getD i undef] := .cons this .nil
      have e2 := h1.flat_eq (by simpa using e)
      injection e2 with e2
      rw [e2]
      exact .flat e
    · cases v <;> simp [isU] at e
      subst e
      exact .any _

theorem app_told (hE : E.Ok P) {o : Oper} {g : Regs} {s : St} {K : Value → St → Ans} {Kp : List PanicEntry → St → Ans} (ha : isApp o = true) (h : kop E call o g s K Kp = some r) :
    ∃ v s', K v s' = some r ∧ AppSim E P o g s v s' ∧ Low s s' := by
  unfold isApp at ha
  split at ha
  · rename_i args ts ho
    unfold kop at h
    rw [ho] at h
    dsimp only at h
    split at h <;> first | (rename_i hb _; cases hb; done) | (rename_i hb; cases hb; done) | skip
    · rename_i x y _ hargs
      have hx : args = #[x, y] := by apply Array.ext'; simpa using hargs
      subst hx
      split at h
      · exact appz_sim hE ho h
      · exact append_sim hE ho h
    all_goals cases h
  · cases ha
theorem kopD_told (hE : E.Ok P) (hq : E.EqOk P) (hc : Calling E P call) (hz : E.noGlob = true → ∀ b, E.glob b = false) {o : Oper} {g : Regs} {s : St} {K : Value → St → Ans} {Kp : List PanicEntry → St → Ans} (h : kopD E call all o g s K Kp = some r) :
    (∃ v s', K v s' = some r ∧ ToldD E P all o g s v s') ∨ (∃ ch s', Kp ch s' = some r ∧ OpPan E P o g s ch s' ∧ Low s s' ∧ isE (dcl E all o) = true ∧ dcl E all o ≠ .Ap) := by
  unfold kopD at h
  split at h
  · rename_i hd
    split at h
    · rename_i hng
      simp only [Bool.and_eq_true] at hng
      rcases kop_told hE hq hc h with ⟨v, s', h1, h2⟩ | ⟨ch, s', h1, -⟩
      · split at h1
        · rename_i hf
          refine .inl ⟨v, s, h1, ?_⟩
          unfold ToldD
          rw [hd]
          refine ⟨rfl, fun φ w a next Q hr hn => ?_⟩
          refine h2.sim.1 (fun _ => none) w (fun _ => False) a next Q (fun b hb => by rw [hz hng.1 b] at hb; cases hb) (R.bare w) (hr.flat hng.2) fun φ' w' Own' v' le hR' hF hv => ?_
          exact hn w' v' hF.size (fun k hk => hF.keep k hk id) hF.os hF.tape hF.output (hv.flat2 hf)
        · cases h1
      · cases h1
    · cases h
  · rename_i hd
    rcases kop_told hE hq hc h with ⟨v, s', h1, h2⟩ | ⟨ch, s', h1, -⟩
    · split at h1
      · rename_i hf
        simp only [Bool.and_eq_true, decide_eq_true_eq] at hf
        refine .inl ⟨v, s, h1, ?_⟩
        unfold ToldD
        rw [hd]
        refine ⟨rfl, fun φ w Own a next Q hg hR hr hn => ?_⟩
        obtain ⟨h2, lo⟩ := h2.sim
        refine h2 φ w Own a next Q hg (hR.low _) hr fun φ' w' Own' v' le hR' hF hv => ?_
        exact hn w' Own' v' (hR.back le hR' fun i hi => lo.same i hi (Nat.lt_of_lt_of_le hi hf.2)) hF (hv.flat2 hf.1)
      · cases h1
    · cases h1
  · rename_i hd
    rcases kop_told hE hq hc h with ⟨v, s', h1, h2⟩ | ⟨ch, s', h1, h2, h3, -⟩
    · split at h1
      · rename_i hf
        obtain ⟨h2, lo⟩ := h2.sim
        refine .inl ⟨v, _, h1, ?_⟩
        unfold ToldD
        rw [hd]
        refine ⟨fun φ w Own a next Q hg hR hr hn => ?_, kop_A (o := o) (g := g) lo hf⟩
        exact h2 φ w Own a next Q hg (hR.lows _ _) hr fun φ' w' Own' v' le hR' hF hv => hn φ' w' Own' v' le (hR'.lows _ _) hF hv
      · cases h1
    · refine .inr ⟨ch, _, h1, fun φ w Own a next Q hg hR hr hn => ?_, ?_, by rw [hd]; rfl, by rw [hd]; exact DC.noConfusion⟩
      · exact h2 φ w Own a next Q hg (hR.lows _ _) hr fun φ' w' Own' ch' le hR' hF hv => hn φ' w' Own' ch' le (hR'.lows _ _) hF hv
      · exact ⟨h3.next, h3.low, h3.same, fun t => h3.top t, Nat.min_le_left _ _, fun i hi hl hb => h3.box i hi (Nat.lt_of_lt_of_le hl (Nat.min_le_right _ _)) hb⟩
  · rename_i hd
    obtain ⟨v, s', h1, h2, lo⟩ := app_told hE (dcl_Ap hd) h
    split at h1
    · rename_i hf
      refine .inl ⟨v, _, h1, ?_⟩
      unfold ToldD
      rw [hd]
      refine ⟨fun φ w Own a next Q hg hR hr hn => ?_, kop_A (o := o) (g := g) lo hf⟩
      exact h2 φ w Own a next Q hg (hR.lows _ _) hr fun φ' w' Own' v' le hR' hF hv hp => hn φ' w' Own' v' le (hR'.lows _ _) hF hv fun p k => let ⟨k1, k2⟩ := hp p ⟨k.lt, k.no, k.line⟩; ⟨⟨k1.lt, k1.no, k1.line⟩, k2⟩
    · cases h1
  · rename_i hd
    split at h
    · rename_i t x ho
      split at h
      · rename_i i off hx
        split at h
        · rename_i hb
          obtain ⟨v, h1, h2⟩ := load_box_sim hE ho hx h
          refine .inl ⟨v, s, h1, ?_⟩
          unfold ToldD
          rw [hd]
          refine ⟨rfl, i, hb, fun φ s2 w Own a hg hR hr hs => h2 φ s2 w Own a hg hR hr fun hi => ?_⟩
          have e := hs hi
          unfold St.cells
          rw [e]
          cases hgi : s.get i with
          | none => rfl
          | some ob => cases ob <;> first | rfl | (rw [hgi] at hb; simp [isB] at hb)
        · cases h
      · cases h
    · cases h
  · rename_i hd1 hd2 hd3 hd4 hd5
    rcases kop_told hE hq hc h with ⟨v, s', h1, h2⟩ | ⟨ch, s', h1, h2, h3, h4⟩
    · refine .inl ⟨v, s', h1, ?_⟩
      have hs := h2.sim
      unfold Told at h2
      unfold ToldD
      split at h2
      · rename_i e; rw [dcl_N e]; exact h2
      · rename_i e
        rcases dcl_Rd (all := all) e with e | e
        · rw [e]; exact h2
        · exact absurd e hd5
      · rename_i e; rw [dcl_Al e]; exact h2
      · rename_i e
        have e' := dcl_C (all := all) e
        rcases callCls_cases E o with e2 | e2 | e2 | e2
        · exact absurd (e'.trans e2) hd1
        · exact absurd (e'.trans e2) hd2
        · exact absurd (e'.trans e2) hd3
        · rw [e', e2]; exact hs
      · rename_i e
        rcases dcl_Ef (all := all) e with e | e
        · exact absurd e hd4
        · rw [e]; exact hs
    · have hna : dcl E all o ≠ .Ap := hd4
      refine .inr ⟨ch, s', h1, h2, h3, ?_, hna⟩
      rcases h4 with e | e
      · have e' := dcl_C (all := all) e
        rcases callCls_cases E o with e2 | e2 | e2 | e2
        · exact absurd (e'.trans e2) hd1
        · exact absurd (e'.trans e2) hd2
        · exact absurd (e'.trans e2) hd3
        · rw [e', e2]; rfl
      · rcases dcl_Ef (all := all) e with e | e <;> rw [e] <;> rfl
end
end Go.Proofs.YtckalckfihhldaaDoorF
