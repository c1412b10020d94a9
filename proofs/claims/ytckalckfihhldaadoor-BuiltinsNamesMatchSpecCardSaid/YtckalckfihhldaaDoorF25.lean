/- The abstract heap machine, part 25: how a law's row is closed. -/
import Derived.Test.YtckalckfihhldaaDoorF24
import Derived.Carry
set_option linter.unusedVariables false
set_option linter.unusedSimpArgs false
namespace Go.Proofs.YtckalckfihhldaaDoorF
open Go Go.ChangeShapes Go.WideShapes Go.ChangeAt Go.RowKit
open Go.Proofs.YtckalckfihhldaaDoor.Rows (uptoBulk uptoBulkAll uptoSmall)

theorem R.empty (W : World) : R (fun _ => none) { next := 0, low := 0, lowb := 0, tab := .leaf } W noOwn :=
  ⟨fun i _ => by unfold St.get; cases bits i <;> rfl, fun i l e => (by cases e), fun i l e => (by cases e), fun k h => h.elim, fun i l e => (by cases e), fun i j l m o e => (by cases e)⟩
/-- An argument of one cell is read. -/
theorem Rd.arg {P : Program} {t : TypeId} {α : Type} {r : Rep α} {wf : α → Prop} {sz : α → Nat} (hd : Rd P t r wf sz) {H : Type} {enc : TypeId × Value → H} {W : World} {v : Value} {d : DataW H} {p : List MemPlace} (hv : v.cells = #[v])
    (h : DataW.Trod enc P W 0 (fun _ => true) true t v d p) (hW : 0 < W.heap.size) {φ : Phi} {s : St} (hR : R φ s W noOwn) :
    ∃ φ' s' av y, Gs φ s φ' s' W ∧ V φ' av v ∧ r.rel s' y [av] ∧ wf y ∧ sz y ≤ uptoBulk d := by
  obtain ⟨fuel, hf⟩ := h
  rw [hv] at hf
  obtain ⟨φ', s', acs, y, g1, g2, g3, g4, g5⟩ := hd.read hf hW φ s hR
  cases g2 with
  | cons a b =>
    cases b
    exact ⟨φ', s', _, y, g1, a, g3, g4, g5⟩
/-- A start at which the package variables of the first numbers are there, under their own numbers. -/
theorem start_globs (W : World) (gl : Nat → List Value) : ∀ k, k ≤ W.heap.size → (∀ i, i < k → ∀ (j : Nat) v, (gl i)[j]? = some v → flat v = true ∧ W.cell? ⟨i, j, none⟩ = some v) →
    ∃ φ s, s.next = k ∧ R φ s W noOwn ∧ ∀ i, i < k → φ i = some ⟨i, 0, 0, 0⟩ ∧ s.rc i = some (0, gl i)
  | 0, _, _ => ⟨_, _, rfl, R.empty W, fun i hi => by omega⟩
  | k + 1, hk, h => by
    obtain ⟨φ, s, h1, h2, h3⟩ := start_globs W gl k (by omega) fun i hi => h i (by omega)
    have g := R.addForeign h2 0 (gl k) k 0 (by omega) (fun i v hv => ⟨v, by rw [Nat.zero_add]; exact (h k (by omega) i v hv).2, .flat (h k (by omega) i v hv).1⟩)
    refine ⟨_, _, by simp [h1], g.rel, fun i hi => ?_⟩
    by_cases e : i = k
    · subst e
      refine ⟨by unfold Phi.put; rw [if_pos h1.symm], ?_⟩
      unfold St.rc
      rw [St.get_new, if_pos h1.symm]
      simp
    · obtain ⟨a, b⟩ := h3 i (by omega)
      exact ⟨g.le _ _ a, g.kr.row i _ (by omega) b⟩
/-- A law's call, in a program whose package variables are read. -/
theorem law_callsG {E : Env} {P : Program} (hA : E.All P) {n : Nat} {f : FuncId} {args : List Value} {args' : Array Value} {φ : Phi} {s : St} {W : World} (hg : Glob E φ) (hR : R φ s W noOwn) (hv : VL φ args args'.toList)
    (h : Ev (acall E n f args s) fun o _ => o = .ret (.bool true)) : Calls P f args' W fun e W' => e = .returned (.bool true) ∧ Below W.heap.size W W' := by
  obtain ⟨o, s', e, rfl⟩ := h
  refine ((acall_sim hA n f args s _ s' e).1 φ W noOwn args' hg hR hv).mono fun e W' hw => ?_
  obtain ⟨φ', Own', _, _, hF, hE⟩ := hw
  obtain ⟨v', rfl, hv'⟩ := hE
  refine ⟨?_, hF.os, hF.tape, hF.output, hF.size, fun k hk => hF.keep k hk id⟩
  have : v' = .bool true := by cases hv'; rfl
  rw [this]
/-- A law's call: it returns true, and what was there is as it was. -/
theorem law_calls {E : Env} {P : Program} (hA : E.All P) (hg : ∀ b, E.glob b = false) {n : Nat} {f : FuncId} {args : List Value} {args' : Array Value} {φ : Phi} {s : St} {W : World} (hR : R φ s W noOwn) (hv : VL φ args args'.toList)
    (h : Ev (acall E n f args s) fun o _ => o = .ret (.bool true)) : Calls P f args' W fun e W' => e = .returned (.bool true) ∧ Below W.heap.size W W' := by
  obtain ⟨o, s', e, rfl⟩ := h
  refine ((acall_sim hA n f args s _ s' e).1 φ W noOwn args' (fun b hb => by rw [hg b] at hb; cases hb) hR hv).mono fun e W' hw => ?_
  obtain ⟨φ', Own', _, _, hF, hE⟩ := hw
  obtain ⟨v', rfl, hv'⟩ := hE
  refine ⟨?_, hF.os, hF.tape, hF.output, hF.size, fun k hk => hF.keep k hk id⟩
  have : v' = .bool true := by cases hv'; rfl
  rw [this]
/-- The wrap of a row with a condition, the world's shape kept. -/
theorem returnsInHanded_of_cond_shaped {H : Type} {enc : TypeId × Value → H} {a : Assume} {C : Checked} {os : Os} {f : FuncId} {fn : Func} {s : OpenSpec} {k : (H : Type) → List (DataW H) → Bool} (hk : s.cond = some k) {F : Stop.Interp} {conds : List PathCond} {apart fresh handsOn again : Bool}
    (own : ownKnob C.prog.godebug = none) (started : os.Started) (noInit : C.prog.inits.idxOf? f = none) (hfn : C.prog.funcs[f]? = some fn)
    (witness : ∃ (w : World) (tape : Tape) (i : Input), w.os = os ∧ (w.forCall tape i).Shaped C.prog ∧ i.vars = [] ∧ Input.okWide C.prog (w.forCall tape i) .any w.heap.size f i ∧
      s.pre6 enc C.prog fn conds apart (w.forCall tape i).memory i.args ∧ a.holds C.prog (lone (Frame.enter C.prog f i.args .normal) [] (w.forCall tape i)))
    (contract : ∀ (W : World) (base : Nat) (args : Array Value) (ds gs : List (DataW H)) (before : List MemPlace),
      (∀ (j : Nat) t v, fn.params[j]? = some t → args[j]? = some v → Value.okWide C.prog W .any base t v) →
      DataW.Whole enc C.prog fn.params.toList s.vars apart W args.toList ds gs before →
      conds.all (PathCond.test C.prog ⟨fn.params.toList, ds, s.bare.plain.varTypes C.prog, gs⟩) = true → k H (ds ++ gs) = true →
      W.ShapedOpen C.prog →
      a.holds C.prog (lone (Frame.enter C.prog f args .normal) [] W) →
      Calls C.prog f args W fun e W' => ∃ v, e = .returned v ∧ (s.at F).post enc C.prog fn apart fresh handsOn again W args v W') :
    ReturnsInHanded a C os f .any (s.pre6 enc C.prog fn conds apart) ((s.at F).post enc C.prog fn apart fresh handsOn again) := by
  refine returnsInHanded_of_calls own started noInit witness ?_
  intro w tape i _ hsh _ hok hpre hholds
  obtain ⟨_, _, _, fn', hfn', _, _, _, _, hval⟩ := hok
  have e : fn' = fn := Option.some.inj (hfn'.symm.trans hfn)
  subst e
  obtain ⟨ds, gs, before, hw, hc, hkk⟩ := (OpenSpec.pre_some hk conds apart _ _).1 hpre.1
  have hw' := DataW.Whole.of_heap (w' := w.forCall tape i) (by rfl) hw
  refine (contract (w.forCall tape i) w.heap.size i.args ds gs before hval hw' hc hkk hsh hholds).mono fun e W' ⟨v, he, hp⟩ => ?_
  subst he
  exact ChangeSpec.post_blind hp
theorem bound_of_small {H : Type} {ds : List (DataW H)} (h : uptoSmall H ds = true) : uptoBulkAll ds ≤ 1048576 := of_decide_eq_true h
end Go.Proofs.YtckalckfihhldaaDoorF
