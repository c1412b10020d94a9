/- The abstract heap machine, part 25: how a law's row is closed. -/
import Derived.Test.YtmjignphadnadaaF24
import Derived.Carry
set_option linter.unusedVariables false
set_option linter.unusedSimpArgs false
namespace Go.Proofs.YtmjignphadnadaaF
open Go Go.ChangeShapes Go.WideShapes Go.ChangeAt Go.RowKit
open Go.Proofs.Ytmjignphadnadaa.Rows (uptoBulk uptoBulkAll uptoSmall)

theorem R.empty (W : World) : R (fun _ => none) { next := 0, low := 0, lowb := 0, tab := .leaf } W noOwn :=
  ⟨fun i _ => by unfold St.get; cases bits i <;> rfl, fun i l e => (by cases e), fun i l e => (by cases e), fun k h => h.elim, fun i l e => (by cases e), fun i j l m o e => (by cases e)⟩
/-- An argument of one cell is read. -/
theorem Rd.arg {P : Program} {t : TypeId} {α : Type} {r : Rep α} {wf : α → Prop} {sz : α → Nat} (hd : Rd P t r wf sz) {H : Type} {enc : TypeId × Value → H} {W : World} {v : Value} {d : DataW H} {p : List MemPlace} (hv : v.cells = #[v])
    (h : DataW.Trod enc P W 0 (fun _ => true) true t v d p) (hW : 0 < W.heap.size) {φ : Phi} {s : St} (hR : R φ s W noOwn) :
    ∃ φ' s' av y, Gs φ s φ' s' W ∧ V φ' av v ∧ r.rel s' y [av] ∧ wf y ∧ sz y ≤ uptoBulk d := by
  obtain ⟨fuel, hf⟩ := h
  rw [hv] at hf
  obtain ⟨φ', s', acs, y, g1, g2, g3, g4, g5⟩ := hd.read hf hW φ s hR
  cases g2 with
  | cons a b =>
    cases b
    exact ⟨φ', s', _, y, g1, a, g3, g4, g5⟩
/-- A law's call: it returns true, and what was there is as it was. -/
theorem law_calls {E : Env} {P : Program} (hA : E.All P) (hg : ∀ b, E.glob b = false) {n : Nat} {f : FuncId} {args : List Value} {args' : Array Value} {φ : Phi} {s : St} {W : World} (hR : R φ s W noOwn) (hv : VL φ args args'.toList)
    (h : Ev (acall E n f args s) fun o _ => o = .ret (.bool true)) : Calls P f args' W fun e W' => e = .returned (.bool true) ∧ Below W.heap.size W W' := by
  obtain ⟨o, s', e, rfl⟩ := h
  refine ((acall_sim hA n f args s _ s' e).1 φ W noOwn args' (fun b hb => by rw [hg b] at hb; cases hb) hR hv).mono fun e W' hw => ?_
  obtain ⟨φ', Own', _, _, hF, hE⟩ := hw
  obtain ⟨v', rfl, hv'⟩ := hE
  refine ⟨?_, hF.os, hF.tape, hF.output, hF.size, fun k hk => hF.keep k hk id⟩
  have : v' = .bool true := by cases hv'; rfl
  rw [this]
end Go.Proofs.YtmjignphadnadaaF
