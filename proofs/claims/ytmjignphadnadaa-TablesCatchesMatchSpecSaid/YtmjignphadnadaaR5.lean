/- The law of catches is proved: catches are found, shadowed ones are listed, and tables of catches are packed and unpacked as specified, with all errors; for every input, without a condition. -/
import Derived.Test.YtmjignphadnadaaF25
import Derived.Test.YtmjignphadnadaaT11
set_option linter.unusedVariables false
set_option linter.unusedSimpArgs false
namespace Go.Proofs.YtmjignphadnadaaF
open Go Go.Proofs Go.ChangeShapes Go.WideShapes Go.ChangeAt Go.RowKit
open Go.Proofs.Ytmjignphadnadaa
namespace R5

theorem und3 : Try.prog.underlying 3 = some (.int .i64) := by kernel_rfl
theorem und4 : Try.prog.underlying 4 = some .bool := by kernel_rfl
theorem und47 : Try.prog.underlying 47 = some (.slice 51) := by kernel_rfl
theorem rd3 : Rd Try.prog 3 (rI .i64) (fun n => (Lit.int .i64 n).wf = true) (fun _ => 1) := Rd.int und3 (by kernel_rfl)
theorem rdE : Rd Try.prog 51 (rP (rI .i64) (rP (rI .i64) (rP (rI .i64) (rI .i64)))) (fun x => (Lit.int .i64 x.1).wf = true ∧ (Lit.int .i64 x.2.1).wf = true ∧ (Lit.int .i64 x.2.2.1).wf = true ∧ (Lit.int .i64 x.2.2.2).wf = true) (fun _ => 1 + (1 + (1 + 1))) := Rd.struct (l := [(3, 0), (3, 1), (3, 2), (3, 3)]) (by kernel_rfl) (by kernel_rfl) (by kernel_rfl) (RdF.cons rd3 (RdF.cons rd3 (RdF.cons rd3 (RdF.one rd3))))
theorem rdS : Rd Try.prog 47 (rL (rP (rI .i64) (rP (rI .i64) (rP (rI .i64) (rI .i64))))) (fun ys => ∀ x ∈ ys, (Lit.int .i64 x.1).wf = true ∧ (Lit.int .i64 x.2.1).wf = true ∧ (Lit.int .i64 x.2.2.1).wf = true ∧ (Lit.int .i64 x.2.2.2).wf = true) (fun ys => (ys.map fun _ => 1 + (1 + (1 + 1))).sum + 1) := Rd.slice und47 (by kernel_rfl) (by decide) rdE
theorem laidOut : laidOutB Try.prog = true := by kernel_rfl
theorem heap0 : 0 < (begin Try.prog (fun _ _ => 0) default).world.heap.size := of_decide_eq_true (by kernel_rfl)
theorem shaped_pos {W : World} (h : W.ShapedOpen Try.prog) : 0 < W.heap.size := by
  obtain ⟨o, _, h1, _⟩ := h.2 0 (Nat.le_of_eq (by kernel_rfl)) heap0
  rcases Nat.lt_or_ge 0 W.heap.size with h | h
  · exact h
  · rw [Array.getElem?_eq_none h] at h1
    cases h1
theorem own : ownKnob Try.prog.godebug = none := by kernel_rfl
theorem walk5 (W : World) (hW : 0 < W.heap.size) {H : Type} (enc : TypeId × Value → H) (a : Option Addr) (n c : Nat) (at_ : Int) (d : DataW H) (p : List MemPlace) (h : DataW.Trod enc Try.prog W 0 (fun _ => true) true 47 (.slice a n c) d p) :
    Calls Try.prog 5 #[.slice a n c, .int .i64 at_] W fun e W' => e = .returned (.bool true) ∧ Below W.heap.size W W' := by
  obtain ⟨φ, s, av, l, g, hv, hr, -, -⟩ := rdS.arg rfl h hW (R.empty W)
  obtain ⟨A, c', e, hs⟩ := rL_elim hr
  injection e with e
  subst e
  refine law_calls all (fun _ => rfl) (n := 1000000) g.rel (.cons hv (.cons (.flat rfl) .nil)) ?_
  obtain ⟨o, s', e1, v, rfl, -, -, rfl⟩ := t5 1000000 l at_ s hs true (law5 l at_) trivial
  exact ⟨_, s', e1, rfl⟩
set_option maxRecDepth 100000 in
theorem lifted (os : Os) (started : os.Started) (H : Type) (enc : TypeId × Value → H) :
    ReturnsInHanded {} Try.checked os 5 .any (Rows.tablesCatchesMatchSpecSpec.pre6 enc Try.prog Try.f5 Rows.tablesCatchesMatchSpecRow.domain false) (Rows.tablesCatchesMatchSpecSpec.post enc Try.prog Try.f5 false true false false) := by
  refine returnsInHanded_of_change_shaped (C := Try.checked) own started (by kernel_rfl) Try.func5
    (ChangeSpec.witness6 (enc := enc) (C := Try.checked) false ⟨#[], #[.slice none 0 0, .int .i64 0], []⟩ 8 (by kernel_rfl) (by kernel_rfl) (by kernel_rfl) (by kernel_rfl)) ?_
  intro W base args ds gs before hval0 hW hcnd _ hsh _
  have hval : ∀ (j : Nat) t v, Try.f5.params[j]? = some t → args[j]? = some v → Value.okWide Try.prog W .any base t v := hval0
  have hW' := hW
  obtain ⟨p, q, hA0, hV, rfl, hfz, hnd⟩ := hW
  have hA : DataW.TrodAll enc Try.prog W 0 (fun _ => true) true Try.f5.params.toList args.toList ds p := hA0
  rw [Try.params5] at hA hval
  obtain ⟨v0, vs0, d0, ds0, p0, q0, hargs, rfl, rfl, h0, r0⟩ := trodAll_cons hA
  obtain ⟨v1, vs1, d1, ds1, p1, q1, rfl, rfl, rfl, h1, r1⟩ := trodAll_cons r0
  obtain ⟨rfl, rfl, rfl⟩ := trodAll_nil r1
  obtain rfl : args = #[v0, v1] := by cases args; simp_all
  obtain ⟨rfl, rfl⟩ := trodVars_none hV
  obtain ⟨a0, len0, cap0, rfl⟩ := okWide_slice und47 (hval 0 47 v0 rfl rfl)
  have k0 := h0
  have lt0 : ∀ x ∈ p0, x.block < W.heap.size := by obtain ⟨m, hm⟩ := k0; exact DataW.trod_lt m _ _ _ hm
  obtain ⟨a1, rfl, rfl, rfl, w1⟩ := open_int und3 (hval 1 3 v1 rfl rfl) h1
  clear hA0 hval0
  refine (walk5 W (shaped_pos hsh) enc a0 len0 cap0 a1 d0 p0 h0).mono fun e W' ⟨he, bel⟩ => ?_
  subst he
  exact ⟨_, rfl, _, _, _, [], _, [], hW', trodAll_mk1 (shut_bool und4 _), (trodAll_cons_mk (Below.trod laidOut (by kernel_rfl) (of_decide_eq_true (by kernel_rfl)) k0 bel lt0) (trodAll_cons_mk (shut_int und3 w1) trodAll_mk0)), rfl, bel.frame _, fun h => by cases h⟩
theorem over : Rows.tablesCatchesMatchSpecRow.holds Try.pinned (OpenSpec.ofChange Rows.tablesCatchesMatchSpecSpec) :=
  OpenClaim.holds_of_wide 5 Try.f5 rfl rfl rfl rfl rfl rfl rfl ⟨rfl, rfl, rfl, rfl, rfl⟩ rfl rfl rfl rfl rfl (by kernel_rfl) Try.func5 (by kernel_rfl)
    (of_decide_eq_true (by kernel_rfl)) (by unfold Func.isWrapper; first | (rw [if_pos (by decide +kernel)]; kernel_rfl) | (rw [if_neg (by decide +kernel)]; exact ⟨rfl, rfl⟩))
    (fun os started H enc _ => lifted os started H enc)
end R5
end Go.Proofs.YtmjignphadnadaaF
namespace Go.Proofs.Ytmjignphadnadaa
theorem catches_hold : Rows.TablesCatchesMatchSpecSaid := YtmjignphadnadaaF.R5.over
end Go.Proofs.Ytmjignphadnadaa
