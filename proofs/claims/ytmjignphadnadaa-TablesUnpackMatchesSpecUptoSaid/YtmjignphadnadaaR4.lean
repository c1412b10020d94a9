/- The law of unpacking is proved: bytes of tables are unpacked as specified, with all errors, and what is unpacked is packed as the same bytes; where the bytes and the rest of what is read are together at most 1048576 values and letters. -/
import Derived.Test.YtmjignphadnadaaF25
import Derived.Test.YtmjignphadnadaaT10
set_option linter.unusedVariables false
set_option linter.unusedSimpArgs false
namespace Go.Proofs.YtmjignphadnadaaF
open Go Go.Proofs Go.ChangeShapes Go.WideShapes Go.ChangeAt Go.RowKit
open Go.Proofs.Ytmjignphadnadaa
namespace R4
theorem und5 : Try.prog.underlying 5 = some (.int .u8) := by kernel_rfl
theorem und4 : Try.prog.underlying 4 = some .bool := by kernel_rfl
theorem und29 : Try.prog.underlying 29 = some (.slice 5) := by kernel_rfl
theorem rd5 : Rd Try.prog 5 (rI .u8) (fun n => (Lit.int .u8 n).wf = true) (fun _ => 1) := Rd.int und5 (by kernel_rfl)
theorem rd29 : Rd Try.prog 29 (rL (rI .u8)) (fun ys => ∀ x ∈ ys, (Lit.int .u8 x).wf = true) (fun ys => (ys.map fun _ => 1).sum + 1) := Rd.slice und29 (by kernel_rfl) (by decide) rd5
theorem laidOut : laidOutB Try.prog = true := by kernel_rfl
theorem heap0 : 0 < (begin Try.prog (fun _ _ => 0) default).world.heap.size := of_decide_eq_true (by kernel_rfl)
theorem shaped_pos {W : World} (h : W.ShapedOpen Try.prog) : 0 < W.heap.size := by
  obtain ⟨o, _, h1, _⟩ := h.2 0 (Nat.le_of_eq (by kernel_rfl)) heap0
  rcases Nat.lt_or_ge 0 W.heap.size with h | h
  · exact h
  · rw [Array.getElem?_eq_none h] at h1
    cases h1
theorem own : ownKnob Try.prog.godebug = none := by kernel_rfl
theorem sum_ones (l : List Int) : (l.map fun _ => 1).sum = l.length := by
  induction l with
  | nil => rfl
  | cons x l ih => simp [ih]; omega
theorem walk (W : World) (hW : 0 < W.heap.size) {H : Type} (enc : TypeId × Value → H) (a : Option Addr) (n c : Nat) (d : DataW H) (p : List MemPlace) (h : DataW.Trod enc Try.prog W 0 (fun _ => true) true 29 (.slice a n c) d p) (hb : Rows.uptoBulk d ≤ 1048576) :
    Calls Try.prog 4 #[.slice a n c] W fun e W' => e = .returned (.bool true) ∧ Below W.heap.size W W' := by
  obtain ⟨φ, s, av, l, g, hv, hr, hw, hz⟩ := rd29.arg rfl h hW (R.empty W)
  rw [sum_ones] at hz
  obtain ⟨A, c', e, hs⟩ := rL_elim hr
  injection e with e
  subst e
  have hbl : byteL l := fun x hx => by
    have := hw x hx
    simp [Lit.wf, IntKind.min, IntKind.max, IntKind.signed, IntKind.bits] at this
    omega
  refine law_calls all (fun _ => rfl) (n := 2000000) g.rel (.cons hv .nil) ?_
  obtain ⟨o, s', e1, v, rfl, -, -, rfl⟩ := t4 2000000 l s hs true (law4 l hbl (by omega)) trivial
  exact ⟨_, s', e1, rfl⟩
set_option maxRecDepth 100000 in
theorem lifted (os : Os) (started : os.Started) (H : Type) (enc : TypeId × Value → H) (F : Stop.Interp) :
    ReturnsInHanded {} Try.checked os 4 .any ((Rows.OpenSpec.upto Rows.tablesUnpackMatchesSpecSpec).pre6 enc Try.prog Try.f4 Rows.tablesUnpackMatchesSpecUptoRow.domain false) (((Rows.OpenSpec.upto Rows.tablesUnpackMatchesSpecSpec).at F).post enc Try.prog Try.f4 false true false false) := by
  refine returnsInHanded_of_cond_shaped (C := Try.checked) (s := Rows.OpenSpec.upto Rows.tablesUnpackMatchesSpecSpec) (k := Rows.uptoSmall) rfl own started (by kernel_rfl) Try.func4
    (OpenSpec.witness (enc := enc) (C := Try.checked) (s := Rows.OpenSpec.upto Rows.tablesUnpackMatchesSpecSpec) (k := Rows.uptoSmall) rfl false ⟨#[], #[.slice none 0 0], []⟩ 8 (by kernel_rfl) (by kernel_rfl) (by kernel_rfl)
      (x := ([.nil], [], [])) (by kernel_rfl) rfl (by kernel_rfl)) ?_
  intro W base args ds gs before hval0 hW hcnd hk hsh _
  have hval : ∀ (j : Nat) t v, Try.f4.params[j]? = some t → args[j]? = some v → Value.okWide Try.prog W .any base t v := hval0
  have hW' := hW
  obtain ⟨p, q, hA0, hV, rfl, hfz, hnd⟩ := hW
  have hA : DataW.TrodAll enc Try.prog W 0 (fun _ => true) true Try.f4.params.toList args.toList ds p := hA0
  rw [Try.params4] at hA hval
  obtain ⟨v0, vs0, d0, ds0, p0, q0, hargs, rfl, rfl, h0, r0⟩ := trodAll_cons hA
  obtain ⟨rfl, rfl, rfl⟩ := trodAll_nil r0
  obtain rfl : args = #[v0] := by cases args; simp_all
  obtain ⟨rfl, rfl⟩ := trodVars_none hV
  obtain ⟨a0, len0, cap0, rfl⟩ := okWide_slice und29 (hval 0 29 v0 rfl rfl)
  have k0 := h0
  have lt0 : ∀ x ∈ p0, x.block < W.heap.size := by obtain ⟨m, hm⟩ := k0; exact DataW.trod_lt m _ _ _ hm
  have hb := bound_of_small hk
  simp only [List.append_nil, Rows.uptoBulkAll, Nat.add_zero] at hb
  clear hA0 hval0
  refine (walk W (shaped_pos hsh) enc a0 len0 cap0 d0 p0 h0 hb).mono fun e W' ⟨he, bel⟩ => ?_
  subst he
  exact ⟨_, rfl, _, _, _, [], _, [], hW', trodAll_mk1 (shut_bool und4 _), (trodAll_cons_mk (Below.trod laidOut (by kernel_rfl) (of_decide_eq_true (by kernel_rfl)) k0 bel lt0) trodAll_mk0), rfl, bel.frame _, fun h => by cases h⟩
theorem over : Rows.tablesUnpackMatchesSpecUptoRow.holds Try.pinned (Rows.OpenSpec.upto Rows.tablesUnpackMatchesSpecSpec) :=
  OpenClaim.holds_of_cond 4 Try.f4 rfl rfl rfl rfl rfl rfl rfl ⟨rfl, rfl, rfl, rfl, rfl⟩ rfl rfl rfl rfl rfl (by kernel_rfl) Try.func4 (by kernel_rfl)
    (of_decide_eq_true (by kernel_rfl)) (by unfold Func.isWrapper; first | (rw [if_pos (by decide +kernel)]; kernel_rfl) | (rw [if_neg (by decide +kernel)]; exact ⟨rfl, rfl⟩))
    (fun os started H enc _ F => lifted os started H enc F)
end R4
end Go.Proofs.YtmjignphadnadaaF
namespace Go.Proofs.Ytmjignphadnadaa
theorem unpack_holds : Rows.TablesUnpackMatchesSpecUptoSaid := YtmjignphadnadaaF.R4.over
end Go.Proofs.Ytmjignphadnadaa
