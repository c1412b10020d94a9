/- The law of encoding is proved: instructions are encoded as specified, with all errors, and what was encoded is decoded; for every input, where the two listed package variables of Go's library hold what the program's text lays. -/
import Derived.Test.YtmjignphadnadaaDoorCards
import Derived.Test.YtmjignphadnadaaDoorTie
import Derived.Test.YtmjignphadnadaaDoorF25
import Derived.Test.YtmjignphadnadaaDoorT4
import Derived.Deep.DeepHandedRow
import Derived.Deep.DeepWitnessRowRef
import Derived.Lib.LaidTab
import Derived.Stop.LaidErr
set_option linter.unusedVariables false
set_option linter.unusedSimpArgs false
namespace Go.Proofs.YtmjignphadnadaaDoorF
open Go Go.Proofs Go.ChangeShapes Go.WideShapes Go.ChangeAt Go.RowKit
open Go.Proofs.YtmjignphadnadaaDoor
namespace R1
set_option maxRecDepth 100000
theorem und3 : Tryd.prog.underlying 3 = some (.int .i64) := by kernel_rfl
theorem und4 : Tryd.prog.underlying 4 = some .bool := by kernel_rfl
theorem und22 : Tryd.prog.underlying 22 = some (.slice 40) := by kernel_rfl
theorem rd3 : Rd Tryd.prog 3 (rI .i64) (fun n => (Lit.int .i64 n).wf = true) (fun _ => 1) := Rd.int und3 (by kernel_rfl)
theorem rdE : Rd Tryd.prog 40 (rP (rI .i64) (rP (rI .i64) (rI .i64))) (fun x => (Lit.int .i64 x.1).wf = true ∧ (Lit.int .i64 x.2.1).wf = true ∧ (Lit.int .i64 x.2.2).wf = true) (fun _ => 1 + (1 + 1)) := Rd.struct (l := [(3, 0), (3, 1), (3, 2)]) (by kernel_rfl) (by kernel_rfl) (by kernel_rfl) (RdF.cons rd3 (RdF.cons rd3 (RdF.one rd3)))
theorem rdS : Rd Tryd.prog 22 (rL (rP (rI .i64) (rP (rI .i64) (rI .i64)))) (fun ys => ∀ x ∈ ys, (Lit.int .i64 x.1).wf = true ∧ (Lit.int .i64 x.2.1).wf = true ∧ (Lit.int .i64 x.2.2).wf = true) (fun ys => (ys.map fun _ => 1 + (1 + 1)).sum + 1) := Rd.slice und22 (by kernel_rfl) (by decide) rdE
theorem laidOut : laidOutB Tryd.prog = true := by kernel_rfl
theorem own : ownKnob Tryd.prog.godebug = none := by kernel_rfl
theorem gTab : Tryd.prog.globalNamed "strings.asciiSpace" = some 0 := by kernel_rfl
theorem gTabType : (Tryd.prog.globals[0]?).map (·.type) = some 57 := by kernel_rfl
theorem und57 : Tryd.prog.underlying 57 = some (.array 256 5) := by kernel_rfl
theorem und5 : Tryd.prog.underlying 5 = some (.int .u8) := by kernel_rfl
theorem cells57 : Tryd.prog.cellsOf 57 = 256 := by kernel_rfl
theorem cells5 : Tryd.prog.cellsOf 5 = 1 := by kernel_rfl
theorem table {W : World} (h : laidMetH Tryd.prog Rows.opcodeEncodeMatchesSpecRow.laid W) : Lib.TabIs Tryd.prog W "strings.asciiSpace" .u8 gT0 :=
  Lib.tabIs_of_head (rest := []) gTab gTabType und57 und5 cells5 cells57 (laidMet.tail h)
theorem gT0_len : gT0.length = 256 := by kernel_rfl
theorem walk (W : World) (hL : laidMetH Tryd.prog Rows.opcodeEncodeMatchesSpecRow.laid W) {H : Type} (enc : TypeId × Value → H) (a : Option Addr) (n c : Nat) (op : Int) (d : DataW H) (p : List MemPlace) (h : DataW.Trod enc Tryd.prog W 0 (fun _ => true) true 22 (.slice a n c) d p) :
    Calls Tryd.prog 3 #[.slice a n c, .int .i64 op] W fun e W' => e = .returned (.bool true) ∧ Below W.heap.size W W' := by
  have hc : ∀ i, i < 256 → W.cell? ⟨0, i, none⟩ = some (.int .u8 (gT0.getD i 0)) := fun i hi => (table hL).cell gTab i (by rw [gT0_len]; exact hi)
  have hW : 0 < W.heap.size := by
    have h0 := hc 0 (by omega)
    unfold World.cell? at h0
    rcases Nat.lt_or_ge 0 W.heap.size with h | h
    · exact h
    · simp [Array.getElem?_eq_none h] at h0
  obtain ⟨φ0, s0, e0, hR0, hG0⟩ := start_globs W (fun _ => gT0.map (Value.int .u8)) 1 (by omega) (fun i hi j v hv => by
    obtain rfl : i = 0 := by omega
    rw [List.getElem?_map] at hv
    cases hj : gT0[j]? with
    | none => rw [hj] at hv; cases hv
    | some x =>
      rw [hj] at hv
      injection hv with hv
      subst hv
      have hlt := (List.getElem?_eq_some_iff.1 hj).1
      rw [gT0_len] at hlt
      refine ⟨rfl, ?_⟩
      rw [hc j hlt, List.getD_eq_getElem?_getD, hj]
      rfl)
  obtain ⟨φ, s, av, l, g, hv, hr, -, -⟩ := rdS.arg rfl h hW hR0
  obtain ⟨A, c', e, hs⟩ := rL_elim hr
  injection e with e
  subst e
  have hlo : Lo s 0 0 (gT0.map (Value.int .u8)) := ⟨0, _, g.kr.row 0 _ (by omega) (hG0 0 (by omega)).2, by have := g.next; omega, fun k v hv => by rw [Nat.zero_add]; exact hv⟩
  refine law_callsG all (n := 1000000) (fun b hb => ?_) g.rel (.cons hv (.cons (.flat rfl) .nil)) ?_
  · have hb0 : b = 0 := by
      have hb' : ([0] : List Nat).contains b = true := hb
      simpa using hb'
    subst hb0
    exact ⟨_, g.le _ _ (hG0 0 (by omega)).1, rfl, rfl⟩
  · obtain ⟨o, s', e1, v, rfl, -, -, rfl⟩ := t3 1000000 l op s ⟨hlo⟩ hs true (law l op) trivial
    exact ⟨_, s', e1, rfl⟩
theorem contract (H : Type) (enc : TypeId × Value → H) (W : World) (base : Nat) (args : Array Value) (ds gs : List (DataW H)) (before : List MemPlace)
    (hval : ∀ (j : Nat) t v, Tryd.f3.params[j]? = some t → args[j]? = some v → Value.okWide Tryd.prog W .any base t v)
    (hW : DataW.Whole enc Tryd.prog Tryd.f3.params.toList Rows.opcodeEncodeMatchesSpecSpec.vars false W args.toList ds gs before) (hL : laidMetH Tryd.prog Rows.opcodeEncodeMatchesSpecRow.laid W) :
    Calls Tryd.prog 3 args W fun e W' => ∃ v, e = .returned v ∧ Rows.opcodeEncodeMatchesSpecSpec.post enc Tryd.prog Tryd.f3 false true false false W args v W' := by
  have hW' := hW
  obtain ⟨p, q, hA0, hV, rfl, hfz, hnd⟩ := hW
  have hA : DataW.TrodAll enc Tryd.prog W 0 (fun _ => true) true Tryd.f3.params.toList args.toList ds p := hA0
  rw [Tryd.params3] at hA hval
  obtain ⟨v0, vs0, d0, ds0, p0, q0, hargs, rfl, rfl, h0, r0⟩ := trodAll_cons hA
  obtain ⟨v1, vs1, d1, ds1, p1, q1, rfl, rfl, rfl, h1, r1⟩ := trodAll_cons r0
  obtain ⟨rfl, rfl, rfl⟩ := trodAll_nil r1
  obtain rfl : args = #[v0, v1] := by cases args; simp_all
  obtain ⟨rfl, rfl⟩ := trodVars_none hV
  obtain ⟨a0, len0, cap0, rfl⟩ := okWide_slice und22 (hval 0 22 v0 rfl rfl)
  have k0 := h0
  have lt0 : ∀ x ∈ p0, x.block < W.heap.size := by obtain ⟨m, hm⟩ := k0; exact DataW.trod_lt m _ _ _ hm
  obtain ⟨a1, rfl, rfl, rfl, w1⟩ := open_int und3 (hval 1 3 v1 rfl rfl) h1
  clear hA0 hval
  refine (walk W hL enc a0 len0 cap0 a1 d0 p0 h0).mono fun e W' ⟨he, bel⟩ => ?_
  subst he
  exact ⟨_, rfl, _, _, _, [], _, [], hW', trodAll_mk1 (shut_bool und4 _), (trodAll_cons_mk (Below.trod laidOut (by kernel_rfl) (of_decide_eq_true (by kernel_rfl)) k0 bel lt0) (trodAll_cons_mk (shut_int und3 w1) trodAll_mk0)), rfl, bel.frame _, fun h => by cases h⟩
/-- A world for the witness: the settled one, the two variables holding what their initialisers lay. -/
noncomputable def base0 (os : Os) : World := World.holding Tryd.prog os ⟨#[], #[], []⟩
def u16s : Array Value := (([9, 13, 1, 32, 133, 101, 160, 5760, 5600, 8192, 8202, 1, 8232, 8233, 1, 8239, 8287, 48, 12288, 12288, 1] : List Int).map (Value.int .u16)).toArray
noncomputable def tabHeap (os : Os) := (base0 os).heap.modify 0 (fun o => match o with
  | .cells _ t frozen => .cells (gT0.map (Value.int .u8)).toArray t frozen
  | o => o)
noncomputable def varHeap (os : Os) := (tabHeap os).modify 1 (fun o => match o with
  | .cells _ t frozen => .cells #[.pointer (some ⟨(base0 os).heap.size, 0, none⟩)] t frozen
  | o => o)
noncomputable def laidWorld (os : Os) : World :=
  { base0 os with heap := ((varHeap os).push (.cells #[.slice (some ⟨(base0 os).heap.size + 1, 0, none⟩) 7 7, .slice none 0 0, .int .i64 2] 71 (0, 0))).push (.cells u16s 74 (0, 0)) }
theorem laid_met (os : Os) : laidMet Tryd.prog Rows.opcodeEncodeMatchesSpecRow.laid ((laidWorld os).forCall (fun _ _ => 0) ⟨#[], #[.slice none 0 0, .int .i64 0], []⟩).memory :=
  laidMet_of_run' 8 (by kernel_rfl) (by kernel_rfl)
theorem reads (os : Os) {H : Type} (enc : TypeId × Value → H) : ∃ places, DataW.whole enc Tryd.prog ((laidWorld os).forCall (fun _ _ => 0) ⟨#[], #[.slice none 0 0, .int .i64 0], []⟩).memory Tryd.f3.params.toList Rows.opcodeEncodeMatchesSpecSpec.vars false #[Value.slice none 0 0, .int .i64 0].toList 8 = some ([.nil, .lit (.int .i64 0)], [], places) :=
  ⟨[], by kernel_rfl⟩
theorem lifted (os : Os) (started : os.Started) (H : Type) (enc : TypeId × Value → H) (F : Stop.Interp) :
    ReturnsInHanded {} Tryd.checked os 3 .any ((OpenSpec.ofChange Rows.opcodeEncodeMatchesSpecSpec).preRow enc Tryd.prog Tryd.f3 Rows.opcodeEncodeMatchesSpecRow.domain false Rows.opcodeEncodeMatchesSpecRow.laid) (((OpenSpec.ofChange Rows.opcodeEncodeMatchesSpecSpec).at F).post enc Tryd.prog Tryd.f3 false true false false) := by
  obtain ⟨places, hx⟩ := reads os enc
  refine returnsInHanded_of_row (C := Tryd.checked) (s := OpenSpec.ofChange Rows.opcodeEncodeMatchesSpecSpec) own started (by kernel_rfl) Tryd.func3
    (witness_row_atRef (enc := enc) (C := Tryd.checked) false (laidWorld os) #[.slice none 0 0, .int .i64 0] rfl (by kernel_rfl) (by kernel_rfl) (by kernel_rfl)
      (OpenSpec.preRow_of_cond 8 hx (by kernel_rfl) (fun k hk => by cases hk) (by kernel_rfl) (laid_met os))) ?_
  intro W base args ds gs before hval hW _ _ _ hL _ _
  exact contract H enc W base args ds gs before hval hW hL
theorem said : Rows.OpcodeEncodeMatchesSpecSaid :=
  OpenClaim.holds_of_cond 3 Tryd.f3 rfl rfl rfl rfl rfl rfl rfl ⟨rfl, rfl, rfl, rfl, rfl⟩ rfl rfl rfl rfl rfl (by kernel_rfl) Tryd.func3 (by kernel_rfl)
    (of_decide_eq_true (by kernel_rfl)) (by unfold Func.isWrapper; first | (rw [if_pos (by decide +kernel)]; kernel_rfl) | (rw [if_neg (by decide +kernel)]; exact ⟨rfl, rfl⟩))
    (fun os started H enc _ F => by rw [OpenClaim.pre_eq_preRow]; exact lifted os started H enc F)
theorem plain (f : FuncId) (fn : Func) (hf : Tryd.pinned.checked.prog.funcNamed "brindlewood/brindlewoodlaw8.OpcodeEncodeMatchesSpec" = some f) (hfn : Tryd.pinned.checked.prog.funcs[f]? = some fn) :
    false = Tryd.pinned.checked.prog.looks [] ∧ ∀ (j : Nat) t, fn.params[j]? = some t → Tryd.pinned.checked.prog.wantsStandIn t = false := by
  obtain rfl : f = 3 := Option.some.inj ((show Tryd.prog.funcNamed "brindlewood/brindlewoodlaw8.OpcodeEncodeMatchesSpec" = some 3 by kernel_rfl).symm.trans hf) |>.symm
  obtain rfl : fn = Tryd.f3 := (Option.some.inj (Tryd.func3.symm.trans hfn)).symm
  refine ⟨by kernel_rfl, fun j t ht => ?_⟩
  rw [Tryd.params3] at ht
  have hm := Array.mem_of_getElem? ht
  simp only [List.mem_toArray, List.mem_cons, List.not_mem_nil, or_false] at hm
  rcases hm with rfl | rfl
  · exact (show Tryd.prog.wantsStandIn 22 = false by kernel_rfl)
  · exact (show Tryd.prog.wantsStandIn 3 = false by kernel_rfl)
theorem card : Rows.OpcodeEncodeMatchesSpecCardSaid :=
  Claim7.holds_tied_plain_at .later [] _ _ _ _ said (fun _ h => by cases h) (by kernel_rfl) (fun _ h => by cases h) opcodeEncodeMatchesSpec_row_tie rfl ⟨rfl, rfl⟩ (by kernel_rfl) rfl plain (by kernel_rfl)
end R1
end Go.Proofs.YtmjignphadnadaaDoorF
namespace Go.Proofs.YtmjignphadnadaaDoor
theorem encode_holds : Rows.OpcodeEncodeMatchesSpecCardSaid := YtmjignphadnadaaDoorF.R1.card
end Go.Proofs.YtmjignphadnadaaDoor
