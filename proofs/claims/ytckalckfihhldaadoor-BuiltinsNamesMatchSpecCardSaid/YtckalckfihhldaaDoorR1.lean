/- The law of built-in names is proved: the program's names, and the functions of its library modules, are those of the document; for every input, where the listed package variables of Go's library hold what the program's text lays. -/
import Derived.Test.YtckalckfihhldaaDoorCards
import Derived.Test.YtckalckfihhldaaDoorTie
import Derived.Test.YtckalckfihhldaaDoorF25
import Derived.Test.YtckalckfihhldaaDoorQ3
import Derived.Test.YtckalckfihhldaaDoorT11
import Derived.Deep.DeepHandedRow
import Derived.Deep.DeepWitnessRowRef
import Derived.Lib.LaidTab
import Derived.Lib.LaidU8T
import Derived.Shelf.Vars
import Derived.Stop.LaidErr
import Derived.ChangeMaps5
set_option linter.unusedVariables false
set_option linter.unusedSimpArgs false
namespace Go.Proofs.YtckalckfihhldaaDoorF
open Go Go.Proofs Go.ChangeShapes Go.WideShapes Go.ChangeAt Go.RowKit Go.Lib
open Go.Proofs.YtckalckfihhldaaDoor
namespace R1
set_option maxRecDepth 100000
theorem und3 : Tryd.prog.underlying 3 = some (.int .i64) := by kernel_rfl
theorem und4 : Tryd.prog.underlying 4 = some .bool := by kernel_rfl
theorem und9 : Tryd.prog.underlying 9 = some .string := by kernel_rfl
theorem laidOut : laidOutB Tryd.prog = true := by kernel_rfl
theorem own : ownKnob Tryd.prog.godebug = none := by kernel_rfl
theorem gTab : Tryd.prog.globalNamed "strings.asciiSpace" = some 0 := by kernel_rfl
theorem gTabType : (Tryd.prog.globals[0]?).map (·.type) = some 77 := by kernel_rfl
theorem und77 : Tryd.prog.underlying 77 = some (.array 256 5) := by kernel_rfl
theorem und5 : Tryd.prog.underlying 5 = some (.int .u8) := by kernel_rfl
theorem cells77 : Tryd.prog.cellsOf 77 = 256 := by kernel_rfl
theorem cells5 : Tryd.prog.cellsOf 5 = 1 := by kernel_rfl
theorem table {W : World} (h : laidMetH Tryd.prog Rows.builtinsNamesMatchSpecRow.laid W) : Lib.TabIs Tryd.prog W "strings.asciiSpace" .u8 gT0 :=
  Lib.tabIs_of_head (rest := [("unicode/utf8.first", Rows.laid_unicode_utf8_first)]) gTab gTabType und77 und5 cells5 cells77 (laidMet.tail (laidMet.tail h))
theorem gT0_len : gT0.length = 256 := by kernel_rfl
theorem maxLen {W : World} (h : W.ShapedOpen Tryd.prog) : ∃ m, W.cell? ⟨1, 0, none⟩ = some (.int .i64 m) :=
  cell_of_shapedOpen_int (t := 3) (zero := #[.int .i64 0]) h (of_decide_eq_true (by kernel_rfl)) (by kernel_rfl) rfl (by kernel_rfl) (by kernel_rfl) und3
theorem walk (W : World) (hL : laidMetH Tryd.prog Rows.builtinsNamesMatchSpecRow.laid W) (hS : W.ShapedOpen Tryd.prog) (b : ByteArray) (hb : b.size ≤ 140737488351232) :
    Calls Tryd.prog 3 #[.string b] W fun e W' => e = .returned (.bool true) ∧ Below W.heap.size W W' := by
  have hc : ∀ i, i < 256 → W.cell? ⟨0, i, none⟩ = some (.int .u8 (gT0.getD i 0)) := fun i hi => (table hL).cell gTab i (by rw [gT0_len]; exact hi)
  obtain ⟨m, hm⟩ := maxLen hS
  have hW : 1 < W.heap.size := by
    unfold World.cell? at hm
    rcases Nat.lt_or_ge 1 W.heap.size with h | h
    · exact h
    · simp [Array.getElem?_eq_none h] at hm
  obtain ⟨φ, s, e0, hR, hG⟩ := start_globs W (fun i => if i = 0 then gT0.map (Value.int .u8) else [m].map (Value.int .i64)) 2 (by omega) (fun i hi j v hv => by
    split at hv
    · rename_i e
      subst e
      rw [List.getElem?_map] at hv
      cases hj : gT0[j]? with
      | none => rw [hj] at hv; cases hv
      | some x =>
        rw [hj] at hv
        injection hv with hv
        subst hv
        have hlt := (List.getElem?_eq_some_iff.1 hj).1
        rw [gT0_len] at hlt
        refine ⟨rfl, ?_⟩
        rw [hc j hlt, List.getD_eq_getElem?_getD, hj]
        rfl
    · obtain rfl : i = 1 := by omega
      cases j with
      | zero =>
        injection hv with hv
        subst hv
        exact ⟨rfl, hm⟩
      | succ j => cases j <;> cases hv)
  have g0 := hG 0 (by omega)
  have g1 := hG 1 (by omega)
  have gl : GlobOk s := ⟨⟨0, _, g0.2, by omega, fun k v hv => by rw [Nat.zero_add]; exact hv⟩, ⟨m, 0, _, g1.2, by omega, fun k v hv => by rw [Nat.zero_add]; exact hv⟩⟩
  refine law_callsG all (n := 4000) (fun b hb => ?_) hR (.cons (.flat rfl) .nil) ?_
  · have hb' : ([0, 1] : List Nat).contains b = true := hb
    have : b = 0 ∨ b = 1 := by simpa using hb'
    rcases this with rfl | rfl
    · exact ⟨_, g0.1, rfl, rfl⟩
    · exact ⟨_, g1.1, rfl, rfl⟩
  · have hl : b.data.toList.length = b.size := Array.length_toList
    obtain ⟨o, s', e1, v, rfl, -, -, rfl⟩ := t3 4000 b s gl true (by have := law b.data.toList (by omega); rw [mkB_eta] at this; exact this) trivial
    exact ⟨_, s', e1, rfl⟩
theorem contract (H : Type) (enc : TypeId × Value → H) (W : World) (base : Nat) (args : Array Value) (ds gs : List (DataW H)) (before : List MemPlace)
    (hval : ∀ (j : Nat) t v, Tryd.f3.params[j]? = some t → args[j]? = some v → Value.okWide Tryd.prog W .any base t v)
    (hW : DataW.Whole enc Tryd.prog Tryd.f3.params.toList Rows.builtinsNamesMatchSpecSpec.vars false W args.toList ds gs before) (hL : laidMetH Tryd.prog Rows.builtinsNamesMatchSpecRow.laid W) (hS : W.ShapedOpen Tryd.prog) (hk : (DataW.weightsEach Tryd.prog (Tryd.f3.params.toList ++ (OpenSpec.ofChange Rows.builtinsNamesMatchSpecSpec).bare.plain.varTypes Tryd.prog) (ds ++ gs)).all (· ≤ reachBytes) = true) :
    Calls Tryd.prog 3 args W fun e W' => ∃ v, e = .returned v ∧ Rows.builtinsNamesMatchSpecSpec.post enc Tryd.prog Tryd.f3 false true false false W args v W' := by
  have hW' := hW
  obtain ⟨p, q, hA0, hV, rfl, hfz, hnd⟩ := hW
  have hA : DataW.TrodAll enc Tryd.prog W 0 (fun _ => true) true Tryd.f3.params.toList args.toList ds p := hA0
  rw [Tryd.params3] at hA hval
  obtain ⟨v0, vs0, d0, ds0, p0, q0, hargs, rfl, rfl, h0, r0⟩ := trodAll_cons hA
  obtain ⟨rfl, rfl, rfl⟩ := trodAll_nil r0
  obtain rfl : args = #[v0] := by cases args; simp_all
  obtain ⟨rfl, rfl⟩ := trodVars_none hV
  obtain ⟨a0, rfl, rfl, rfl, w0⟩ := Go.ChangeMaps.open_string und9 (hval 0 9 v0 rfl rfl) h0
  have hb : a0.data.toList.length ≤ reachBytes := by
    rw [Tryd.params3] at hk
    have := List.all_eq_true.1 hk a0.data.toList.length (by simp [DataW.weightsEach, DataW.weights])
    simpa using this
  unfold reachBytes at hb
  have hl : a0.data.toList.length = a0.size := Array.length_toList
  clear hA0 hval
  refine (walk W hL hS a0 (by omega)).mono fun e W' ⟨he, bel⟩ => ?_
  subst he
  exact ⟨_, rfl, _, _, _, [], _, [], hW', trodAll_mk1 (shut_bool und4 _), (trodAll_cons_mk (Go.ChangeMaps.shut_string und9 w0) trodAll_mk0), rfl, bel.frame _, fun h => by cases h⟩
/-- A world for the witness: the settled one, the four variables holding what their initialisers lay. -/
noncomputable def base0 (os : Os) : World := World.holding Tryd.prog os ⟨#[], #[], []⟩
def u16s : Array Value := (([9, 13, 1, 32, 133, 101, 160, 5760, 5600, 8192, 8202, 1, 8232, 8233, 1, 8239, 8287, 48, 12288, 12288, 1] : List Int).map (Value.int .u16)).toArray
noncomputable def heap1 (os : Os) := (base0 os).heap.modify 0 (fun o => match o with
  | .cells _ t frozen => .cells (gT0.map (Value.int .u8)).toArray t frozen
  | o => o)
noncomputable def heap2 (os : Os) := (heap1 os).modify 2 (fun o => match o with
  | .cells _ t frozen => .cells #[.pointer (some ⟨(base0 os).heap.size, 0, none⟩)] t frozen
  | o => o)
noncomputable def heap3 (os : Os) := (heap2 os).modify 3 (fun o => match o with
  | .cells _ t frozen => .cells (firstTab.map (Value.int .u8)).toArray t frozen
  | o => o)
noncomputable def heap4 (os : Os) := (heap3 os).modify 4 (fun o => match o with
  | .cells _ t frozen => .cells (acceptTab.map (Value.int .u8)).toArray t frozen
  | o => o)
noncomputable def laidWorld (os : Os) : World :=
  { base0 os with heap := ((heap4 os).push (.cells #[.slice (some ⟨(base0 os).heap.size + 1, 0, none⟩) 7 7, .slice none 0 0, .int .i64 2] 123 (0, 0))).push (.cells u16s 126 (0, 0)) }
theorem laid_met (os : Os) : laidMet Tryd.prog Rows.builtinsNamesMatchSpecRow.laid ((laidWorld os).forCall (fun _ _ => 0) ⟨#[], #[.string ⟨#[]⟩], []⟩).memory :=
  laidMet_of_run' 8 (by kernel_rfl) (by kernel_rfl)
theorem reads (os : Os) {H : Type} (enc : TypeId × Value → H) : ∃ places, DataW.whole enc Tryd.prog ((laidWorld os).forCall (fun _ _ => 0) ⟨#[], #[.string ⟨#[]⟩], []⟩).memory Tryd.f3.params.toList Rows.builtinsNamesMatchSpecSpec.vars false #[Value.string ⟨#[]⟩].toList 8 = some ([.lit (.string [])], [], places) :=
  ⟨[], by kernel_rfl⟩
theorem lifted (os : Os) (started : os.Started) (H : Type) (enc : TypeId × Value → H) (F : Stop.Interp) :
    ReturnsInHanded {} Tryd.checked os 3 .any ((OpenSpec.ofChange Rows.builtinsNamesMatchSpecSpec).preRow enc Tryd.prog Tryd.f3 Rows.builtinsNamesMatchSpecRow.domain false Rows.builtinsNamesMatchSpecRow.laid) (((OpenSpec.ofChange Rows.builtinsNamesMatchSpecSpec).at F).post enc Tryd.prog Tryd.f3 false true false false) := by
  obtain ⟨places, hx⟩ := reads os enc
  refine returnsInHanded_of_row (C := Tryd.checked) (s := OpenSpec.ofChange Rows.builtinsNamesMatchSpecSpec) own started (by kernel_rfl) Tryd.func3
    (witness_row_atRef (enc := enc) (C := Tryd.checked) false (laidWorld os) #[.string ⟨#[]⟩] rfl (by kernel_rfl) (by kernel_rfl) (by kernel_rfl)
      (OpenSpec.preRow_of_cond 8 hx (by kernel_rfl) (fun k hk => by cases hk) (by kernel_rfl) (laid_met os))) ?_
  intro W base args ds gs before hval hW _ _ hwt hL hS _
  exact contract H enc W base args ds gs before hval hW hL hS hwt
theorem said : Rows.BuiltinsNamesMatchSpecSaid :=
  OpenClaim.holds_of_cond 3 Tryd.f3 rfl rfl rfl rfl rfl rfl rfl ⟨rfl, rfl, rfl, rfl, rfl⟩ rfl rfl rfl rfl rfl (by kernel_rfl) Tryd.func3 (by kernel_rfl)
    (of_decide_eq_true (by kernel_rfl)) (by unfold Func.isWrapper; first | (rw [if_pos (by decide +kernel)]; kernel_rfl) | (rw [if_neg (by decide +kernel)]; exact ⟨rfl, rfl⟩))
    (fun os started H enc _ F => by rw [OpenClaim.pre_eq_preRow]; exact lifted os started H enc F)
theorem plain (f : FuncId) (fn : Func) (hf : Tryd.pinned.checked.prog.funcNamed "brindlewood/brindlewoodlaw8.BuiltinsNamesMatchSpec" = some f) (hfn : Tryd.pinned.checked.prog.funcs[f]? = some fn) :
    false = Tryd.pinned.checked.prog.looks [] ∧ ∀ (j : Nat) t, fn.params[j]? = some t → Tryd.pinned.checked.prog.wantsStandIn t = false := by
  obtain rfl : f = 3 := Option.some.inj ((show Tryd.prog.funcNamed "brindlewood/brindlewoodlaw8.BuiltinsNamesMatchSpec" = some 3 by kernel_rfl).symm.trans hf) |>.symm
  obtain rfl : fn = Tryd.f3 := (Option.some.inj (Tryd.func3.symm.trans hfn)).symm
  refine ⟨by kernel_rfl, fun j t ht => ?_⟩
  rw [Tryd.params3] at ht
  have hm := Array.mem_of_getElem? ht
  simp only [List.mem_toArray, List.mem_cons, List.not_mem_nil, or_false] at hm
  subst hm
  exact (show Tryd.prog.wantsStandIn 9 = false by kernel_rfl)
theorem card : Rows.BuiltinsNamesMatchSpecCardSaid :=
  Claim7.holds_tied_plain_at .later [] _ _ _ _ said (fun _ h => by cases h) (by kernel_rfl) (fun _ h => by cases h) builtinsNamesMatchSpec_row_tie rfl ⟨rfl, rfl⟩ (by kernel_rfl) rfl plain (by kernel_rfl)
end R1
end Go.Proofs.YtckalckfihhldaaDoorF
namespace Go.Proofs.YtckalckfihhldaaDoor
theorem names_holds : Rows.BuiltinsNamesMatchSpecCardSaid := YtckalckfihhldaaDoorF.R1.card
end Go.Proofs.YtckalckfihhldaaDoor
