/- The abstract heap machine, part 15: the surroundings of a given program. -/
import Derived.Test.YtckalckfihhldaaDoorF14
import Derived.ChangeKeysEq
import Derived.Lib.Bytealg
set_option linter.unusedVariables false
set_option linter.unusedSimpArgs false
namespace Go.Proofs.YtckalckfihhldaaDoorF
open Go Go.RowKit

def scalarOf : Option TypeDesc → Option CK
  | some .bool => some .bool
  | some (.int k) => some (.int k)
  | some .string => some .str
  | _ => none
/-- The fields are numbers, strings, truth values, one cell each. -/
def fieldsOk (P : Program) : Nat → List Field → List CK → Bool
  | _, [], [] => true
  | i, f :: fs, k :: ks => f.name != "_" && decide (f.offset = i) && decide (scalarOf (P.underlying f.type) = some k) && fieldsOk P (i + 1) fs ks
  | _, _, _ => false
def eqOkB (P : Program) (t : TypeId) (ks : List CK) : Bool :=
  match P.underlying t with
  | some (.struct fs) => fieldsOk P 0 fs.toList ks && !P.stoodInHeld t && !P.eqGuardType P.depth t
  | _ => false

section
variable {P : Program} {w : World}
theorem scalarOf_plain {u : TypeId} {k : CK} (h : scalarOf (P.underlying u) = some k) : P.plainKey u = true := by
  unfold scalarOf at h
  unfold Program.plainKey
  split at h <;> first | (rename_i e; rw [e]) | cases h
theorem fieldsOk_scalars : ∀ {fs : List Field} {i : Nat} {ks : List CK}, fieldsOk P i fs ks = true → scalars ks = true
  | [], _, [], _ => rfl
  | [], _, _ :: _, h => by simp [fieldsOk] at h
  | _ :: _, _, [], h => by simp [fieldsOk] at h
  | f :: fs, i, k :: ks, h => by
    simp only [fieldsOk, Bool.and_eq_true, decide_eq_true_eq] at h
    have ih := fieldsOk_scalars h.2
    have hk := h.1.2
    unfold scalarOf at hk
    unfold scalars at ih ⊢
    rw [List.all_cons, ih, Bool.and_true]
    split at hk <;> first | (injection hk with hk; subst hk; rfl) | cases hk
theorem fitsL_length : ∀ {ks : List CK} {vs : List Value}, fitsL ks vs = true → vs.length = ks.length
  | [], [], _ => rfl
  | [], _ :: _, h => by simp [fitsL] at h
  | k :: ks, vs, h => by
    unfold fitsL at h
    split at h <;> first | (simp_all; done) | skip
    · rename_i e2; injection e2 with _ e; subst e; simp [fitsL_length h]
    · rename_i e2; injection e2 with _ e; subst e; simp only [Bool.and_eq_true] at h; simp [fitsL_length h.2]
    · rename_i e2; injection e2 with _ e; subst e; simp [fitsL_length h]
theorem run_eqFields_flat (d : Nat) (xs ys : Array Value) : ∀ (fs : List Field) (i : Nat) (ks : List CK), fieldsOk P i fs ks = true → fitsL ks (xs.toList.drop i) = true → fitsL ks (ys.toList.drop i) = true →
    (Op.eqFields (d + 1) xs ys fs).run P w = .ok (eqL (xs.toList.drop i) (ys.toList.drop i)) w
  | [], i, ks, h, hx, hy => by
    cases ks with
    | cons k ks => simp [fieldsOk] at h
    | nil =>
      have h1 := fitsL_length hx
      have h2 := fitsL_length hy
      rw [List.length_eq_zero_iff.1 h1, List.length_eq_zero_iff.1 h2]
      simp [Op.eqFields, eqL]
  | f :: fs, i, ks, h, hx, hy => by
    cases ks with
    | nil => simp [fieldsOk] at h
    | cons k ks =>
      simp only [fieldsOk, Bool.and_eq_true, decide_eq_true_eq, bne_iff_ne, ne_eq] at h
      obtain ⟨⟨⟨hn, ho⟩, hk⟩, ht⟩ := h
      have hp := scalarOf_plain hk
      have lx := fitsL_length hx
      have ly := fitsL_length hy
      obtain ⟨x, xr, ex⟩ : ∃ x xr, xs.toList.drop i = x :: xr := by cases hh : xs.toList.drop i with | nil => rw [hh] at lx; simp at lx | cons x xr => exact ⟨x, xr, rfl⟩
      obtain ⟨y, yr, ey⟩ : ∃ y yr, ys.toList.drop i = y :: yr := by cases hh : ys.toList.drop i with | nil => rw [hh] at ly; simp at ly | cons x xr => exact ⟨x, xr, rfl⟩
      have gx : xs[i]? = some x := by
        have := congrArg (·[0]?) ex
        simpa using this
      have gy : ys[i]? = some y := by
        have := congrArg (·[0]?) ey
        simpa using this
      have dx : xs.toList.drop (i + 1) = xr := by rw [← List.drop_drop, ex]; rfl
      have dy : ys.toList.drop (i + 1) = yr := by rw [← List.drop_drop, ey]; rfl
      rw [ex] at hx
      rw [ey] at hy
      have px := run_part_plain w hp gx
      have py := run_part_plain w hp gy
      have he : (Op.equalIn (d + 1) f.type x y).run P w = .ok (eqS x y) w ∧ fitsL ks xr = true ∧ fitsL ks yr = true := by
        unfold scalarOf at hk
        split at hk <;> first | (cases hk; done) | skip
        · rename_i hu
          injection hk with hk
          subst hk
          unfold fitsL at hx hy
          cases x <;> simp at hx
          cases y <;> simp at hy
          exact ⟨by rw [run_equalIn_bool w d f.type _ _ hu]; rfl, hx, hy⟩
        · rename_i q hu
          injection hk with hk
          subst hk
          unfold fitsL at hx hy
          cases x <;> simp at hx
          cases y <;> simp at hy
          obtain ⟨rfl, hx⟩ := hx
          obtain ⟨rfl, hy⟩ := hy
          exact ⟨by rw [run_equalIn_int w d f.type _ _ _ _ hu]; rfl, hx, hy⟩
        · rename_i hu
          injection hk with hk
          subst hk
          unfold fitsL at hx hy
          cases x <;> simp at hx
          cases y <;> simp at hy
          refine ⟨?_, hx, hy⟩
          rw [run_equalIn_string w d f.type _ _ hu]
          rfl
      have ih := run_eqFields_flat d xs ys fs (i + 1) ks ht (by rw [dx]; exact he.2.1) (by rw [dy]; exact he.2.2)
      simp only [Op.eqFields, hn, ne_eq, not_false_eq_true, if_true, Sem.run_bind, ho, px, py, he.1, Result.andThen_ok]
      rw [ex, ey]
      unfold eqL
      cases hh : eqS x y
      · simp
      · rw [dx, dy] at ih
        simpa using ih

theorem eqOk_of {tab : List (TypeId × List CK)} {E : Env} (he : E.eqs = fun t => tab.lookup t) (h : tab.all (fun p => eqOkB P p.1 p.2) = true) : E.EqOk P := by
  intro t ks ht
  rw [he] at ht
  have hm : (t, ks) ∈ tab := by
    clear h he
    induction tab with
    | nil => simp at ht
    | cons p tab ih =>
      obtain ⟨u, l⟩ := p
      simp only [List.lookup_cons] at ht
      split at ht
      · rename_i e
        have e' : t = u := by simpa using e
        injection ht with ht
        subst e'; subst ht
        simp
      · exact List.mem_cons_of_mem _ (ih ht)
  have hb := List.all_eq_true.1 h _ hm
  unfold eqOkB at hb
  split at hb
  · rename_i fs hu
    simp only [Bool.and_eq_true, Bool.not_eq_true'] at hb
    obtain ⟨⟨h1, h2⟩, h3⟩ := hb
    refine ⟨fieldsOk_scalars h1, fun x y a b w ha hb => ?_⟩
    have hg : ∀ op, (eqGuard op t x y (.agg a) (.agg b)).run P w = .ok () w := by
      intro op
      unfold eqGuard
      have hp : (program : Sem Program).run P w = .ok P w := rfl
      split <;> simp [Sem.run_bind, hp, h3]
    have hfs : P.fieldsOf t = fs := by simp [Program.fieldsOf, hu]
    have heq : (Op.equal t (.agg a) (.agg b)).run P w = .ok (eqL a.toList b.toList) w := by
      unfold Op.equal
      rw [show Op.maxDepth = 9999 + 1 from rfl, run_equalIn_struct w 9999 t a b (by rw [hfs]; exact hu) h2, hfs]
      exact run_eqFields_flat 9998 a b fs.toList 0 ks h1 (by simpa using ha) (by simpa using hb)
    constructor
    · rw [Sem.run_bind, hg]
      simp [binOp, heq]
    · rw [Sem.run_bind, hg]
      simp [binOp, heq]
  · cases hb
end

/-- What functions without a body answer. -/
def ExtOk (P : Program) (ext : FuncId → Option (List Value → Option Value)) : Prop := ∀ f g, ext f = some g → ∀ args v, g args = some v → flat v = true ∧ (∀ x ∈ args, flat x = true) ∧ ∀ w : World, (callFunc f args.toArray).run P w = .ok (.value v) w
/-- What is known of functions that are not run. -/
def SumOk (P : Program) (glob : List Nat) (sum : FuncId → Option (List Value → St → Option Value)) : Prop := ∀ f g, sum f = some g → ∀ args s v, g args s = some v → (∀ φ, V φ v v) ∧
  ∀ φ w Own (args' : Array Value), (∀ b ∈ glob, ∃ l, φ b = some l ∧ l.block = b ∧ l.off = 0) → R φ s w Own → VL φ args args'.toList → Calls P f args' w fun e w' => e = .returned v ∧ Below w.heap.size w w'
/-- What is known of functions that are not run and that write or make memory. -/
def SumWOk (P : Program) (glob : List Nat) (sumW : FuncId → Option (List Value → St → Option (Out × St))) : Prop := ∀ f g, sumW f = some g → ∀ args s out s', g args s = some (out, s') → Low s s' ∧
  ∀ φ w Own (args' : Array Value), (∀ b ∈ glob, ∃ l, φ b = some l ∧ l.block = b ∧ l.off = 0) → R φ s w Own → VL φ args args'.toList →
    Calls P f args' w fun e w' => ∃ φ' Own', Phi.le φ φ' ∧ R φ' s' w' Own' ∧ Fr w w' Own Own' ∧ EndRel φ' out e
/-- The surroundings of a program. 'bad': the regions that draw and are not in order. 'glob': the package variables that are read. -/
def mkEnvW (P : Program) (eqs : List (TypeId × List CK)) (pure reads wrb : List FuncId) (bad : List (FuncId × Nat)) (hints : List (FuncId × List (Nat × List Nat))) (glob : List Nat) (ext : FuncId → Option (List Value → Option Value)) (sum : FuncId → Option (List Value → St → Option Value)) (sumW : FuncId → Option (List Value → St → Option (Out × St))) : Env where
  und := P.underlying
  info t := match P.info? t with | some i => some (i.zero, i.size, i.bytes) | none => none
  fn f := match P.funcs[f]? with | some g => (match g.body with | some _ => some g | none => none) | none => none
  eqs t := eqs.lookup t
  hint f i := match hints.lookup f with | some l => l.lookup i | none => none
  glob b := glob.contains b
  pure f := pure.contains f
  reads f := reads.contains f
  wrb f := wrb.contains f
  noGlob := glob.isEmpty
  ord f i := !bad.contains (f, i)
  ext := ext
  sum := sum
  sumW := sumW
abbrev mkEnvS (P : Program) (eqs : List (TypeId × List CK)) (pure reads wrb : List FuncId) (bad : List (FuncId × Nat)) (hints : List (FuncId × List (Nat × List Nat))) (glob : List Nat) (ext : FuncId → Option (List Value → Option Value)) (sum : FuncId → Option (List Value → St → Option Value)) : Env := mkEnvW P eqs pure reads wrb bad hints glob ext sum (fun _ => none)
abbrev mkEnvG (P : Program) (eqs : List (TypeId × List CK)) (pure reads wrb : List FuncId) (bad : List (FuncId × Nat)) (hints : List (FuncId × List (Nat × List Nat))) (glob : List Nat) (ext : FuncId → Option (List Value → Option Value)) : Env := mkEnvS P eqs pure reads wrb bad hints glob ext (fun _ => none)
abbrev mkEnv (P : Program) (eqs : List (TypeId × List CK)) (pure reads wrb : List FuncId) (bad : List (FuncId × Nat)) (hints : List (FuncId × List (Nat × List Nat))) : Env := mkEnvG P eqs pure reads wrb bad hints [] (fun _ => none)
def ordAll (E : Env) (P : Program) : Bool := P.funcs.toList.zipIdx.all fun p => match p.1.body with | some c => codeOk E (E.ord p.2) c | none => true
theorem mk_allW {P : Program} {eqs : List (TypeId × List CK)} {pure reads wrb : List FuncId} {bad : List (FuncId × Nat)} {hints : List (FuncId × List (Nat × List Nat))} {glob : List Nat} {ext : FuncId → Option (List Value → Option Value)} {sum : FuncId → Option (List Value → St → Option Value)} {sumW : FuncId → Option (List Value → St → Option (Out × St))} (hx : ExtOk P ext) (hs : SumOk P glob sum) (hw : SumWOk P glob sumW) (hn : P.funcs.toList.all (fun g => !(g.name == "runtime.NumGoroutine")) = true)
    (hq : eqs.all (fun p => eqOkB P p.1 p.2) = true) (hm : P.follows .mixedOrders = true) (ho : ordAll (mkEnvW P eqs pure reads wrb bad hints glob ext sum sumW) P = true) : (mkEnvW P eqs pure reads wrb bad hints glob ext sum sumW).All P := by
  have fn : ∀ f g, (mkEnvW P eqs pure reads wrb bad hints glob ext sum sumW).fn f = some g → P.funcs[f]? = some g ∧ g.body.isSome = true := by
    intro f g h
    simp only [mkEnvW] at h
    split at h
    · rename_i g' hg
      split at h
      · rename_i c hc
        injection h with h
        subst h
        exact ⟨hg, by rw [hc]; rfl⟩
      · cases h
    · cases h
  refine ⟨⟨fun t d h => h, fun t z n b h => ?_, fun f g h => ?_, hx⟩, eqOk_of rfl hq, fun h b => ?_, hm, fun f g c h hc => ?_, fun f g h args s v hv => ⟨(hs f g h args s v hv).1, fun φ w Own args' hG => (hs f g h args s v hv).2 φ w Own args' fun b hb => hG b (by simpa [mkEnvW] using hb)⟩, fun f g h args s out s' hv => ⟨fun φ w Own args' hG => (hw f g h args s out s' hv).2 φ w Own args' fun b hb => hG b (by simpa [mkEnvW] using hb), (hw f g h args s out s' hv).1⟩⟩
  · simp only [mkEnvW] at h
    split at h
    · rename_i i hi
      injection h with h
      injection h with h1 h2
      injection h2 with h2 h3
      exact ⟨i, hi, h1, h2, h3⟩
    · cases h
  · obtain ⟨h1, h2⟩ := fn f g h
    refine ⟨h1, h2, ?_⟩
    have := List.all_eq_true.1 hn g (by rw [Array.mem_toList_iff]; exact Array.mem_of_getElem? h1)
    simpa using this
  · simp only [mkEnvW] at h ⊢
    cases glob with
    | nil => rfl
    | cons _ _ => cases h
  · obtain ⟨h1, h2⟩ := fn f g h
    have hm : (g, f) ∈ P.funcs.toList.zipIdx := by
      rw [List.mem_zipIdx_iff_getElem?]
      simpa using h1
    have := List.all_eq_true.1 ho _ hm
    simpa [hc] using this
theorem mk_allS {P : Program} {eqs : List (TypeId × List CK)} {pure reads wrb : List FuncId} {bad : List (FuncId × Nat)} {hints : List (FuncId × List (Nat × List Nat))} {glob : List Nat} {ext : FuncId → Option (List Value → Option Value)} {sum : FuncId → Option (List Value → St → Option Value)} (hx : ExtOk P ext) (hs : SumOk P glob sum) (hn : P.funcs.toList.all (fun g => !(g.name == "runtime.NumGoroutine")) = true)
    (hq : eqs.all (fun p => eqOkB P p.1 p.2) = true) (hm : P.follows .mixedOrders = true) (ho : ordAll (mkEnvS P eqs pure reads wrb bad hints glob ext sum) P = true) : (mkEnvS P eqs pure reads wrb bad hints glob ext sum).All P :=
  mk_allW hx hs (fun f g h => by cases h) hn hq hm ho

theorem mk_allG {P : Program} {eqs : List (TypeId × List CK)} {pure reads wrb : List FuncId} {bad : List (FuncId × Nat)} {hints : List (FuncId × List (Nat × List Nat))} {glob : List Nat} {ext : FuncId → Option (List Value → Option Value)} (hx : ExtOk P ext) (hn : P.funcs.toList.all (fun g => !(g.name == "runtime.NumGoroutine")) = true)
    (hq : eqs.all (fun p => eqOkB P p.1 p.2) = true) (hm : P.follows .mixedOrders = true) (ho : ordAll (mkEnvG P eqs pure reads wrb bad hints glob ext) P = true) : (mkEnvG P eqs pure reads wrb bad hints glob ext).All P :=
  mk_allS hx (fun _ _ h => by cases h) hn hq hm ho
theorem mk_all {P : Program} {eqs : List (TypeId × List CK)} {pure reads wrb : List FuncId} {bad : List (FuncId × Nat)} {hints : List (FuncId × List (Nat × List Nat))} (hn : P.funcs.toList.all (fun g => !(g.name == "runtime.NumGoroutine")) = true)
    (hq : eqs.all (fun p => eqOkB P p.1 p.2) = true) (hm : P.follows .mixedOrders = true) (ho : ordAll (mkEnv P eqs pure reads wrb bad hints) P = true) : (mkEnv P eqs pure reads wrb bad hints).All P :=
  mk_allG (fun _ _ h => by cases h) hn hq hm ho
/-- internal/bytealg.IndexByteString -/
def extIndexByte : List Value → Option Value
  | [.string s, .int .u8 c] => some (.int .i64 (Lib.indexByte s.data.toList c.toNat.toUInt8))
  | _ => none
theorem extIndexByte_ok {P : Program} {f : FuncId} {fn : Func} (hf : P.funcs[f]? = some fn) (h1 : (fn.name == "runtime.NumGoroutine") = false) (h2 : fn.body.isNone = true) (h3 : Extern.findNext fn = none) (h4 : Extern.find fn = some Extern.BytealgIndexByte.indexByte) :
    ∀ args v, extIndexByte args = some v → flat v = true ∧ (∀ x ∈ args, flat x = true) ∧ ∀ w : World, (callFunc f args.toArray).run P w = .ok (.value v) w := by
  intro args v h
  unfold extIndexByte at h
  split at h
  · injection h with h
    subst h
    refine ⟨rfl, by simp [flat], fun w => ?_⟩
    rw [run_callFunc_extern hf h1 h2 h3 h4, Lib.run_indexByteString]
    rfl
  · cases h
/-- internal/bytealg.CountString -/
def extCount : List Value → Option Value
  | [.string s, .int .u8 c] => some (.int .i64 (Lib.countByte s.data.toList c.toNat.toUInt8))
  | _ => none
theorem extCount_ok {P : Program} {f : FuncId} {fn : Func} (hf : P.funcs[f]? = some fn) (h1 : (fn.name == "runtime.NumGoroutine") = false) (h2 : fn.body.isNone = true) (h3 : Extern.findNext fn = none) (h4 : Extern.find fn = some Extern.BytealgCount.count) :
    ∀ args v, extCount args = some v → flat v = true ∧ (∀ x ∈ args, flat x = true) ∧ ∀ w : World, (callFunc f args.toArray).run P w = .ok (.value v) w := by
  intro args v h
  unfold extCount at h
  split at h
  · injection h with h
    subst h
    refine ⟨rfl, by simp [flat], fun w => ?_⟩
    rw [run_callFunc_extern hf h1 h2 h3 h4, Lib.run_countString]
    rfl
  · cases h
end Go.Proofs.YtckalckfihhldaaDoorF
