/- The abstract heap machine, part 10: every operation is told rightly. -/
import Derived.Test.YtckalckfihhldaaDoorF9
set_option linter.unusedVariables false
set_option linter.unusedSimpArgs false
namespace Go.Proofs.YtckalckfihhldaaDoorF
open Go

section
variable {E : Env} {P : Program} {o : Oper} {g : Regs} {s s' : St} {v : Value} {r : Out × St}

theorem nums8_spec : ∀ {l : List Value} {xs : List Int}, nums8 l = some xs → l = xs.map (Value.int .u8)
  | [], xs, h => by injection h with h; subst h; rfl
  | v :: l, xs, h => by
    unfold nums8 at h
    split at h
    · rename_i h0; cases h0
    · rename_i n l' h0
      injection h0 with h1 h2
      subst h1
      subst h2
      cases hn : nums8 l with
      | none => rw [hn] at h; cases h
      | some ys =>
        rw [hn] at h
        injection h with h
        subst h
        rw [nums8_spec hn]
        rfl
    · cases h

theorem nums32_spec : ∀ {l : List Value} {xs : List Int}, nums32 l = some xs → l = xs.map (Value.int .i32)
  | [], xs, h => by injection h with h; subst h; rfl
  | v :: l, xs, h => by
    unfold nums32 at h
    split at h
    · rename_i h0; cases h0
    · rename_i n l' h0
      injection h0 with h1 h2
      subst h1
      subst h2
      cases hn : nums32 l with
      | none => rw [hn] at h; cases h
      | some ys =>
        rw [hn] at h
        injection h with h
        subst h
        rw [nums32_spec hn]
        rfl
    · cases h

theorem conv_sim {src dst : TypeId} {x : Operand} {K : Value → Ans} (hE : E.Ok P) (ho : o.op = .convert src dst x) (h : kconv E src dst (ev E g x) s K = some r) :
    ∃ v, K v = some r ∧ ((∀ e, E.und src ≠ some (.slice e)) → PureSim E P o g v) ∧ ∀ s2, Ext s s2 → RdSim E P o g s2 v := by
  have fin : ∀ v, flat v = true → (∀ (φ : Phi) (w : World) (a : Act), V φ (ev E g x) (a.eval x) → (convert src dst (a.eval x)).run P w = .ok v w) → PureSim E P o g v := by
    intro v hf hk φ w a hg hr
    refine ⟨v, ?_, .flat hf⟩
    have := run_v (hk φ w a (ev_rel hg hr x))
    simpa only [execOp, ho] using this
  have fin2 : ∀ s2 v, flat v = true → (∀ φ w Own (a : Act), R φ s2 w Own → V φ (ev E g x) (a.eval x) → (convert src dst (a.eval x)).run P w = .ok v w) → RdSim E P o g s2 v := by
    intro s2 v hf hk
    refine fun φ w Own a hg hR hr => ⟨v, ?_, .flat hf⟩
    have := run_v (hk φ w Own a hR (ev_rel hg hr x))
    simpa only [execOp, ho] using this
  have both : ∀ v, K v = some r → PureSim E P o g v → ∃ v, K v = some r ∧ ((∀ e, E.und src ≠ some (.slice e)) → PureSim E P o g v) ∧ ∀ s2, Ext s s2 → RdSim E P o g s2 v := fun v h1 h2 => ⟨v, h1, fun _ => h2, fun _ _ => h2.rd⟩
  unfold kconv at h
  split at h
  · rename_i k n hx
    split at h
    · rename_i ds k' hs hd
      refine both _ h (fin _ rfl fun φ w a hv => ?_)
      rw [hx] at hv
      rw [hv.int_inv]
      unfold convert
      simp only [Sem.run_bind, run_underlying (hE.und _ _ hs), run_underlying (hE.und _ _ hd), Result.andThen_ok]
      simp [Conv.intToInt]
    · rename_i ds hs hd
      refine both _ h (fin _ rfl fun φ w a hv => ?_)
      rw [hx] at hv
      rw [hv.int_inv]
      unfold convert
      simp only [Sem.run_bind, run_underlying (hE.und _ _ hs), run_underlying (hE.und _ _ hd), Result.andThen_ok]
      simp [Conv.intToString]
    · cases h
  · rename_i b hx
    split at h
    · rename_i ds hs hd
      refine both _ h (fin _ rfl fun φ w a hv => ?_)
      rw [hx] at hv
      rw [hv.string_inv]
      unfold convert
      simp only [Sem.run_bind, run_underlying (hE.und _ _ hs), run_underlying (hE.und _ _ hd), Result.andThen_ok]
      simp
    · cases h
  · rename_i A n c hx
    split at h
    · rename_i e hs hd
      split at h
      · rename_i he
        split at h
        · refine ⟨_, h, (fun hne => absurd hs (hne e)), fun s2 hx2 => fin2 s2 _ rfl fun φ w Own a hR hv => ?_⟩
          rw [hx] at hv
          rw [hv.nilslice_inv]
          exact run_convert_bytes_nil w src e (hE.und _ _ hs) (hE.und _ _ he) n c dst (hE.und _ _ hd)
        · rename_i i off
          split at h
          · rename_i xs hxs
            refine ⟨_, h, (fun hne => absurd hs (hne e)), fun s2 hx2 => fin2 s2 _ rfl fun φ w Own a hR hv => ?_⟩
            rw [hx] at hv
            cases hse : s.seen i off n with
            | none => rw [hse] at hxs; cases hxs
            | some l =>
              rw [hse] at hxs
              have hl := nums8_spec hxs
              subst hl
              rcases hv.slice_inv with ⟨lc, c', hlc, _, _, _, ha⟩ | ⟨lc, b, hlc, hn, _, ha⟩
              · obtain ⟨hlen, l', k1, k2⟩ := hR.seen hlc (hx2.seen hse)
                have hl' : l' = xs.map (Value.int .u8) := k1.flat_eq (by intro v hv; obtain ⟨n, _, rfl⟩ := List.mem_map.1 hv; rfl)
                subst hl'
                rw [ha]
                refine run_convert_bytes_arg w src e (hE.und _ _ hs) (hE.und _ _ he) lc.block (lc.off + off) n c' xs (by simpa using hlen) (fun j hj => ?_) dst (hE.und _ _ hd)
                have hj' : j < xs.length := by simp at hlen; omega
                have := k2 j (.int .u8 (xs.getD j 0)) (by simp [List.getElem?_eq_getElem hj', List.getD_eq_getElem?_getD])
                rwa [add_plain] at this
              · subst hn
                obtain ⟨hlen, _⟩ := hR.seen hlc (hx2.seen hse)
                have hx0 : xs = [] := by cases xs with | nil => rfl | cons _ _ => simp at hlen
                subst hx0
                rw [ha, run_convert_bytes_string w src dst e _ 0 0 (hE.und _ _ hs) (hE.und _ _ he) (hE.und _ _ hd)]
                simp [Conv.bytesToString, loadCells, loadCellsFrom, strOfNums]
                rfl
          · cases h
        · cases h
      · rename_i he
        split at h
        · refine ⟨_, h, (fun hne => absurd hs (hne e)), fun s2 hx2 => fin2 s2 _ rfl fun φ w Own a hR hv => ?_⟩
          rw [hx] at hv
          rw [hv.nilslice_inv]
          rw [run_convert_runes_string w src dst e _ n c (hE.und _ _ hs) (hE.und _ _ he) (hE.und _ _ hd)]
          simp [Conv.runesToString]
        · rename_i i off
          split at h
          · rename_i xs hxs
            refine ⟨_, h, (fun hne => absurd hs (hne e)), fun s2 hx2 => fin2 s2 _ rfl fun φ w Own a hR hv => ?_⟩
            rw [hx] at hv
            cases hse : s.seen i off n with
            | none => rw [hse] at hxs; cases hxs
            | some l =>
              rw [hse] at hxs
              have hl := nums32_spec hxs
              subst hl
              rcases hv.slice_inv with ⟨lc, c', hlc, _, _, _, ha⟩ | ⟨lc, b, hlc, hn, _, ha⟩
              · obtain ⟨hlen, l', k1, k2⟩ := hR.seen hlc (hx2.seen hse)
                have hl' : l' = xs.map (Value.int .i32) := k1.flat_eq (by intro v hv; obtain ⟨n, _, rfl⟩ := List.mem_map.1 hv; rfl)
                subst hl'
                rw [ha, run_convert_runes_string w src dst e _ n c' (hE.und _ _ hs) (hE.und _ _ he) (hE.und _ _ hd)]
                refine run_runesToString w _ n c' xs ?_
                have := run_loadCells_list (P := P) w ⟨lc.block, lc.off + off, none⟩ (xs.map (Value.int .i32)) k2
                simp at hlen
                simpa [hlen] using this
              · subst hn
                obtain ⟨hlen, _⟩ := hR.seen hlc (hx2.seen hse)
                have hx0 : xs = [] := by cases xs with | nil => rfl | cons _ _ => simp at hlen
                subst hx0
                rw [ha, run_convert_runes_string w src dst e _ 0 0 (hE.und _ _ hs) (hE.und _ _ he) (hE.und _ _ hd)]
                simp [Conv.runesToString, loadCells, loadCellsFrom, runesBytes]
          · cases h
        · cases h
      · cases h
    · cases h
  · cases h

theorem VL.of_ev {φ : Phi} {a : Act} (hev : ∀ x, V φ (ev E g x) (a.eval x)) : ∀ (l : List Operand), VL φ (l.map (ev E g)) (l.map a.eval)
  | [] => .nil
  | x :: l => .cons (hev x) (VL.of_ev hev l)

/-- What is known of the calls. -/
def Calling (E : Env) (P : Program) (call : FuncId → List Value → St → Ans) : Prop := ∀ f args s out s', call f args s = some (out, s') → CallSim E P f args s out s' ∧ Low s s'

theorem call_sim {call : FuncId → List Value → St → Ans} {f : Operand} {xs : Array Operand} {ts : Array TypeId} {K : Value → St → Ans} {Kp : List PanicEntry → St → Ans} (hE : E.Ok P) (hc : Calling E P call)
    (ho : o.op = .call { callee := .value f, args := xs, argTypes := ts }) (h : kcallee E call o.type (ev E g f) (xs.toList.map (ev E g)) s K Kp = some r) :
    (∃ v s', K v s' = some r ∧ OpSim E P o g s v s' ∧ Low s s') ∨ (∃ ch s', Kp ch s' = some r ∧ OpPan E P o g s ch s' ∧ Low s s') := by
  unfold kcallee at h
  split at h
  · rename_i fn first cap hf
    split at h
    · rename_i fb hfn
      obtain ⟨e1, e2, e3⟩ := hE.fn _ _ hfn
      have enter : ∀ (φ : Phi) (w : World) (a : Act), Glob E φ → Rr φ g a.tmps → ∃ args', (execOp a.eval o).run P w = .ok (.enter fn args') w ∧ VL φ (first.toList ++ xs.toList.map (ev E g) ++ cap.toList) args'.toList := by
        intro φ w a hg hr
        have hv := ev_rel hg hr f
        rw [hf] at hv
        obtain ⟨first', cap', ha, h1, h2⟩ := hv.func_inv
        refine ⟨first' ++ xs.map a.eval ++ cap', ?_, ?_⟩
        · simp only [execOp, ho, resolve, ha]
          have e4 : ¬ (fb.body = none) := by intro hb; rw [hb] at e2; cases e2
          have e5 : ¬ (fb.name = "runtime.NumGoroutine") := by simpa using e3
          simp [Deferred.ofValue, invoke, callFunc, e1, e4, e5]
        · simp only [Array.toList_append, Array.toList_map]
          exact (h1.append (VL.of_ev (fun x => ev_rel hg hr x) xs.toList)).append h2
      split at h
      · rename_i v s' hcall
        refine .inl ⟨v, s', shapeR_sound h, fun φ w Own a next Q hg hR hr hn => ?_, (hc _ _ _ _ _ hcall).2⟩
        obtain ⟨args', k1, k2⟩ := enter φ w a hg hr
        unfold Oper.wp
        rw [k1, Oper.upon_enter]
        refine ((hc _ _ _ _ _ hcall).1 φ w Own args' hg hR k2).mono fun e w' => ?_
        rintro ⟨φ', Own', p1, p2, p3, v', rfl, p4⟩
        exact hn φ' w' Own' v' p1 p2 p3 p4
      · rename_i ch s' hcall
        refine .inr ⟨ch, s', h, fun φ w Own a next Q hg hR hr hn => ?_, (hc _ _ _ _ _ hcall).2⟩
        obtain ⟨args', k1, k2⟩ := enter φ w a hg hr
        unfold Oper.wp
        rw [k1, Oper.upon_enter]
        refine ((hc _ _ _ _ _ hcall).1 φ w Own args' hg hR k2).mono fun e w' => ?_
        rintro ⟨φ', Own', p1, p2, p3, ch', rfl, p4⟩
        exact hn φ' w' Own' ch' p1 p2 p3 p4
      · cases h
    · cases h
  · cases h

theorem ext_sim {f : Operand} {xs : Array Operand} {ts : Array TypeId} {e : List Value → Option Value} {v : Value} (hE : E.Ok P) (ho : o.op = .call { callee := .value f, args := xs, argTypes := ts }) (he : extOf E f = some e) (hv : e (xs.toList.map (ev E g)) = some v) : PureSim E P o g v := by
  unfold extOf at he
  split at he
  · rename_i f
    obtain ⟨h1, h2, h3⟩ := hE.ext _ _ he _ _ hv
    intro φ w a hg hr
    have hl := (VL.of_ev (fun x => ev_rel hg hr x) xs.toList).flat_eq h2
    refine ⟨v, ?_, .flat h1⟩
    have hx : xs.map a.eval = (xs.toList.map (ev E g)).toArray := by
      apply Array.ext'
      simp [← hl]
    have := h3 w
    simp only [execOp, ho, resolve, Act.eval]
    simp only [invoke, Deferred.ofValue, hx]
    simpa using this
  · cases he

theorem run_minmax {mn : Bool} {k : IntKind} {a b : Int} {w : World} : ((if mn then Builtin.min_ else Builtin.max_) #[] 0 #[.int k a, .int k b]).run P w = .ok (.int k (if mn then (if b < a then b else a) else (if a < b then b else a))) w := by
  cases mn
  · simp only [Bool.false_eq_true, if_false]
    show (List.foldlM Builtin.max2 (.int k a) [.int k b]).run P w = _
    simp [List.foldlM, Builtin.max2]
  · simp only [if_true]
    show (List.foldlM Builtin.min2 (.int k a) [.int k b]).run P w = _
    simp [List.foldlM, Builtin.min2]

theorem minmax_sim {bi : Builtin} {mn : Bool} (hb : bi = if mn then .min else .max) {x y : Operand} {ts : Array TypeId} {k : IntKind} {a b : Int} (ho : o.op = .call { callee := .builtin bi, args := #[x, y], argTypes := ts }) (hx : ev E g x = .int k a) (hy : ev E g y = .int k b) :
    PureSim E P o g (.int k (if mn then (if b < a then b else a) else (if a < b then b else a))) := by
  refine fun φ w A hg hr => ⟨_, ?_, .flat rfl⟩
  have h1 := ev_rel hg hr x
  rw [hx] at h1
  have h2 := ev_rel hg hr y
  rw [hy] at h2
  have hm := run_v (run_minmax (P := P) (mn := mn) (k := k) (a := a) (b := b) (w := w))
  subst hb
  cases mn
  · simp only [execOp, ho, resolve, Bool.false_eq_true, if_false]
    simpa [invoke, builtin, h1.int_inv, h2.int_inv, Builtin.max_] using hm
  · simp only [execOp, ho, resolve, if_true]
    simpa [invoke, builtin, h1.int_inv, h2.int_inv, Builtin.min_] using hm

/-- How an operation's outcome is told, by what it does with memory. -/
def Told (E : Env) (P : Program) (o : Oper) (g : Regs) (s : St) (v : Value) (s' : St) : Prop :=
  match cls E o with
  | .N => s' = s ∧ PureSim E P o g v
  | .Rd => s' = s ∧ ∀ s2, Ext s s2 → RdSim E P o g s2 v
  | .Al => ∃ obj, s' = s.new obj ∧ AllocSim E P o g s.next obj v
  | .C => OpSim E P o g s v s' ∧ Low s s'
  | .Ef => OpSim E P o g s v s' ∧ Low s s'
theorem Told.sim {E : Env} {P : Program} {o : Oper} {g : Regs} {s s' : St} {v : Value} (h : Told E P o g s v s') : OpSim E P o g s v s' ∧ Low s s' := by
  unfold Told at h
  split at h
  · obtain ⟨rfl, h⟩ := h; exact ⟨h.sim, Low.refl _⟩
  · obtain ⟨rfl, h⟩ := h; exact ⟨(h _ (Ext.refl _)).sim, Low.refl _⟩
  · obtain ⟨obj, rfl, h⟩ := h; exact ⟨h.sim, Low.new _ _⟩
  · exact h
  · exact h

theorem kop_told {call : FuncId → List Value → St → Ans} {K : Value → St → Ans} {Kp : List PanicEntry → St → Ans} (hE : E.Ok P) (hq : E.EqOk P) (hc : Calling E P call) (h : kop E call o g s K Kp = some r) :
    (∃ v s', K v s' = some r ∧ Told E P o g s v s') ∨ (∃ ch s', Kp ch s' = some r ∧ OpPan E P o g s ch s' ∧ Low s s' ∧ (cls E o = .C ∨ cls E o = .Ef)) := by
  have LN : cls E o = .N → (∃ v, K v s = some r ∧ PureSim E P o g v) → (∃ v s', K v s' = some r ∧ Told E P o g s v s') ∨ (∃ ch s', Kp ch s' = some r ∧ OpPan E P o g s ch s' ∧ Low s s' ∧ (cls E o = .C ∨ cls E o = .Ef)) :=
    fun hcl ⟨v, h1, h2⟩ => .inl ⟨v, s, h1, by unfold Told; rw [hcl]; exact ⟨rfl, h2⟩⟩
  have LR : cls E o = .Rd → (∃ v, K v s = some r ∧ ∀ s2, Ext s s2 → RdSim E P o g s2 v) → (∃ v s', K v s' = some r ∧ Told E P o g s v s') ∨ (∃ ch s', Kp ch s' = some r ∧ OpPan E P o g s ch s' ∧ Low s s' ∧ (cls E o = .C ∨ cls E o = .Ef)) :=
    fun hcl ⟨v, h1, h2⟩ => .inl ⟨v, s, h1, by unfold Told; rw [hcl]; exact ⟨rfl, h2⟩⟩
  have LA : cls E o = .Al → (∃ v obj, K v (s.new obj) = some r ∧ AllocSim E P o g s.next obj v) → (∃ v s', K v s' = some r ∧ Told E P o g s v s') ∨ (∃ ch s', Kp ch s' = some r ∧ OpPan E P o g s ch s' ∧ Low s s' ∧ (cls E o = .C ∨ cls E o = .Ef)) :=
    fun hcl ⟨v, obj, h1, h2⟩ => .inl ⟨v, _, h1, by unfold Told; rw [hcl]; exact ⟨obj, rfl, h2⟩⟩
  have LE : cls E o = .Ef → (∃ v s', K v s' = some r ∧ OpSim E P o g s v s' ∧ Low s s') → (∃ v s', K v s' = some r ∧ Told E P o g s v s') ∨ (∃ ch s', Kp ch s' = some r ∧ OpPan E P o g s ch s' ∧ Low s s' ∧ (cls E o = .C ∨ cls E o = .Ef)) :=
    fun hcl ⟨v, s', h1, h2⟩ => .inl ⟨v, s', h1, by unfold Told; rw [hcl]; exact h2⟩
  unfold kop at h
  split at h
  · rename_i x ho
    exact LN (by simp [cls, ho]) ⟨_, h, fun φ w a hg hr => ⟨a.eval x, by simp only [execOp, ho]; rfl, ev_rel hg hr x⟩⟩
  · rename_i x ho
    exact LN (by simp [cls, ho]) ⟨_, h, fun φ w a hg hr => ⟨a.eval x, by simp only [execOp, ho]; rfl, ev_rel hg hr x⟩⟩
  · rename_i c x y ho
    split at h
    · rename_i t hcv
      split at h
      · rename_i ht
        subst ht
        refine LN (by simp [cls, ho]) ⟨_, h, fun φ w a hg hr => ⟨a.eval x, ?_, ev_rel hg hr x⟩⟩
        have := ev_rel hg hr c
        rw [hcv] at this
        simp [execOp, ho, this.bool_inv, asBool]
      · rename_i ht
        have ht' : t = false := by simpa using ht
        subst ht'
        refine LN (by simp [cls, ho]) ⟨_, h, fun φ w a hg hr => ⟨a.eval y, ?_, ev_rel hg hr y⟩⟩
        have := ev_rel hg hr c
        rw [hcv] at this
        simp [execOp, ho, this.bool_inv, asBool]
    · cases h
  · rename_i t ho
    split at h
    · rename_i z hz
      exact LA (by simp [cls, ho]) ⟨_, _, h, alloc_sim hE ho hz⟩
    · cases h
  · rename_i t x ho
    exact LA (by simp [cls, ho]) (box_sim ho h)
  · rename_i t ps ho
    exact LN (by simp [cls, ho]) (build_sim hE ho h)
  · rename_i t n ps ho
    exact LA (by simp [cls, ho]) (buildSlice_sim hE ho h)
  · rename_i t x ho
    exact LR (by simp [cls, ho]) (load_sim hE ho h)
  · rename_i t x y ho
    split at h
    · rename_i i off hx
      obtain ⟨s', h1, h2⟩ := store_sim hE ho hx h
      exact LE (by simp [cls, ho]) ⟨_, s', h1, h2⟩
    · cases h
  · rename_i x ho
    split at h
    · rename_i A hx
      split at h
      · rename_i ad
        refine LN (by simp [cls, ho]) ⟨_, h, fun φ w a hg hr => ?_⟩
        have hv := ev_rel hg hr x
        rw [hx] at hv
        have : ∃ b, a.eval x = .pointer (some b) := by
          generalize hp : Value.pointer (some ad) = p at hv
          generalize a.eval x = y at hv
          cases hv <;> first | exact ⟨_, rfl⟩ | (simp [undef, skipV] at hp) | (subst hp; rename_i hf; cases (show false = true from hf))
        obtain ⟨b, hb⟩ := this
        refine ⟨a.eval x, ?_, hv⟩
        simp [execOp, ho, hb]
      · cases h
    · cases h
  · rename_i op t x y u ho
    exact LN (by simp [cls, ho]) (kbin_sim hE hq ho h)
  · rename_i op t x ho
    exact LN (by simp [cls, ho]) (kun_sim ho h)
  · rename_i a b x ho
    split at h
    · rename_i hb
      exact LE (by simp [cls, ho, hb]) (ofstr_sim hE ho h)
    rename_i hb
    obtain ⟨v, h1, h2, h3⟩ := conv_sim hE ho h
    cases hu : E.und a with
    | none => exact LN (by simp [cls, ho, hu, hb]) ⟨v, h1, h2 (by simp [hu])⟩
    | some d =>
      by_cases hd : ∃ e, d = .slice e
      · obtain ⟨e, rfl⟩ := hd
        exact LR (by simp [cls, ho, hu, hb]) ⟨v, h1, h3⟩
      · exact LN (by simp only [cls, ho, hu, hb]; cases d <;> first | rfl | exact absurd ⟨_, rfl⟩ hd) ⟨v, h1, h2 (fun e he => hd ⟨e, by rw [hu] at he; injection he⟩)⟩
  · rename_i fn first cap ho
    refine LN (by simp [cls, ho]) ⟨_, h, fun φ w a hg hr => ⟨.func fn (first.map a.eval) (cap.map a.eval), ?_, .func ?_ ?_⟩⟩
    · simp [execOp, ho, Instr.makeFunc]
    · simpa using VL.of_ev (fun x => ev_rel hg hr x) first.toList
    · simpa using VL.of_ev (fun x => ev_rel hg hr x) cap.toList
  · rename_i t n c ho
    exact LA (by simp [cls, ho]) (makeSlice_sim hE ho h)
  · rename_i t x lo hi mx ho
    obtain ⟨v, h1, h2, h3⟩ := slice_sim hE ho h
    cases hu : E.und t with
    | none => exact LR (by simp [cls, ho, hu]) ⟨v, h1, h3⟩
    | some d =>
      by_cases hd : d = .string
      · subst hd
        exact LN (by simp [cls, ho, hu]) ⟨v, h1, h2 hu⟩
      · exact LR (by simp only [cls, ho, hu]; cases d <;> first | rfl | exact absurd rfl hd) ⟨v, h1, h3⟩
  · rename_i t x f ho
    exact LN (by simp [cls, ho]) (fieldAddr_sim hE ho h)
  · rename_i t x f ho
    exact LN (by simp [cls, ho]) (field_sim hE ho h)
  · rename_i t x i ho
    exact LN (by simp [cls, ho]) (indexAddr_sim hE ho h)
  · rename_i t x i ho
    exact LN (by simp [cls, ho]) (index_sim hE ho h)
  · rename_i x i ho
    split at h
    · rename_i vs hx
      split at h
      · rename_i v hv
        refine LN (by simp [cls, ho]) ⟨_, h, fun φ w a hg hr => ?_⟩
        have hxv := ev_rel hg hr x
        rw [hx] at hxv
        obtain ⟨vs', ha, hvs⟩ := hxv.tuple_inv (by rintro rfl; simp at hv)
        obtain ⟨v', k1, k2⟩ := hvs.get _ _ hv
        refine ⟨v', ?_, k2⟩
        have k1' : vs'[i]? = some v' := by simpa using k1
        simp [execOp, ho, ha, Instr.extract, k1']
      · cases h
    · cases h
  · rename_i c ho
    obtain ⟨callee, args, argTypes⟩ := c
    dsimp only at h
    split at h
    · rename_i f
      split at h
      · rename_i e he
        split at h
        · rename_i v hv
          exact LN (by simp [cls, ho, he]) ⟨v, h, ext_sim hE ho he hv⟩
        · cases h
      rename_i hx
      rcases call_sim hE hc ho h with ⟨v, s', h1, h2⟩ | ⟨ch, s', h1, h2, h3⟩
      · exact .inl ⟨v, s', h1, by unfold Told; rw [show cls E o = .C by simp [cls, ho, hx]]; exact h2⟩
      · exact .inr ⟨ch, s', h1, h2, h3, .inl (by simp [cls, ho, hx])⟩
    · rename_i b
      split at h
      · rename_i x hargs
        have ha : args = #[x] := by apply Array.ext'; simpa using hargs
        subst ha
        split at h
        · rename_i t ht
          exact LN (by simp [cls, ho]) (len_sim hE ho ht h)
        · cases h
      · rename_i x hargs
        have ha : args = #[x] := by apply Array.ext'; simpa using hargs
        subst ha
        split at h
        · rename_i t ht
          exact LN (by simp [cls, ho]) (cap_sim hE ho ht h)
        · cases h
      · rename_i x y hargs
        have ha : args = #[x, y] := by apply Array.ext'; simpa using hargs
        subst ha
        split at h
        · exact LE (by simp [cls, ho]) (let ⟨v, s', h1, h2, h3⟩ := appz_sim hE ho h; ⟨v, s', h1, h2.sim, h3⟩)
        · exact LE (by simp [cls, ho]) (let ⟨v, s', h1, h2, h3⟩ := append_sim hE ho h; ⟨v, s', h1, h2.sim, h3⟩)
      · rename_i x y hargs
        have ha : args = #[x, y] := by apply Array.ext'; simpa using hargs
        subst ha
        split at h
        · rename_i k a k' b hx hy
          split at h
          · rename_i hk
            subst hk
            exact LN (by simp [cls, ho]) ⟨_, h, by simpa using minmax_sim (mn := true) rfl ho hx hy⟩
          · cases h
        · cases h
      · rename_i x y hargs
        have ha : args = #[x, y] := by apply Array.ext'; simpa using hargs
        subst ha
        split at h
        · rename_i k a k' b hx hy
          split at h
          · rename_i hk
            subst hk
            exact LN (by simp [cls, ho]) ⟨_, h, by simpa using minmax_sim (mn := false) rfl ho hx hy⟩
          · cases h
        · cases h
      · cases h
    · cases h
  · rename_i t x ho
    split at h
    · rename_i b hu hx
      exact LA (by simp [cls, ho]) ⟨_, _, h, range_sim hE ho hu hx⟩
    · cases h
  · rename_i x str ho
    exact LE (by simp [cls, ho]) (next_sim ho h)
  · rename_i x ho
    split at h
    · rename_i t v hx
      refine .inr ⟨_, s, h, fun φ w Own a next Q hg hR hr hn => ?_, Low.refl s, .inr (by simp [cls, ho])⟩
      have hxv := ev_rel hg hr x
      rw [hx] at hxv
      obtain ⟨x', ha, hv⟩ := hxv.iface_inv
      unfold Oper.wp
      have : (execOp a.eval o).run P w = .halt (.panic (.iface t x')) w := by simp [execOp, ho, ha, Instr.panic]
      rw [this, Oper.upon_panic]
      exact hn φ w Own _ (Phi.le_refl _) hR (Fr.refl w Own) ⟨.iface hv, rfl, rfl, trivial⟩
    · cases h
  · cases h
end
end Go.Proofs.YtckalckfihhldaaDoorF
