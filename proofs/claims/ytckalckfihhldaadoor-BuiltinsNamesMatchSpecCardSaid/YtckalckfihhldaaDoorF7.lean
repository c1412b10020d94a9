/- The abstract heap machine, part 7: values that are built, memory that is made, read and written. -/
import Derived.Test.YtckalckfihhldaaDoorF6
set_option linter.unusedVariables false
set_option linter.unusedSimpArgs false
namespace Go.Proofs.YtckalckfihhldaaDoorF
open Go

section
variable {E : Env} {P : Program} {o : Oper} {g : Regs} {s s' : St} {v : Value} {r : Out × St}

theorem run_mapM_pure {α β : Type} {w : World} (f : α → Sem β) (h : α → β) : ∀ (l : List α), (∀ a ∈ l, (f a).run P w = .ok (h a) w) → (l.mapM f).run P w = .ok (l.map h) w
  | [], _ => rfl
  | a :: l, hl => by
    rw [List.mapM_cons, Sem.run_bind, hl a (by simp)]
    simp only [Result.andThen_ok]
    rw [Sem.run_bind, run_mapM_pure f h l fun b hb => hl b (by simp [hb])]
    rfl

/-! ### Cells of a value -/
theorem cellsT_sound {α : Type} {r : α} {t : TypeId} {v : Value} {K : List Value → Option α} (h : cellsT E t v K = some r) :
    ∃ cs, K cs = some r ∧ ∀ φ v', V φ v v' → VL φ cs v'.cells.toList := by
  unfold cellsT at h
  split at h
  · split at h
    · refine ⟨_, h, fun φ v' hv => ?_⟩
      obtain ⟨a', rfl, ha⟩ := hv.agg_inv
      exact ha
    · cases h
  · split at h
    · rename_i h1
      refine ⟨[v], h, fun φ v' hv => ?_⟩
      have : v'.cells = #[v'] := by
        have := hv.oneCell h1
        cases v' <;> simp_all [Value.oneCell', Value.cells]
      rw [this]
      exact .cons hv .nil
    · cases h

/-! ### 'fill' -/
theorem foldl_write : ∀ (vs : List Value) (k off : Nat) (cells : Array Value), off + k + vs.length ≤ cells.size →
    (vs.zipIdx k).foldl (fun cs (c, j) => cs.setIfInBounds (off + j) c) cells = (writeAt cells.toList (off + k) vs).toArray
  | [], k, off, cells, h => by simp [writeAt]
  | v :: vs, k, off, cells, h => by
    simp only [List.length_cons] at h
    rw [List.zipIdx_cons, List.foldl_cons, foldl_write vs (k + 1) off _ (by simp; omega)]
    apply congrArg
    unfold writeAt
    simp only [Array.toList_setIfInBounds, List.length_cons]
    have e : off + (k + 1) = off + k + 1 := by omega
    rw [e]
    apply List.ext_getElem?
    intro i
    simp only [List.append_assoc, List.getElem?_append, List.length_take, List.length_set, List.getElem?_take, List.getElem?_set, List.getElem?_drop, List.length_cons, Array.length_toList]
    have m1 : min (off + k + 1) cells.size = off + k + 1 := by omega
    have m2 : min (off + k) cells.size = off + k := by omega
    rw [m1, m2]
    by_cases c1 : i < off + k
    · rw [if_pos (by omega), if_pos (by omega), if_neg (by omega), if_pos c1, if_pos c1]
    · by_cases c2 : i = off + k
      · subst c2
        rw [if_pos (by omega), if_pos (by omega), if_pos rfl, if_pos (by omega), if_neg (by omega)]
        simp
      · have e2 : i - (off + k) = (i - (off + k + 1)) + 1 := by omega
        rw [if_neg (by omega), if_neg c1, e2]
        simp only [List.cons_append, List.getElem?_cons_succ]
        by_cases c3 : i - (off + k + 1) < vs.length
        · rw [if_pos c3, if_pos (by omega)]
        · rw [if_neg c3, if_neg (by omega), if_neg (by omega)]
          congr 1
          omega

theorem writeAt_length {cs vs : List Value} {off : Nat} (h : off + vs.length ≤ cs.length) : (writeAt cs off vs).length = cs.length := by unfold writeAt; simp; omega
theorem VL.wrAt {φ : Phi} {cs cs' vs vs' : List Value} (off : Nat) (h : VL φ cs cs') (k : VL φ vs vs') : VL φ (writeAt cs off vs) (writeAt cs' off vs') := by
  unfold writeAt
  rw [← k.length]
  exact ((h.take off).append k).append (h.drop _)

inductive PL (φ : Phi) : List (Nat × Value) → List (Nat × Value) → Prop
  | nil : PL φ [] []
  | cons {i : Nat} {v v' : Value} {l l' : List (Nat × Value)} (h : V φ v v') (k : PL φ l l') : PL φ ((i, v) :: l) ((i, v') :: l')

theorem fillL_sim {place : Nat → Option (Nat × TypeId)} {place' : Nat → Option (Nat × Nat)} (hp : ∀ i off t, place i = some (off, t) → ∀ z n b, E.info t = some (z, n, b) → place' i = some (off, n)) :
    ∀ {ps : List (Nat × Value)} {cs : List Value} {K : List Value → Ans}, fillL E place ps cs K = some r →
      ∃ cs2, K cs2 = some r ∧ cs2.length = cs.length ∧ ∀ φ ps' cs', PL φ ps ps' → VL φ cs cs' → ∃ cs2', Instr.fill place' cs'.toArray ps' = some cs2'.toArray ∧ VL φ cs2 cs2'
  | [], cs, K, h => ⟨cs, h, rfl, fun φ ps' cs' hps hcs => by cases hps; exact ⟨cs', rfl, hcs⟩⟩
  | (i, v) :: ps, cs, K, h => by
    unfold fillL at h
    split at h
    · cases h
    · rename_i off t hpl
      obtain ⟨vs, h, hvs⟩ := cellsT_sound h
      split at h
      · rename_i z n b hi
        split at h
        · rename_i hlen
          obtain ⟨cs2, h1, h2, h3⟩ := fillL_sim hp h
          refine ⟨cs2, h1, by rw [h2, writeAt_length hlen.2], fun φ ps' cs' hps hcs => ?_⟩
          cases hps with
          | cons hv hk =>
            rename_i v' l'
            have hv' := hvs φ v' hv
            have hl := hv'.length
            have hl2 := hcs.length
            obtain ⟨cs2', k1, k2⟩ := h3 φ _ _ hk (hcs.wrAt off hv')
            refine ⟨cs2', ?_, k2⟩
            unfold Instr.fill
            rw [hp i off t hpl z n b hi]
            have c1 : ¬ (v'.cells.size ≠ n ∨ off + v'.cells.size > cs'.toArray.size) := by
              simp only [Array.length_toList] at hl
              simp only [List.size_toArray]
              omega
            simp only [bne_iff_ne, Bool.or_eq_true, decide_eq_true_eq, if_neg c1]
            have e : v'.cells.zipIdx.foldl (fun cs (c, j) => cs.setIfInBounds (off + j) c) cs'.toArray = (writeAt cs' off v'.cells.toList).toArray := by
              rw [← Array.foldl_toList, Array.toList_zipIdx]
              have := foldl_write v'.cells.toList 0 off cs'.toArray (by simp only [Array.length_toList] at hl; simp; omega)
              simpa using this
            rw [e]
            exact k1
        · cases h
      · cases h

theorem zeroL_spec (hE : E.Ok P) {t : TypeId} {l : List Value} (h : zeroL E t = some l) :
    (∃ z b, E.info t = some (some z, l.length, b) ∧ z.cells.toList = l ∧ ∀ w : World, (zeroValue t).run P w = .ok z w) ∧ ∀ v ∈ l, flat v = true := by
  unfold zeroL at h
  split at h
  · rename_i z n b hi
    split at h
    · rename_i hc
      injection h with h
      subst h
      refine ⟨⟨z, b, by rw [hi]; simp [hc.1], rfl, fun w => ?_⟩, fun v hv => List.all_eq_true.1 hc.2 v hv⟩
      obtain ⟨i, h1, h2, _⟩ := hE.info t _ _ _ hi
      simp [zeroValue, typeInfo, h1, h2]
    · cases h
  · cases h

theorem PL.of_ev {φ : Phi} {a : Act} (hev : ∀ x, V φ (ev E g x) (a.eval x)) : ∀ (l : List (Nat × Operand)), PL φ (l.map fun p => (p.1, ev E g p.2)) (l.map fun p => (p.1, a.eval p.2))
  | [] => .nil
  | (i, x) :: l => .cons (hev x) (PL.of_ev hev l)

theorem build_sim {t : TypeId} {ps : Array (Nat × Operand)} {K : Value → Ans} (hE : E.Ok P) (ho : o.op = .build t ps) (h : kbuild E t (ps.toList.map fun p => (p.1, ev E g p.2)) K = some r) :
    ∃ v, K v = some r ∧ PureSim E P o g v := by
  unfold kbuild at h
  split at h
  · cases h
  · rename_i z hz
    obtain ⟨⟨zv, b, hzi, hzc, hzr⟩, hzf⟩ := zeroL_spec hE hz
    have fin : ∀ cs2, (∀ φ ps' cs', PL φ (ps.toList.map fun p => (p.1, ev E g p.2)) ps' → VL φ z cs' → ∃ cs2', (∀ w : World, (Instr.build t ps'.toArray).run P w = .ok (.agg cs2'.toArray) w) ∧ VL φ cs2 cs2') → PureSim E P o g (.agg cs2.toArray) := by
      intro cs2 hk
      refine fun φ w a hg hr => ?_
      obtain ⟨cs2', h1, h2⟩ := hk φ _ z (PL.of_ev (fun x => ev_rel hg hr x) ps.toList) (VL.of_flat hzf)
      refine ⟨.agg cs2'.toArray, ?_, .agg (by simpa using h2)⟩
      have e : (ps.map fun (i, x) => (i, a.eval x)) = (ps.toList.map fun p => (p.1, a.eval p.2)).toArray := by
        apply Array.ext'
        simp
      have := run_v (h1 w)
      simp only [execOp, ho]
      rw [e]
      exact this
    split at h
    · rename_i fs hu
      split at h
      · rename_i hall
        obtain ⟨cs2, h1, h2, h3⟩ := fillL_sim (place' := fun i => (fs[i]?).map fun f => (f.offset, ((E.info f.type).getD (none, 0, 0)).2.1)) (fun i off t' hp z' n b hi => by
          cases hf : fs[i]? with
          | none => rw [hf] at hp; cases hp
          | some f =>
            rw [hf] at hp
            simp only [Option.map_some, Option.some.injEq, Prod.mk.injEq] at hp
            obtain ⟨rfl, rfl⟩ := hp
            simp [hi]) h
        refine ⟨_, h1, fin cs2 fun φ ps' cs' hps hcs => ?_⟩
        obtain rfl := hcs.flat_eq hzf
        obtain ⟨cs2', k1, k2⟩ := h3 φ ps' _ hps hcs
        refine ⟨cs2', fun w => ?_, k2⟩
        have hm : (fs.mapM fun f => do pure (f.offset, ← sizeOf f.type) : Sem _).run P w = .ok (fs.map fun f => (f.offset, ((E.info f.type).getD (none, 0, 0)).2.1)) w := by
          rw [Array.mapM_eq_mapM_toList, Sem.run_map, run_mapM_pure _ (fun f => (f.offset, ((E.info f.type).getD (none, 0, 0)).2.1))]
          · simp only [Result.andThen_ok]
            congr 1
            apply Array.ext'
            simp
          · intro f hf
            have := List.all_eq_true.1 hall f hf
            obtain ⟨q, hq⟩ := Option.isSome_iff_exists.1 this
            obtain ⟨z', n, b'⟩ := q
            simp [run_sizeOf hE hq, hq]
        have hzc' : zv.cells = cs'.toArray := by apply Array.ext'; simpa using hzc
        have hk : Instr.fill (fun x => (fs.map fun f => (f.offset, ((E.info f.type).getD (none, 0, 0)).2.1))[x]?) cs'.toArray ps' = some cs2'.toArray := by
          rw [← k1]
          congr 1
          funext i
          simp
        simp only [Instr.build, Sem.run_bind, hzr, Result.andThen_ok, run_underlying (hE.und _ _ hu), hm, hzc', hk]
        rfl
      · cases h
    · rename_i n e hu
      split at h
      · rename_i z' sz b' hi
        obtain ⟨cs2, h1, h2, h3⟩ := fillL_sim (place' := fun i => some (i * sz, sz)) (fun i off t' hp z2 n2 b2 hi2 => by
          injection hp with hp
          injection hp with e1 e2
          subst e1
          subst e2
          rw [hi] at hi2
          injection hi2 with hi2
          injection hi2 with _ hi2
          injection hi2 with hi2
          subst hi2
          rfl) h
        refine ⟨_, h1, fin cs2 fun φ ps' cs' hps hcs => ?_⟩
        obtain rfl := hcs.flat_eq hzf
        obtain ⟨cs2', k1, k2⟩ := h3 φ ps' _ hps hcs
        refine ⟨cs2', fun w => ?_, k2⟩
        have hzc' : zv.cells = cs'.toArray := by apply Array.ext'; simpa using hzc
        simp only [Instr.build, Sem.run_bind, hzr, Result.andThen_ok, run_underlying (hE.und _ _ hu), run_sizeOf hE hi, hzc', k1]
        rfl
      · cases h
    · cases h

/-! ### New memory -/
/-- What an object that is made needs to know of its block. -/
def Fits (w : World) (oc : Obj) (l : Loc) (id : Nat) (obj : AObj) (v v' : Value) (φ : Phi) : Prop :=
  ∀ ψ s2 Own', Phi.le φ ψ → ψ id = some l → Own' l.block → id < s2.next → ORel ψ s2 (w.alloc oc) Own' l obj ∧ V ψ v v'
/-- An operation that makes one object. -/
def AllocSim (E : Env) (P : Program) (o : Oper) (g : Regs) (id : Nat) (obj : AObj) (v : Value) : Prop :=
  ∀ φ (w : World) (a : Act), Glob E φ → Rr φ g a.tmps → ∃ oc l v', l.block = w.heap.size ∧ (execOp a.eval o).run P w = .ok (.value v') (w.alloc oc) ∧ Fits w oc l id obj v v' φ
theorem AllocSim.sim {obj : AObj} (h : AllocSim E P o g s.next obj v) : OpSim E P o g s v (s.new obj) := by
  refine OpSim.of_run fun φ w Own a hg hR hr => ?_
  obtain ⟨oc, l, v', h1, h2, h3⟩ := h φ w a hg hr
  have le := Phi.put_le l hR.fresh
  refine ⟨_, _, _, v', h2, le, hR.new obj oc l h1 fun ψ le' hl => (h3 ψ _ _ le' hl (.inr h1) (by simp)).1, Fr.alloc w oc Own, ?_⟩
  exact (h3 _ (s.new obj) (fun k => Own k ∨ k = w.heap.size) le (Phi.put_same ..) (.inr h1) (by simp)).2

theorem fits_box {φ : Phi} (w : World) (id : Nat) (t : TypeId) (cs : List Value) (cs' : Array Value) (hv : VL φ cs cs'.toList) :
    Fits w (.cells cs' t) ⟨w.heap.size, 0, cs'.size, 0⟩ id (.box t cs) (.pointer (some ⟨id, 0, none⟩)) (.pointer (some ⟨w.heap.size, 0, none⟩)) φ := by
  intro ψ s2 Own' le hl ho _
  refine ⟨⟨ho, rfl, cs', heap_alloc_new w _, rfl, ⟨by have := hv.length; simp at this; simp; omega, fun i v hi => ?_⟩⟩, .ptr (l := ⟨w.heap.size, 0, cs'.size, 0⟩) hl⟩
  obtain ⟨v', h1, h2⟩ := hv.get i v hi
  exact ⟨v', by simpa using h1, h2.mono le⟩

theorem fits_row {φ : Phi} (w : World) (id : Nat) (e : TypeId) (cs : List Value) (cs' : Array Value) (sz n c : Nat) (hv : ∀ (i : Nat) (v : Value), cs[i]? = some v → ∃ v', cs'[i]? = some v' ∧ V φ v v') (hl : cs.length ≤ cs'.size)
    (root : Nat) (hr : root ≤ id) (c' : Nat) (h1 : n ≤ c) (h2 : c ≤ c') (h3 : c' * sz ≤ cs'.size) :
    Fits w (.cells cs' e) ⟨w.heap.size, 0, cs'.size, sz⟩ id (.row { elem := e, cs := cs, mode := .own, root := root, stored := false, esz := sz }) (.slice (some ⟨id, 0, none⟩) n c) (.slice (some ⟨w.heap.size, 0, none⟩) n c') φ := by
  intro ψ s2 Own' le hlo ho hid
  refine ⟨?_, .slice (l := ⟨w.heap.size, 0, cs'.size, sz⟩) hlo h1 h2 (.inr (by simpa using h3))⟩
  rw [ORel.own (r := { elem := e, cs := cs, mode := .own, root := root, stored := false, esz := sz }) rfl]
  refine ⟨ho, Nat.lt_of_le_of_lt hr hid, rfl, cs', heap_alloc_new w _, rfl, ⟨by simpa using hl, fun i v hi => ?_⟩⟩
  obtain ⟨v', p1, p2⟩ := hv i v hi
  exact ⟨v', by simpa using p1, p2.mono le⟩

theorem R.newRow {φ : Phi} {w : World} {Own : Nat → Prop} (h : R φ s w Own) (e : TypeId) (cs : List Value) (cs' : Array Value) (sz n c : Nat) (hv : ∀ (i : Nat) (v : Value), cs[i]? = some v → ∃ v', cs'[i]? = some v' ∧ V φ v v') (hl : cs.length ≤ cs'.size)
    (root : Nat) (hr : root ≤ s.next) (c' : Nat) (h1 : n ≤ c) (h2 : c ≤ c') (h3 : c' * sz ≤ cs'.size) :
    ∃ φ' Own', Phi.le φ φ' ∧ R φ' (s.new (.row { elem := e, cs := cs, mode := .own, root := root, stored := false, esz := sz })) (w.alloc (.cells cs' e)) Own' ∧ Fr w (w.alloc (.cells cs' e)) Own Own' ∧
      V φ' (.slice (some ⟨s.next, 0, none⟩) n c) (.slice (some ⟨w.heap.size, 0, none⟩) n c') ∧ ∃ l, φ' = Phi.put φ s.next l := by
  have hf := fits_row (φ := φ) w s.next e cs cs' sz n c hv hl root hr c' h1 h2 h3
  have le := Phi.put_le ⟨w.heap.size, 0, cs'.size, sz⟩ h.fresh
  exact ⟨_, _, le, h.new _ (.cells cs' e) ⟨w.heap.size, 0, cs'.size, sz⟩ rfl fun ψ le' hl' => (hf ψ _ _ le' hl' (.inr rfl) (by simp)).1, Fr.alloc w _ Own, (hf _ (s.new (.box 0 [])) (fun k => Own k ∨ k = w.heap.size) le (Phi.put_same ..) (.inr rfl) (by simp)).2, _, rfl⟩

theorem alloc_sim {t : TypeId} {z : List Value} {id : Nat} (hE : E.Ok P) (ho : o.op = .alloc t) (hz : zeroL E t = some z) : AllocSim E P o g id (.box t z) (.pointer (some ⟨id, 0, none⟩)) := by
  obtain ⟨⟨zv, b, hzi, hzc, hzr⟩, hzf⟩ := zeroL_spec hE hz
  intro φ w a hg hr
  refine ⟨_, _, _, rfl, ?_, fits_box w id t z zv.cells (by rw [hzc]; exact VL.of_flat hzf)⟩
  have hrun : (Instr.alloc t true (.tuple #[])).run P w = .ok (.pointer (some ⟨w.heap.size, 0, none⟩)) (w.alloc (.cells zv.cells t)) := by
    simp [Instr.alloc, hzr, newVar, newRow]
  simpa only [execOp, ho] using run_v hrun

theorem box_sim {t : TypeId} {x : Operand} {K : Value → St → Ans} (ho : o.op = .box t x) (h : (cellsT E t (ev E g x) fun cs => K (.pointer (some ⟨s.next, 0, none⟩)) (s.new (.box t cs))) = some r) :
    ∃ v obj, K v (s.new obj) = some r ∧ AllocSim E P o g s.next obj v := by
  obtain ⟨cs, h, hcs⟩ := cellsT_sound h
  refine ⟨_, _, h, fun φ w a hg hr => ⟨_, _, _, rfl, ?_, fits_box w s.next t cs (a.eval x).cells (hcs φ _ (ev_rel hg hr x))⟩⟩
  have hrun : (Instr.box t (a.eval x)).run P w = .ok (.pointer (some ⟨w.heap.size, 0, none⟩)) (w.alloc (.cells (a.eval x).cells t)) := by
    simp [Instr.box, newVar, newRow]
  simpa only [execOp, ho] using run_v hrun

theorem loadT_run {α : Type} {r : α} (hE : E.Ok P) {t : TypeId} {x : Value} {s : St} {K : Value → Option α} (h : loadT E s t x K = some r) :
    ∃ v, K v = some r ∧ ∀ φ s2 w Own x', R φ s2 w Own → V φ x x' → (∀ i off l, x = .pointer (some ⟨i, off, none⟩) → φ i = some l → ∀ k u, s.cell i k = some u → s2.cell i k = some u) →
      ∃ ad v', x' = .pointer (some ad) ∧ (loadVar t ad).run P w = .ok v' w ∧ V φ v v' := by
  unfold loadT at h
  split at h
  · rename_i i off
    split at h
    · rename_i hagg
      split at h
      · rename_i z n b hi
        split at h
        · rename_i hlen
          obtain ⟨vs, h1, h2, h3⟩ := loadL_sound h
          refine ⟨_, h3, fun φ s2 w Own x' hR hv hs => ?_⟩
          obtain ⟨l, hl, ha⟩ := hv.ptr_inv
          replace h2 := fun j v hv => hs i off l rfl hl _ _ (h2 j v hv)
          obtain ⟨vs', k1, k2⟩ := hR.cellsL hl vs off h2
          refine ⟨_, .agg vs'.toArray, ha, ?_, .agg (by simpa using k1)⟩
          cases hd : E.und t with
          | none => rw [hd] at hagg; cases hagg
          | some d =>
            rw [hd] at hagg
            have hc := run_loadCells_list (P := P) w ⟨l.block, l.off + off, none⟩ vs' k2
            have hn : vs'.length = n := by rw [← k1.length, h1, hlen]
            rw [hn] at hc
            simp [loadVar, run_isAgg (hE.und _ _ hd), hagg, run_sizeOf hE hi, hc]
        · cases h
      · cases h
    · rename_i hagg
      split at h
      · cases h
      · rename_i u hd
        split at h
        · cases h
        · rename_i v hc
          have h := shape1_sound h
          refine ⟨v, h, fun φ s2 w Own x' hR hv hs => ?_⟩
          obtain ⟨l, hl, ha⟩ := hv.ptr_inv
          replace hc := hs i off l rfl hl _ _ hc
          obtain ⟨v', k1, k2⟩ := hR.cell hl hc
          refine ⟨_, v', ha, ?_, k2⟩
          rw [hd] at hagg
          simp [loadVar, run_isAgg (hE.und _ _ hd), hagg, k1]
  · cases h
theorem run_loadAt {t : TypeId} {ad : Addr} {v' : Value} {w : World} (h : (loadVar t ad).run P w = .ok v' w) : (Instr.loadAt t (.pointer (some ad))).run P w = .ok v' w := by
  simp [Instr.loadAt, Instr.sureAddr, h]
theorem load_sim {t : TypeId} {x : Operand} {K : Value → Ans} (hE : E.Ok P) (ho : o.op = .load t x) (h : loadT E s t (ev E g x) K = some r) :
    ∃ v, K v = some r ∧ ∀ s2, Ext s s2 → RdSim E P o g s2 v := by
  obtain ⟨v, h1, h2⟩ := loadT_run hE h
  refine ⟨v, h1, fun s2 hx φ w Own a hg hR hr => ?_⟩
  obtain ⟨ad, v', e1, e2, e3⟩ := h2 φ s2 w Own _ hR (ev_rel hg hr x) fun i off l _ _ k u hu => hx.cell hu
  refine ⟨v', ?_, e3⟩
  have hrun : (Instr.loadAt t (a.eval x)).run P w = .ok v' w := by rw [e1]; exact run_loadAt e2
  simpa only [execOp, ho] using run_v hrun
/-- A box that is read in another memory, in which it is as it was. -/
theorem load_box_sim {t : TypeId} {x : Operand} {i off : Nat} {K : Value → Ans} (hE : E.Ok P) (ho : o.op = .load t x) (hx : ev E g x = .pointer (some ⟨i, off, none⟩)) (h : loadT E s t (.pointer (some ⟨i, off, none⟩)) K = some r) :
    ∃ v, K v = some r ∧ ∀ φ s2 w Own (a : Act), Glob E φ → R φ s2 w Own → Rr φ g a.tmps → (i < s2.next → s2.cells i = s.cells i) → ∃ v', (execOp a.eval o).run P w = .ok (.value v') w ∧ V φ v v' := by
  obtain ⟨v, h1, h2⟩ := loadT_run hE h
  refine ⟨v, h1, fun φ s2 w Own a hg hR hr hs => ?_⟩
  obtain ⟨ad, v', e1, e2, e3⟩ := h2 φ s2 w Own (a.eval x) hR (by rw [← hx]; exact ev_rel hg hr x) fun i' off' l e hl k u hu => by
    injection e with e
    injection e with e
    injection e with e e'
    subst e
    have := hs (hR.dom _ _ hl)
    unfold St.cell at hu ⊢
    rw [this]
    exact hu
  refine ⟨v', ?_, e3⟩
  have hrun : (Instr.loadAt t (a.eval x)).run P w = .ok v' w := by rw [e1]; exact run_loadAt e2
  simpa only [execOp, ho] using run_v hrun

theorem store_sim {t : TypeId} {x y : Operand} {K : Value → St → Ans} (hE : E.Ok P) (ho : o.op = .store t x y) {i off : Nat} (hx : ev E g x = .pointer (some ⟨i, off, none⟩))
    (h : (cellsT E t (ev E g y) fun vs => match E.info t with
      | some (_, n, _) => if vs.length = n then match s.wr i off vs with
          | some s' => K undef s'
          | none => none
        else none
      | none => none) = some r) : ∃ s', K undef s' = some r ∧ OpSim E P o g s undef s' ∧ Low s s' := by
  obtain ⟨vs, h, hvs⟩ := cellsT_sound h
  split at h
  · rename_i z n b hi
    split at h
    · rename_i hlen
      split at h
      · rename_i s' hw
        refine ⟨s', h, ?_, St.wr_low hw⟩
        refine OpSim.of_skip fun φ w Own a hg hR hr => ?_
        have hv := ev_rel hg hr x
        rw [hx] at hv
        obtain ⟨l, hl, ha⟩ := hv.ptr_inv
        have hvy := hvs φ _ (ev_rel hg hr y)
        obtain ⟨w', k1, k2, k3⟩ := hR.wr (P := P) hl hw hvy
        refine ⟨φ, w', Own, ?_, Phi.le_refl _, k2, k3⟩
        have hn : (a.eval y).cells.size = n := by have := hvy.length; simp only [Array.length_toList] at this; omega
        have hrun : (Instr.storeAt t (a.eval x) (a.eval y)).run P w = .ok () w' := by
          rw [ha]
          simp [Instr.storeAt, Instr.sureAddr, storeVar, run_sizeOf hE hi, hn, k1]
        simpa only [execOp, ho] using run_u hrun
      · cases h
    · cases h
  · cases h
end
end Go.Proofs.YtckalckfihhldaaDoorF
