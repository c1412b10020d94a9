/- The abstract heap machine, part 8: slices that are made and appended to; conversions. -/
import Derived.Test.YtckalckfihhldaaDoorF7
import Derived.Laws.MakeOwn
set_option linter.unusedVariables false
set_option linter.unusedSimpArgs false
namespace Go.Proofs.YtckalckfihhldaaDoorF
open Go

section
variable {E : Env} {P : Program} {o : Oper} {g : Regs} {s s' : St} {v : Value} {r : Out × St}

theorem replicate_flatten_length {α : Type} (z : List α) (n : Nat) : (List.replicate n z).flatten.length = n * z.length := by
  induction n with
  | zero => simp
  | succ n ih => rw [List.replicate_succ, List.flatten_cons, List.length_append, ih, Nat.succ_mul]; omega
theorem replicate_flatten_get {α : Type} (z : List α) (hz : 0 < z.length) : ∀ (n i : Nat), i < n * z.length → (List.replicate n z).flatten[i]? = z[i % z.length]?
  | 0, i, h => by simp at h
  | n + 1, i, h => by
    rw [List.replicate_succ, List.flatten_cons, List.getElem?_append]
    by_cases hi : i < z.length
    · rw [if_pos hi, Nat.mod_eq_of_lt hi]
    · have e : (n + 1) * z.length = n * z.length + z.length := Nat.succ_mul n _
      rw [if_neg hi, replicate_flatten_get z hz n (i - z.length) (by omega)]
      congr 1
      exact (Nat.mod_eq_sub_mod (by omega)).symm

theorem made_eq (z : Array Value) (n : Nat) (hz : 0 < z.size) : ((Array.range (n * z.size)).map (z[· % z.size]!)).toList = (List.replicate n z.toList).flatten := by
  apply List.ext_getElem?
  intro i
  by_cases hi : i < n * z.size
  · have hm : i % z.size < z.size := Nat.mod_lt _ hz
    rw [replicate_flatten_get z.toList (by simpa using hz) n i (by simpa using hi)]
    simp [hi, hm, Array.getElem?_eq_getElem]
  · rw [List.getElem?_eq_none (by simp; omega), List.getElem?_eq_none (by rw [replicate_flatten_length]; simp; omega)]

theorem VL.all_one {φ : Phi} {l l' : List Value} (h : VL φ l l') (k : l.all oc = true) : ∀ v ∈ l', v.oneCell' = true :=
  fun v' hv' => h.one v' hv' fun v hx => List.all_eq_true.1 k v hx

theorem buildSlice_sim {t : TypeId} {n : Nat} {ps : Array (Nat × Operand)} {K : Value → St → Ans} (hE : E.Ok P) (ho : o.op = .buildSlice t n ps)
    (h : kbuildSlice E t n (ps.toList.map fun p => (p.1, ev E g p.2)) s K = some r) : ∃ v obj, K v (s.new obj) = some r ∧ AllocSim E P o g s.next obj v := by
  unfold kbuildSlice at h
  split at h
  · rename_i e hu
    split at h
    · rename_i zz sz b hi
      split at h
      · rename_i hc
        split at h
        · rename_i z hz
          obtain ⟨⟨zv, b', hzi, hzc, hzr⟩, hzf⟩ := zeroL_spec hE hz
          have hzl : z.length = sz := by rw [hi] at hzi; injection hzi with hzi; injection hzi with _ hzi; injection hzi with hzi; exact hzi.symm
          have hzs : zv.cells.size = sz := by rw [← hzl, ← hzc]; simp
          obtain ⟨cs2, h1, h2, h3⟩ := fillL_sim (place' := fun i => some (i * sz, sz)) (fun i off t' hp z2 n2 b2 hi2 => by
            injection hp with hp
            injection hp with e1 e2
            subst e1
            subst e2
            rw [hi] at hi2
            injection hi2 with hi2
            injection hi2 with _ hi2
            injection hi2 with hi2
            subst hi2
            rfl) h
          split at h1
          · rename_i hone
            refine ⟨_, _, h1, fun φ w a hg hr => ?_⟩
            have hzz : VL φ (List.replicate n z).flatten (List.replicate n z).flatten := VL.of_flat (by
              intro v hv
              obtain ⟨l, hl, hv⟩ := List.mem_flatten.1 hv
              rw [(List.mem_replicate.1 hl).2] at hv
              exact hzf v hv)
            obtain ⟨cs2', k1, k2⟩ := h3 φ _ _ (PL.of_ev (fun x => ev_rel hg hr x) ps.toList) hzz
            have hlen : cs2'.length = n * sz := by rw [← k2.length, h2, replicate_flatten_length, hzl]
            refine ⟨_, _, _, rfl, ?_, fits_row w s.next e cs2 cs2'.toArray sz n n (fun i v hv => by simpa using k2.get i v hv) (by simp [k2.length]) s.next (Nat.le_refl _) n (Nat.le_refl _) (Nat.le_refl _) (by simp [hlen])⟩
            have e1 : (ps.map fun (i, x) => (i, a.eval x)) = (ps.toList.map fun p => (p.1, a.eval p.2)).toArray := by
              apply Array.ext'
              simp
            have hbig : ¬ (n * sz > 2 ^ 24) := by omega
            have hrun : (Instr.buildSlice t n (ps.toList.map fun p => (p.1, a.eval p.2)).toArray).run P w = .ok (.slice (some ⟨w.heap.size, 0, none⟩) n n) (w.alloc (.cells cs2'.toArray e)) := by
              simp only [Instr.buildSlice, Sem.run_bind, run_underlying (hE.und _ _ hu), Result.andThen_ok, run_sizeOf hE hi]
              rw [if_neg hbig]
              by_cases hn : n * sz = 0
              · have hn0 : n = 0 := by rcases Nat.mul_eq_zero.1 hn with hh | hh <;> omega
                subst hn0
                simp only [List.replicate_zero, List.flatten_nil] at k1
                have e0 : (Array.map (fun x => (#[] : Array Value)[x % (#[] : Array Value).size]!) (Array.range (0 * sz))) = #[] := by simp [Array.range_zero']
                simp only [Sem.run_bind, Sem.run_pure, Result.andThen_ok, Nat.zero_mul, if_true]
                simp only [Nat.zero_mul] at e0
                rw [e0]
                simp [k1, newRow]
              · have e2 : ((Array.range (n * sz)).map (zv.cells[· % zv.cells.size]!)) = (List.replicate n z).flatten.toArray := by
                  apply Array.ext'
                  rw [← hzs, made_eq _ _ (by omega), hzc]
                simp only [Sem.run_bind, Sem.run_pure, Result.andThen_ok, if_neg hn, hzr, e2]
                simp [k1, newRow]
            have := run_v hrun
            simp only [execOp, ho]
            rw [e1]
            exact this
          · cases h1
        · cases h
      · cases h
    · cases h
  · cases h

theorem wrap_small {k : IntKind} {n : Int} (h0 : 0 ≤ n) (h1 : n ≤ 140737488355328) : IntKind.i64.wrap n = n := by
  simp [IntKind.wrap, IntKind.bits, IntKind.signed]
  omega

theorem makeSlice_sim {t : TypeId} {x y : Operand} {K : Value → St → Ans} (hE : E.Ok P) (ho : o.op = .makeSlice t x y) (h : kmakeSlice E t (ev E g x) (ev E g y) s K = some r) :
    ∃ v obj, K v (s.new obj) = some r ∧ AllocSim E P o g s.next obj v := by
  unfold kmakeSlice at h
  split at h
  · rename_i e hu
    split at h
    · rename_i zz sz bytes k n k' c hi hx hy
      split at h
      · rename_i hc
        obtain ⟨c0, c1, c2, c3, c4⟩ := hc
        split at h
        · rename_i z hz
          obtain ⟨⟨zv, b', hzi, hzc, hzr⟩, hzf⟩ := zeroL_spec hE hz
          split at h
          · rename_i hone
            refine ⟨_, _, h, fun φ w a hg hr => ?_⟩
            have hzl : z.length = sz := by rw [hi] at hzi; injection hzi with hzi; injection hzi with _ hzi; injection hzi with hzi; exact hzi.symm
            have hzs : zv.cells.size = sz := by rw [← hzl, ← hzc]; simp
            have hx' := ev_rel hg hr x
            rw [hx] at hx'
            have hy' := ev_rel hg hr y
            rw [hy] at hy'
            have hlen : (List.replicate c.toNat z).flatten.length = c.toNat * sz := by rw [replicate_flatten_length, hzl]
            have hzz : VL φ (List.replicate c.toNat z).flatten (List.replicate c.toNat z).flatten := VL.of_flat (by
              intro v hv
              obtain ⟨l, hl, hv⟩ := List.mem_flatten.1 hv
              rw [(List.mem_replicate.1 hl).2] at hv
              exact hzf v hv)
            refine ⟨_, _, _, rfl, ?_, fits_row w s.next e (List.replicate c.toNat z).flatten (List.replicate c.toNat z).flatten.toArray sz n.toNat c.toNat (fun i v hv => by simpa using hzz.get i v hv) (by simp) s.next (Nat.le_refl _) c.toNat (by omega) (Nat.le_refl _) (by simp [hlen])⟩
            obtain ⟨i0, q1, q2, q3, q4⟩ := hE.info _ _ _ _ hi
            obtain ⟨i1, r1, r2, r3, r4⟩ := hE.info _ _ _ _ hzi
            rw [q1] at r1
            injection r1 with r1
            subst r1
            have cb : (i0.bytes : Int) * c ≤ 281474976710656 := by rw [q4, Int.mul_comm]; omega
            have e2 : madeCells zv.cells (c.toNat * i0.size) = (List.replicate c.toNat z).flatten.toArray := by
              apply Array.ext'
              unfold madeCells
              rw [q3, ← hzs, made_eq _ _ (by omega), hzc]
            have hrun : (Instr.makeSlice t (a.eval x) (a.eval y)).run P w = .ok (.slice (some ⟨w.heap.size, 0, none⟩) n.toNat c.toNat) (w.alloc (.cells (List.replicate c.toNat z).flatten.toArray e)) := by
              rw [hx'.int_inv, hy'.int_inv, ← e2]
              exact run_make w t e i0 zv (hE.und _ _ hu) q1 r2 k k' n c c0 c1 cb (by omega)
            simpa only [execOp, ho] using run_v hrun
          · cases h
        · cases h
      · cases h
    · cases h
  · cases h

/-! ### append -/
theorem appended_spec (hE : E.Ok P) {u : TypeId} {sz m : Nat} {y : Value} {news : List Value} (h : appended E u sz y s = some (news, m)) {φ : Phi} {w : World} {Own : Nat → Prop} {y' : Value} (hR : R φ s w Own) (hy : V φ y y') (hl : news.length = m * sz) :
    ∃ d news', P.underlying u = some d ∧ (∀ k, d ≠ .int k) ∧ VL φ news news' ∧ (∀ w' : World, w'.heap = w.heap → (Builtin.lenOf y').run P w' = .ok m w' ∧ (Builtin.firstCells sz m y').run P w' = .ok news'.toArray w') := by
  unfold appended at h
  split at h
  · rename_i e hu
    injection h with h
    injection h with h1 h2
    subst h1
    subst h2
    refine ⟨_, [], hE.und _ _ hu, by simp, .nil, fun w' _ => ?_⟩
    rw [hy.nilslice_inv]
    simp [Builtin.lenOf, Builtin.firstCells]
  · rename_i e i off n c hu
    cases hs : s.seen i off (n * sz) with
    | none => rw [hs] at h; cases h
    | some l =>
      rw [hs] at h
      injection h with h
      injection h with h1 h2
      subst h1
      subst h2
      rcases hy.slice_inv with ⟨lc, c', hlc, _, _, _, rfl⟩ | ⟨lc, b, hlc, rfl, _, rfl⟩
      · obtain ⟨hlen, l', k1, k2⟩ := hR.seen hlc hs
        refine ⟨_, l', hE.und _ _ hu, by simp, k1, fun w' hw => ⟨by simp [Builtin.lenOf], ?_⟩⟩
        refine run_firstCells_some w' sz n _ n c' l' (by rw [← k1.length, hlen]) fun j v hv => ?_
        have := k2 j v hv
        simpa [World.cell?, hw] using this
      · obtain ⟨hlen, l', k1, k2⟩ := hR.seen hlc hs
        have hl0 : l' = [] := by
          have := k1.length
          simp only [Nat.zero_mul] at hlen
          cases l' with
          | nil => rfl
          | cons _ _ => simp at this; omega
        subst hl0
        refine ⟨_, [], hE.und _ _ hu, by simp, k1, fun w' hw => ⟨by simp [Builtin.lenOf], ?_⟩⟩
        exact run_firstCells_some w' sz 0 b 0 0 [] (by simp) (by simp)
  · rename_i b hu
    split at h
    · rename_i h1
      injection h with h
      injection h with h2 h3
      subst h2
      subst h3
      subst h1
      refine ⟨_, _, hE.und _ _ hu, by simp, VL.map_flat (fun x : UInt8 => Value.int .u8 x.toNat) (fun _ => rfl) b.data.toList, fun w' _ => ?_⟩
      rw [hy.string_inv]
      refine ⟨by simp [Builtin.lenOf], ?_⟩
      have e : b.extract 0 b.size = b := by
        apply ByteArray.ext
        rw [ByteArray.data_extract]
        show b.data.extract 0 b.data.size = b.data
        exact Array.extract_size
      simp only [Builtin.firstCells, e, Sem.run_pure]
      congr 1
      apply Array.ext'
      simp
    · cases h
  · cases h

theorem zeroCells_size (z : Array Value) (n : Nat) : (Builtin.zeroCells z n).size = n * z.size := by simp [Builtin.zeroCells]

/-- append in the room that is there -/
theorem run_append_room' {w : World} {ts : Array TypeId} {ty t u e : TypeId} {d : TypeDesc} {i : TypeInfo} {b : Addr} {n m c : Nat} {y : Value} {news : List Value} {w' : World} (h0 : ts[0]? = some t) (h1 : ts[1]? = some u) (hu : P.underlying u = some d)
    (hd : ∀ k, d ≠ .int k) (ht : P.underlying t = some (.slice e)) (hi : P.info? e = some i) (hlen : (Builtin.lenOf y).run P w = .ok m w) (hfc : (Builtin.firstCells i.size m y).run P w = .ok news.toArray w)
    (hroom : n + m ≤ c) (hst : (storeCells (b.add (n * i.size)) news).run P w = .ok () w') :
    (Builtin.append_ ts ty #[.slice (some b) n c, y]).run P w = .ok (.slice (some b) (n + m) c) w' := by
  have hdi : (match d with | .int _ => true | _ => false) = false := by cases d <;> first | rfl | exact absurd rfl (hd _)
  unfold Builtin.append_
  simp only [h0, h1, List.getElem?_toArray, List.getElem?_cons_zero, List.getElem?_cons_succ]
  simp only [Sem.run_bind, run_underlying ht, run_underlying hu, Result.andThen_ok, sizeOf, typeInfo, run_program, hi, Sem.run_pure, hdi, Bool.false_eq_true, if_false, hlen, if_pos hroom, Bool.not_false, if_true, hfc, List.toList_toArray, hst]

/-- append to a new row -/
theorem run_append_grow' {w : World} {ts : Array TypeId} {ty t u e : TypeId} {d : TypeDesc} {i : TypeInfo} {z : Value} {base : Option Addr} {n m c : Nat} {y : Value} {olds news : List Value} (h0 : ts[0]? = some t) (h1 : ts[1]? = some u) (hu : P.underlying u = some d)
    (hd : ∀ k, d ≠ .int k) (ht : P.underlying t = some (.slice e)) (hi : P.info? e = some i) (hz : i.zero = some z) (hlen : (Builtin.lenOf y).run P w = .ok m w)
    (hfc : (Builtin.firstCells i.size m y).run P w.drew = .ok news.toArray w.drew) (hfo : (Builtin.firstCells i.size n (.slice base n c)).run P w.drew = .ok olds.toArray w.drew)
    (hroom : c < n + m) (hfit : (n + m) * i.bytes ≤ 140737488355328) (h63 : n + m ≤ 140737488355328) :
    (Builtin.append_ ts ty #[.slice base n c, y]).run P w = .ok (.slice (some ⟨w.heap.size, 0, none⟩) (n + m) (grownCap w (n + m) c e))
      (w.drew.alloc (.cells (olds.toArray ++ news.toArray ++ Builtin.zeroCells z.cells (grownCap w (n + m) c e - (n + m))) e)) := by
  have hdi : (match d with | .int _ => true | _ => false) = false := by cases d <;> first | rfl | exact absurd rfl (hd _)
  have hn : ¬ (n + m ≤ c) := by omega
  have h48' : ¬ (Builtin.nextslicecap (n + m) c * i.bytes > 2 ^ 48) := by have := growslice_fits hroom hfit; omega
  have hI : IntKind.i64.max = 9223372036854775807 := rfl
  unfold Builtin.append_
  simp only [h0, h1, List.getElem?_toArray, List.getElem?_cons_zero, List.getElem?_cons_succ]
  simp only [Sem.run_bind, run_underlying ht, run_underlying hu, Result.andThen_ok, sizeOf, typeInfo, run_program, hi, Sem.run_pure, hdi, Bool.false_eq_true, if_false, hlen, if_neg hn, Bool.not_false, if_true]
  have hmax' : ¬ (((n + m : Nat) : Int) > IntKind.i64.max ∧ (False ∨ i.bytes = 0)) := by rw [hI]; omega
  rw [if_neg hmax']
  simp only [Sem.run_bind, typeInfo, run_program, Result.andThen_ok, hi, Sem.run_pure]
  rw [if_neg h48']
  have hf : (Question.appendCap (n + m) c e).forced = false := rfl
  simp only [Sem.run_bind, run_choose, hf, Bool.false_eq_true, if_false, Result.andThen_ok, typeInfo, run_program, hi, Sem.run_pure, run_askRoom, World.drew_eq, hfc, hfo, zeroValue, hz, newRow, run_newObj]
  rfl
end
end Go.Proofs.YtckalckfihhldaaDoorF
