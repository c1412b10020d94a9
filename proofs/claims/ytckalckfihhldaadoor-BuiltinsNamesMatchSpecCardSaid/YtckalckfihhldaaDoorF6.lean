/- The abstract heap machine, part 6: operations on addresses, fields, slices, strings. -/
import Derived.Test.YtckalckfihhldaaDoorF5
import Derived.Laws.Append
set_option linter.unusedVariables false
set_option linter.unusedSimpArgs false
namespace Go.Proofs.YtckalckfihhldaaDoorF
open Go

section
variable {E : Env} {P : Program} {o : Oper} {g : Regs} {s s' : St} {v : Value} {r : Out × St}

theorem run_sizeOf (hE : E.Ok P) {t : TypeId} {z : Option Value} {n b : Nat} (h : E.info t = some (z, n, b)) (w : World) : (sizeOf t).run P w = .ok n w := by
  obtain ⟨i, h1, _, h3, _⟩ := hE.info t z n b h
  simp [sizeOf, typeInfo, h1, h3]

theorem run_isAgg {t : TypeId} {d : TypeDesc} (h : P.underlying t = some d) (w : World) : (isAgg t).run P w = .ok (isAggD (some d)) w := by
  unfold isAgg
  rw [Sem.run_bind, run_underlying h]
  cases d <;> rfl

theorem fieldAddr_sim {t : TypeId} {x : Operand} {f : Nat} {K : Value → Ans} (hE : E.Ok P) (ho : o.op = .fieldAddr t x f) (h : kfieldAddr E t (ev E g x) f K = some r) :
    ∃ v, K v = some r ∧ PureSim E P o g v := by
  unfold kfieldAddr at h
  split at h
  · rename_i fs hu
    split at h
    · rename_i fd hf
      split at h
      · rename_i z sz b hi
        split at h
        · cases h
        · rename_i hsz
          split at h
          · rename_i blk off hx
            refine ⟨_, h, fun φ w a hg hr => ?_⟩
            have hv := ev_rel hg hr x
            rw [hx] at hv
            obtain ⟨l, hl, ha⟩ := hv.ptr_inv
            refine ⟨.pointer (some ⟨l.block, l.off + (off + fd.offset), none⟩), ?_, .ptr hl⟩
            have hrun : (Instr.fieldAt t (a.eval x) f).run P w = .ok (.pointer (some ⟨l.block, l.off + (off + fd.offset), none⟩)) w := by
              rw [ha]
              simp [Instr.fieldAt, run_underlying (hE.und _ _ hu), hf, Instr.sureAddr, fieldPlace, run_sizeOf hE hi, hsz, add_plain, Nat.add_assoc]
            simpa only [execOp, ho] using run_v hrun
          · cases h
      · cases h
    · cases h
  · cases h

theorem indexAddr_sim {t : TypeId} {x i : Operand} {K : Value → Ans} (hE : E.Ok P) (ho : o.op = .indexAddr t x i) (h : kindexAddr E t (ev E g x) (ev E g i) K = some r) :
    ∃ v, K v = some r ∧ PureSim E P o g v := by
  unfold kindexAddr at h
  split at h
  · rename_i k n hi
    split at h
    · rename_i e hu
      split at h
      · rename_i z sz b hinfo
        split at h
        · rename_i A len cap hx
          split at h
          · rename_i h0
            split at h
            · rename_i h1
              split at h
              · rename_i blk off
                refine ⟨_, h, fun φ w a hg hr => ?_⟩
                have hv := ev_rel hg hr x
                have hiv := ev_rel hg hr i
                rw [hx] at hv
                rw [hi] at hiv
                have hiv := hiv.int_inv
                rcases hv.slice_inv with ⟨l, c', hl, _, _, _, ha⟩ | ⟨l, b, hl, hn, _, ha⟩
                · refine ⟨.pointer (some ⟨l.block, l.off + (off + n.toNat * sz), none⟩), ?_, .ptr hl⟩
                  have hrun : (Instr.indexAt t (a.eval x) (a.eval i)).run P w = .ok (.pointer (some ⟨l.block, l.off + (off + n.toNat * sz), none⟩)) w := by
                    rw [ha, hiv]
                    simp [Instr.indexAt, asIntOf, run_underlying (hE.und _ _ hu), h0, h1, run_sizeOf hE hinfo, add_plain, Nat.add_assoc]
                  simpa only [execOp, ho] using run_v hrun
                · omega
              · cases h
            · cases h
          · cases h
        · cases h
      · cases h
    · rename_i len e hu
      split at h
      · rename_i z sz b hinfo
        split at h
        · rename_i blk off hx
          split at h
          · rename_i h0
            split at h
            · rename_i h1
              refine ⟨_, h, fun φ w a hg hr => ?_⟩
              have hv := ev_rel hg hr x
              have hiv := ev_rel hg hr i
              rw [hx] at hv
              rw [hi] at hiv
              have hiv := hiv.int_inv
              obtain ⟨l, hl, ha⟩ := hv.ptr_inv
              refine ⟨.pointer (some ⟨l.block, l.off + (off + n.toNat * sz), none⟩), ?_, .ptr hl⟩
              have hrun : (Instr.indexAt t (a.eval x) (a.eval i)).run P w = .ok (.pointer (some ⟨l.block, l.off + (off + n.toNat * sz), none⟩)) w := by
                rw [ha, hiv]
                simp [Instr.indexAt, asIntOf, run_underlying (hE.und _ _ hu), Instr.sureAddr, h0, h1, run_sizeOf hE hinfo, add_plain, Nat.add_assoc]
              simpa only [execOp, ho] using run_v hrun
            · cases h
          · cases h
        · cases h
      · cases h
    · cases h
  · cases h

theorem index_sim {t : TypeId} {x i : Operand} {K : Value → Ans} (hE : E.Ok P) (ho : o.op = .index t x i) (h : kindex E t (ev E g x) (ev E g i) K = some r) :
    ∃ v, K v = some r ∧ PureSim E P o g v := by
  unfold kindex at h
  split at h
  · rename_i k n hi
    split at h
    · rename_i b hx
      split at h
      · rename_i hu
        split at h
        · rename_i h0
          split at h
          · rename_i h1
            refine ⟨_, h, fun φ w a hg hr => ⟨_, ?_, .flat rfl⟩⟩
            have hv := ev_rel hg hr x
            have hiv := ev_rel hg hr i
            rw [hx] at hv
            rw [hi] at hiv
            have hrun : (Instr.index t (a.eval x) (a.eval i)).run P w = .ok (.int .u8 ((b[n.toNat]'h1).toNat)) w := by
              rw [hv.string_inv, hiv.int_inv]
              simp [Instr.index, asIntOf, run_underlying (hE.und _ _ hu), h0, h1]
            simpa only [execOp, ho] using run_v hrun
          · cases h
        · cases h
      · cases h
    · cases h
  · cases h

theorem field_sim {t : TypeId} {x : Operand} {f : Nat} {K : Value → Ans} (hE : E.Ok P) (ho : o.op = .field t x f) (h : kfield E t (ev E g x) f K = some r) :
    ∃ v, K v = some r ∧ PureSim E P o g v := by
  unfold kfield at h
  split at h
  · rename_i fs hu
    split at h
    · rename_i fd hf
      split at h
      · rename_i cs hx
        split at h
        · rename_i z sz b hi
          split at h
          · rename_i hle
            split at h
            · rename_i hagg
              refine ⟨_, h, fun φ w a hg hr => ?_⟩
              have hv := ev_rel hg hr x
              rw [hx] at hv
              obtain ⟨cs', ha, hcs⟩ := hv.agg_inv
              refine ⟨.agg ((cs'.toList.drop fd.offset).take sz).toArray, ?_, .agg (by simpa using (hcs.drop fd.offset).take sz)⟩
              have hrun : (Instr.field t (a.eval x) f).run P w = .ok (.agg ((cs'.toList.drop fd.offset).take sz).toArray) w := by
                rw [ha]
                cases hd : E.und fd.type with
                | none => rw [hd] at hagg; cases hagg
                | some d =>
                  rw [hd] at hagg
                  simp [Instr.field, run_underlying (hE.und _ _ hu), hf, asAgg, part, run_isAgg (hE.und _ _ hd), hagg, run_sizeOf hE hi]
                  apply Array.ext'
                  simp [List.extract_eq_take_drop]
              simpa only [execOp, ho] using run_v hrun
            · rename_i hagg
              split at h
              · rename_i d v rest hd hdrop
                refine ⟨_, h, fun φ w a hg hr => ?_⟩
                have hv := ev_rel hg hr x
                rw [hx] at hv
                obtain ⟨cs', ha, hcs⟩ := hv.agg_inv
                have hg0 : cs.toList[fd.offset]? = some v := by
                  have := congrArg (fun l => l[0]?) hdrop
                  simpa [List.getElem?_drop] using this
                obtain ⟨v', hv1, hv2⟩ := hcs.get _ _ hg0
                refine ⟨v', ?_, hv2⟩
                have hv1' : cs'[fd.offset]? = some v' := by simpa using hv1
                have hrun : (Instr.field t (a.eval x) f).run P w = .ok v' w := by
                  rw [ha]
                  rw [hd] at hagg
                  simp [Instr.field, run_underlying (hE.und _ _ hu), hf, asAgg, part, run_isAgg (hE.und _ _ hd), hagg, hv1']
                simpa only [execOp, ho] using run_v hrun
              · cases h
          · cases h
        · cases h
      · cases h
    · cases h
  · cases h

theorem len_sim {ts : Array TypeId} {t : TypeId} {x : Operand} {K : Value → Ans} (hE : E.Ok P) (ho : o.op = .call { callee := .builtin .len, args := #[x], argTypes := ts }) (ht : ts[0]? = some t) (h : klen E t (ev E g x) K = some r) :
    ∃ v, K v = some r ∧ PureSim E P o g v := by
  have fin : ∀ v, flat v = true → (∀ φ (a : Act) (w : World), V φ (ev E g x) (a.eval x) → (Builtin.len_ ts o.type #[a.eval x]).run P w = .ok v w) → PureSim E P o g v := by
    intro v hf hv
    refine fun φ w a hg hr => ⟨v, ?_, .flat hf⟩
    have := run_v (hv φ a w (ev_rel hg hr x))
    simp only [execOp, ho, resolve]
    simpa [invoke, builtin] using this
  unfold klen at h
  split at h
  · rename_i hu
    split at h
    · rename_i b hx
      refine ⟨_, h, fin _ rfl fun φ a w hv => ?_⟩
      rw [hx] at hv
      rw [hv.string_inv]
      simp [Builtin.len_, ht, run_underlying (hE.und _ _ hu), goInt]
    · cases h
  · rename_i e hu
    split at h
    · rename_i A n c hx
      refine ⟨_, h, fin _ rfl fun φ a w hv => ?_⟩
      rw [hx] at hv
      obtain ⟨A', c', ha, _⟩ := hv.slice_any
      rw [ha]
      simp [Builtin.len_, ht, run_underlying (hE.und _ _ hu), goInt]
    · cases h
  · cases h

theorem cap_sim {ts : Array TypeId} {t : TypeId} {x : Operand} {K : Value → Ans} (hE : E.Ok P) (ho : o.op = .call { callee := .builtin .cap, args := #[x], argTypes := ts }) (ht : ts[0]? = some t) (h : kcap E t (ev E g x) K = some r) :
    ∃ v, K v = some r ∧ PureSim E P o g v := by
  unfold kcap at h
  split at h
  · rename_i e hu
    split at h
    · rename_i hx
      refine ⟨_, h, fun φ w a hg hr => ⟨_, ?_, .flat rfl⟩⟩
      have hv := ev_rel hg hr x
      rw [hx] at hv
      have ha : a.eval x = .slice none 0 0 := by
        revert hv
        generalize a.eval x = y
        intro hv
        cases hv
        rfl
      have h2 : (Builtin.cap_ ts o.type #[a.eval x]).run P w = .ok (.int .i64 0) w := by
        rw [ha]
        simp [Builtin.cap_, ht, run_underlying (hE.und _ _ hu), goInt]
      have := run_v h2
      simp only [execOp, ho, resolve]
      simpa [invoke, builtin] using this
    · cases h
  · cases h

/-! ### Slice expressions -/
theorem kbound_spec {x : Option Operand} {d : Nat} {K : Int → Ans} (h : kbound (x.map (ev E g)) d K = some r) :
    ∃ n : Int, K n = some r ∧ ((x = none ∧ n = d) ∨ ∃ y k, x = some y ∧ ev E g y = .int k n) := by
  unfold kbound at h
  cases x with
  | none => exact ⟨d, h, .inl ⟨rfl, rfl⟩⟩
  | some y =>
    simp only [Option.map_some] at h
    split at h
    · rename_i k n hy; exact ⟨n, h, .inr ⟨y, k, rfl, hy⟩⟩
    · cases h

theorem run_bounds {φ : Phi} {a : Act} {isSlice : Bool} {len cap : Nat} {lo hi : Option Operand} {l h : Int} (w : World) (hev : ∀ x, V φ (ev E g x) (a.eval x))
    (hl : (lo = none ∧ l = (0 : Nat)) ∨ ∃ y k, lo = some y ∧ ev E g y = .int k l) (hh : (hi = none ∧ h = len) ∨ ∃ y k, hi = some y ∧ ev E g y = .int k h) (h0 : 0 ≤ l) (h1 : l ≤ h) (h2 : h ≤ cap) :
    (Instr.sliceBounds isSlice len cap (lo.map a.eval) (hi.map a.eval) none).run P w = .ok (l.toNat, h.toNat, cap) w := by
  have hB : ∀ (k : IntKind) (n : Int) (y : Nat) (code : BoundsCode), 0 ≤ n → n ≤ y → (Instr.sliceBound (.int k n) y code).run P w = .ok n.toNat w := by
    intro k n y code a1 a2
    simp [Instr.sliceBound, asIntOf, a1, a2]
  have hc : 0 ≤ h := by omega
  have ht : (h.toNat : Int) = h := by omega
  rcases hl with ⟨rfl, rfl⟩ | ⟨yl, kl, rfl, el⟩ <;> rcases hh with ⟨rfl, rfl⟩ | ⟨yh, kh, rfl, eh⟩
  · simp [Instr.sliceBounds]
  · have e1 := hev yh
    rw [eh] at e1
    simp [Instr.sliceBounds, e1.int_inv, hB kh h cap _ hc h2]
  · have e1 := hev yl
    rw [el] at e1
    have := hB kl l len .sliceB h0 h1
    simp [Instr.sliceBounds, e1.int_inv, this]
  · have e1 := hev yl
    rw [el] at e1
    have e2 := hev yh
    rw [eh] at e2
    have := hB kl l h.toNat .sliceB h0 (by omega)
    simp [Instr.sliceBounds, e1.int_inv, e2.int_inv, hB kh h cap _ hc h2, this]

theorem slice_sim {t : TypeId} {x : Operand} {lo hi mx : Option Operand} {K : Value → Ans} (hE : E.Ok P) (ho : o.op = .slice t x lo hi mx)
    (h : kslice E t (ev E g x) (lo.map (ev E g)) (hi.map (ev E g)) (mx.map (ev E g)) s K = some r) : ∃ v, K v = some r ∧ (E.und t = some .string → PureSim E P o g v) ∧ ∀ s2, Ext s s2 → RdSim E P o g s2 v := by
  unfold kslice at h
  split at h
  · rename_i b hx
    split at h
    · rename_i hu hmx
      have hmx' : mx = none := by cases mx <;> simp_all
      subst hmx'
      obtain ⟨l, h, hl⟩ := kbound_spec h
      obtain ⟨u, h, hh⟩ := kbound_spec h
      split at h
      · rename_i h0
        split at h
        · rename_i h1
          split at h
          · rename_i h2
            suffices hp : PureSim E P o g (.string (b.extract l.toNat u.toNat)) from ⟨_, h, fun _ => hp, fun _ _ => hp.rd⟩
            refine fun φ w a hg hr => ⟨_, ?_, .flat rfl⟩
            have hv := ev_rel hg hr x
            rw [hx] at hv
            have hb := run_bounds (P := P) (isSlice := false) w (fun x => ev_rel hg hr x) hl hh h0 h1 h2
            have hrun : (Instr.sliceAt t (a.eval x) (lo.map a.eval) (hi.map a.eval) (none : Option Value)).run P w = .ok (.string (b.extract l.toNat u.toNat)) w := by
              rw [hv.string_inv]
              simp [Instr.sliceAt, Instr.slice, run_underlying (hE.und _ _ hu), hb]
            simpa only [execOp, ho, Option.map_none] using run_v hrun
          · cases h
        · cases h
      · cases h
    · cases h
  · rename_i hx
    split at h
    · rename_i e hu hmx
      have hmx' : mx = none := by cases mx <;> simp_all
      subst hmx'
      split at h
      · rename_i q hinfo
        obtain ⟨z, sz, bb⟩ := q
        obtain ⟨l, k1, hl⟩ := kbound_spec h
        obtain ⟨u, k2, hh⟩ := kbound_spec k1
        clear k1 h
        split at k2
        · rename_i h0
          obtain ⟨hl0, hu0⟩ := h0
          subst hl0
          subst hu0
          refine ⟨_, k2, (fun hu' => by rw [hu] at hu'; cases hu'), fun s2 hx2 => ?_⟩
          refine fun φ w Own a hg hR hr => ⟨.slice none 0 0, ?_, .flat rfl⟩
          have hv := ev_rel hg hr x
          rw [hx] at hv
          have hb := run_bounds (P := P) (isSlice := true) (len := 0) (cap := 0) (l := 0) (h := 0) w (fun x => ev_rel hg hr x) hl hh (by omega) (by omega) (by omega)
          have hrun : (Instr.sliceAt t (a.eval x) (lo.map a.eval) (hi.map a.eval) (none : Option Value)).run P w = .ok (.slice none 0 0) w := by
            rw [hv.nilslice_inv]
            simp [Instr.sliceAt, Instr.slice, run_underlying (hE.und _ _ hu), hb, run_sizeOf hE hinfo]
          simpa only [execOp, ho, Option.map_none] using run_v hrun
        · cases k2
      · cases h
    · cases h
  · rename_i id off n c hx
    split at h
    · rename_i e hu hmx
      have hmx' : mx = none := by cases mx <;> simp_all
      subst hmx'
      split at h
      · rename_i z sz b rw_ hinfo hrow
        split at h
        · rename_i hesz
          obtain ⟨l, h, hl⟩ := kbound_spec h
          obtain ⟨u, h, hh⟩ := kbound_spec h
          split at h
          · rename_i h0
            split at h
            · rename_i h1
              split at h
              · rename_i h2
                refine ⟨_, h, (fun hu' => by rw [hu] at hu'; cases hu'), fun s2 hx2 => ?_⟩
                replace hrow := hx2.row hrow
                refine fun φ w Own a hg hR hr => ?_
                have hv := ev_rel hg hr x
                rw [hx] at hv
                rcases hv.slice_inv with ⟨lc, c', hlc, hn, hc, hcap, ha⟩ | ⟨lc, bb, hlc, hn, hc, ha⟩
                · have hb := run_bounds (P := P) (isSlice := true) (cap := c') w (fun x => ev_rel hg hr x) hl hh h0 h1 (by omega)
                  have he : lc.esz = 0 ∨ lc.esz = sz := by
                    obtain ⟨o1, h3, h4⟩ := hR.obj id lc hlc
                    unfold St.row? at hrow
                    rw [h3] at hrow
                    cases o1 with
                    | row r1 =>
                      injection hrow with hrow
                      subst hrow
                      cases hm : r1.mode with
                      | own => rw [ORel.own hm] at h4; rw [← h4.2.2.1]; exact hesz
                      | old => rw [ORel.old hm] at h4; rw [← h4.2.2.1]; exact hesz
                      | foreign => rw [ORel.foreign hm] at h4; exact .inl h4.2.1
                    | _ => cases hrow
                  by_cases hm : c' = l.toNat
                  · -- the whole capacity is cut away
                    subst hm
                    have hrun : (Instr.sliceAt t (a.eval x) (lo.map a.eval) (hi.map a.eval) (none : Option Value)).run P w = .ok (.slice (some ⟨lc.block, lc.off + off, none⟩) 0 0) w := by
                      rw [ha]
                      simp [Instr.sliceAt, Instr.slice, run_underlying (hE.und _ _ hu), hb, run_sizeOf hE hinfo]
                      omega
                    refine ⟨_, by simpa only [execOp, ho, Option.map_none] using run_v hrun, ?_⟩
                    have e1 : (u - l).toNat = 0 := by omega
                    have e2 : c - l.toNat = 0 := by omega
                    rw [e1, e2]
                    exact .slice0 hlc
                  · have hrun : (Instr.sliceAt t (a.eval x) (lo.map a.eval) (hi.map a.eval) (none : Option Value)).run P w =
                        .ok (.slice (some ⟨lc.block, lc.off + (off + l.toNat * sz), none⟩) (u - l).toNat (c' - l.toNat)) w := by
                      rw [ha]
                      simp [Instr.sliceAt, Instr.slice, run_underlying (hE.und _ _ hu), hb, run_sizeOf hE hinfo, hm, add_plain, Nat.add_assoc]
                      omega
                    refine ⟨_, by simpa only [execOp, ho, Option.map_none] using run_v hrun, .slice hlc (by omega) (by omega) ?_⟩
                    rcases he with he | he
                    · exact .inl he
                    · rcases hcap with hcap | hcap
                      · exact .inl hcap
                      · refine .inr ?_
                        rw [he] at hcap ⊢
                        have : l.toNat ≤ c' := by omega
                        have e3 : c' * sz = (c' - l.toNat) * sz + l.toNat * sz := by rw [← Nat.add_mul]; congr 1; omega
                        omega
                · subst hn
                  subst hc
                  have hl0 : l = 0 := by omega
                  have hu0 : u = 0 := by omega
                  subst hl0
                  subst hu0
                  have hb := run_bounds (P := P) (isSlice := true) (len := 0) (cap := 0) w (fun x => ev_rel hg hr x) hl hh (by omega) (by omega) (by omega)
                  have hrun : (Instr.sliceAt t (a.eval x) (lo.map a.eval) (hi.map a.eval) (none : Option Value)).run P w = .ok (.slice (some bb) 0 0) w := by
                    rw [ha]
                    simp [Instr.sliceAt, Instr.slice, run_underlying (hE.und _ _ hu), hb, run_sizeOf hE hinfo]
                  exact ⟨_, by simpa only [execOp, ho, Option.map_none] using run_v hrun, .slice0 hlc⟩
              · cases h
            · cases h
          · cases h
        · cases h
      · cases h
    · cases h
  · cases h
end
end Go.Proofs.YtckalckfihhldaaDoorF
