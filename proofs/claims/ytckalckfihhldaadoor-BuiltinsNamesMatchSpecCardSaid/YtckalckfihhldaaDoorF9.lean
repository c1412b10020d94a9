/- The abstract heap machine, part 9: append. -/
import Derived.Test.YtckalckfihhldaaDoorF8
import Derived.Lib.AppendZeros
set_option linter.unusedVariables false
set_option linter.unusedSimpArgs false
namespace Go.Proofs.YtckalckfihhldaaDoorF
open Go

section
variable {E : Env} {P : Program} {o : Oper} {g : Regs} {s s' : St} {v : Value} {r : Out × St}

/-- nothing is appended -/
theorem run_append_zero {w : World} {ts : Array TypeId} {ty t u e : TypeId} {d : TypeDesc} {i : TypeInfo} {base : Option Addr} {n c : Nat} {y : Value} (h0 : ts[0]? = some t) (h1 : ts[1]? = some u) (hu : P.underlying u = some d)
    (hd : ∀ k, d ≠ .int k) (ht : P.underlying t = some (.slice e)) (hi : P.info? e = some i) (hlen : (Builtin.lenOf y).run P w = .ok 0 w) (hfc : (Builtin.firstCells i.size 0 y).run P w = .ok #[] w) (hroom : n ≤ c) :
    (Builtin.append_ ts ty #[.slice base n c, y]).run P w = .ok (.slice base n c) w := by
  cases base with
  | some b =>
    have := run_append_room' (P := P) (w := w) (w' := w) (ty := ty) (b := b) (n := n) (m := 0) (c := c) (news := []) h0 h1 hu hd ht hi hlen hfc (by omega) rfl
    simpa using this
  | none =>
    have hdi : (match d with | .int _ => true | _ => false) = false := by cases d <;> first | rfl | exact absurd rfl (hd _)
    have hroom' : n + 0 ≤ c := by omega
    unfold Builtin.append_
    simp only [h0, h1, List.getElem?_toArray, List.getElem?_cons_zero, List.getElem?_cons_succ]
    simp only [Sem.run_bind, run_underlying ht, run_underlying hu, Result.andThen_ok, sizeOf, typeInfo, run_program, hi, Sem.run_pure, hdi, Bool.false_eq_true, if_false, hlen, if_pos hroom', Bool.not_false, if_true, hfc]
    rfl

/-- The new row of an append that finds no room. -/
theorem R.grown {φ : Phi} {w : World} {Own : Nat → Prop} (h : R φ s w Own) (e : TypeId) (z : Value) (sz n m c : Nat) (olds olds' news news' : List Value) (ho : VL φ olds olds') (hn : VL φ news news') (hol : olds.length = n * sz) (hnl : news.length = m * sz) (hz : z.cells.size = sz)
    (hroom : c < n + m) (root : Nat) (hr : root ≤ s.next) :
    ∃ φ' Own', Phi.le φ φ' ∧ R φ' (s.new (.row { elem := e, cs := olds ++ news, mode := .own, root := root, stored := false, esz := sz }))
      (w.drew.alloc (.cells (olds'.toArray ++ news'.toArray ++ Builtin.zeroCells z.cells (grownCap w (n + m) c e - (n + m))) e)) Own' ∧
      Fr w (w.drew.alloc (.cells (olds'.toArray ++ news'.toArray ++ Builtin.zeroCells z.cells (grownCap w (n + m) c e - (n + m))) e)) Own Own' ∧
      V φ' (.slice (some ⟨s.next, 0, none⟩) (n + m) (n + m)) (.slice (some ⟨w.heap.size, 0, none⟩) (n + m) (grownCap w (n + m) c e)) ∧ ∃ l, φ' = Phi.put φ s.next l := by
  have hge : n + m ≤ grownCap w (n + m) c e := by simp [grownCap, Question.cut]
  have h1 : R φ s w.drew Own := h.of_heap rfl
  have hlo := ho.length
  have hln := hn.length
  obtain ⟨φ', Own', p1, p2, p3, p4, p5⟩ := h1.newRow e (olds ++ news) (olds'.toArray ++ news'.toArray ++ Builtin.zeroCells z.cells (grownCap w (n + m) c e - (n + m))) sz (n + m) (n + m)
    (fun i v hv => by
      obtain ⟨v', q1, q2⟩ := (ho.append hn).get i v hv
      refine ⟨v', ?_, q2⟩
      have hi : i < (olds' ++ news').length := by
        rcases Nat.lt_or_ge i (olds' ++ news').length with hi | hi
        · exact hi
        · rw [List.getElem?_eq_none hi] at q1; cases q1
      rw [Array.getElem?_append_left (by simpa using hi), ← q1]
      simp [← List.getElem?_toArray])
    (by simp [zeroCells_size]; omega) root hr (grownCap w (n + m) c e) (Nat.le_refl _) hge
    (by
      simp only [Array.size_append, List.size_toArray, zeroCells_size, hz, ← hlo, ← hln, hol, hnl, ← Nat.add_mul]
      exact Nat.mul_le_mul_right _ (by omega))
  exact ⟨φ', Own', p1, p2, (Fr.drew w Own).trans p3, p4, p5⟩

theorem stir_own {i : Nat} {q r0 : Row} (h : s.get i = some (.row r0)) (hq : (s.stir r0.root).get i = some (.row q)) : q.mode = r0.mode ∧ q.elem = r0.elem ∧ q.root = r0.root ∧ q.cs = r0.cs ∧ q.esz = r0.esz := by
  rcases St.stir_get s r0.root i with hg | ⟨q', hq', hg⟩
  · rw [hg, h] at hq
    injection hq with hq
    injection hq with hq
    subst hq
    exact ⟨rfl, rfl, rfl, rfl, rfl⟩
  · rw [hg] at hq
    rw [h] at hq'
    injection hq with hq
    injection hq with hq
    injection hq' with hq'
    injection hq' with hq'
    subst hq
    subst hq'
    exact ⟨rfl, rfl, rfl, rfl, rfl⟩

theorem append_sim {ts : Array TypeId} {x y : Operand} {K : Value → St → Ans} (hE : E.Ok P) (ho : o.op = .call { callee := .builtin .append, args := #[x, y], argTypes := ts }) (h : kappend E ts (ev E g x) (ev E g y) s K = some r) :
    ∃ v s', K v s' = some r ∧ AppSim E P o g s v s' ∧ Low s s' := by
  have fin : ∀ v s', (∀ φ w Own (a : Act), Glob E φ → R φ s w Own → V φ (ev E g x) (a.eval x) → V φ (ev E g y) (a.eval y) →
      ∃ φ' w' Own' v', (Builtin.append_ ts o.type #[a.eval x, a.eval y]).run P w = .ok v' w' ∧ Phi.le φ φ' ∧ R φ' s' w' Own' ∧ Fr w w' Own Own' ∧ V φ' v v' ∧ ∀ p, Ph φ s p → Ph φ' s' p ∧ s'.get p = s.get p) → AppSim E P o g s v s' := by
    intro v s' hk
    refine AppSim.of_run fun φ w Own a hg hR hr => ?_
    obtain ⟨φ', w', Own', v', h1, h2⟩ := hk φ w Own a hg hR (ev_rel hg hr x) (ev_rel hg hr y)
    refine ⟨φ', w', Own', v', ?_, h2⟩
    have := run_v h1
    simp only [execOp, ho, resolve]
    simpa [invoke, builtin] using this
  unfold kappend at h
  split at h
  · rename_i t u h0 h1
    split at h
    · rename_i e hu
      split at h
      · rename_i z sz bytes hi
        split at h
        · rename_i news m hnews
          split at h
          · rename_i hz
            split at h
            · rename_i v s' happ
              refine ⟨v, s', h, ?_, St.app_low happ⟩
              refine fin v s' fun φ w Own a hg hR hx hy => ?_
              clear h fin
              obtain ⟨i0, q1, q2, q3, q4⟩ := hE.info _ _ _ _ hi
              subst q3
              subst q4
              have hut := hE.und _ _ hu
              unfold St.app at happ
              split at happ
              · rename_i hc
                obtain ⟨hnl, hsz, hone⟩ := hc
                obtain ⟨d, news', hd1, hd2, hd3, hd4⟩ := appended_spec hE hnews hR hy hnl
                have hone' := hd3.all_one hone
                split at happ
                · -- a nil slice
                  rename_i hxv
                  rw [hxv] at hx
                  split at happ
                  · rename_i hm
                    injection happ with happ
                    injection happ with e1 e2
                    subst e1
                    subst e2
                    subst hm
                    have hn0 : news' = [] := by have := hd3.length; cases news' with | nil => rfl | cons _ _ => simp [hnl] at this
                    subst hn0
                    refine ⟨φ, w, Own, .slice none 0 0, ?_, Phi.le_refl _, hR, Fr.refl w Own, ?_, fun p h => ⟨h, rfl⟩⟩
                    · rw [hx.nilslice_inv]
                      exact run_append_zero h0 h1 hd1 hd2 hut q1 (hd4 w rfl).1 (hd4 w rfl).2 (Nat.le_refl _)
                    · rw [hxv]; exact .flat rfl
                  · rename_i hm
                    split at happ
                    · rename_i hb
                      injection happ with happ
                      injection happ with e1 e2
                      subst e1
                      subst e2
                      have hrun := run_append_grow' (P := P) (w := w) (ty := o.type) (base := none) (n := 0) (m := m) (c := 0) (olds := []) (news := news') h0 h1 hd1 hd2 hut q1 q2 (hd4 w rfl).1 (hd4 w.drew rfl).2 (run_firstCells_none w.drew i0.size 0 0 0) (by omega) (by simpa using hb.1) (by simpa using hb.2)
                      obtain ⟨φ', Own', p1, p2, p3, p4, l5, e5⟩ := hR.grown e z i0.size 0 m 0 [] [] news news' .nil hd3 (by simp) hnl hz (by omega) s.next (Nat.le_refl _)
                      refine ⟨φ', _, Own', _, by rw [hx.nilslice_inv]; exact hrun, p1, ?_, p3, ?_, fun p hp => ?_⟩
                      · simpa using p2
                      · simpa using p4
                      · rw [e5]; exact hp.new hR.dom _ (by have := hp.lt; simp; omega) l5
                    · cases happ
                · -- a slice
                  rename_i id off n c hxv
                  rw [hxv] at hx
                  split at happ
                  · rename_i hm
                    injection happ with happ
                    injection happ with e1 e2
                    subst e1
                    subst e2
                    subst hm
                    have hn0 : news' = [] := by have := hd3.length; cases news' with | nil => rfl | cons _ _ => simp [hnl] at this
                    subst hn0
                    rw [hxv]
                    rcases hx.slice_inv with ⟨l, c', hl, k1, k2, k3, ha⟩ | ⟨l, b, hl, k1, k2, ha⟩
                    · refine ⟨φ, w, Own, _, by rw [ha]; exact run_append_zero h0 h1 hd1 hd2 hut q1 (hd4 w rfl).1 (hd4 w rfl).2 (by omega), Phi.le_refl _, hR, Fr.refl w Own, .slice hl k1 k2 k3, fun p h => ⟨h, rfl⟩⟩
                    · subst k1
                      subst k2
                      refine ⟨φ, w, Own, _, by rw [ha]; exact run_append_zero h0 h1 hd1 hd2 hut q1 (hd4 w rfl).1 (hd4 w rfl).2 (Nat.le_refl _), Phi.le_refl _, hR, Fr.refl w Own, .slice0 hl, fun p h => ⟨h, rfl⟩⟩
                  · rename_i hm
                    split at happ
                    · rename_i hb
                      split at happ
                      · rename_i r0 hget
                        dsimp only at happ
                        split at happ
                        · rename_i hc
                          obtain ⟨hmode, helem, hesz, hend⟩ := hc
                          -- the memory in which the line has been stirred, if need be
                          generalize hs1 : (if off + n * i0.size = r0.cs.length then s else s.stir r0.root) = s1 at happ
                          have hR1 : R φ s1 w Own := by rw [← hs1]; split; exact hR; exact hR.stir _
                          have hnext : s1.next = s.next := by rw [← hs1]; split; rfl; exact St.stir_next _ _
                          split at happ
                          · rename_i q hq
                            injection happ with happ
                            injection happ with e1 e2
                            subst e1
                            subst e2
                            have hqr : q.mode = r0.mode ∧ q.elem = r0.elem ∧ q.root = r0.root ∧ q.cs = r0.cs ∧ q.esz = r0.esz := by
                              rw [← hs1] at hq
                              split at hq
                              · rw [hget] at hq
                                injection hq with hq
                                injection hq with hq
                                subst hq
                                exact ⟨rfl, rfl, rfl, rfl, rfl⟩
                              · exact stir_own hget hq
                            obtain ⟨m1, m2, m3, m4, m5⟩ := hqr
                            have hfull : off + n * i0.size = q.cs.length ∨ (off + n * i0.size ≤ q.cs.length ∧ s1.calm q.root = false) := by
                              rw [m3, m4, ← hs1]
                              split
                              · rename_i hf; exact .inl hf
                              · exact .inr ⟨hend, St.stir_calm s r0.root⟩
                            obtain ⟨l, hl⟩ : ∃ l, φ id = some l := by
                              rcases hx.slice_inv with ⟨l, _, hl, _⟩ | ⟨l, _, hl, _⟩ <;> exact ⟨l, hl⟩
                            have hph : ∀ (l5 : Loc) (n5 : Nat) (cs5 cs6 : List Value) (p : Nat), Ph φ s p →
                                Ph (Phi.put φ s1.next l5) (((s1.put id (.row { q with mode := .old, cs := cs5 })).new (.row { elem := e, cs := cs6, mode := .own, root := r0.root, stored := false, esz := i0.size })).wrote n5) p ∧
                                (((s1.put id (.row { q with mode := .old, cs := cs5 })).new (.row { elem := e, cs := cs6, mode := .own, root := r0.root, stored := false, esz := i0.size })).wrote n5).get p = s.get p := by
                              intro l5 n5 cs5 cs6 p hp
                              have hr0 : r0.root ≠ p := hp.line id l r0 hl hget hmode
                              have k1 : Ph φ s1 p ∧ s1.get p = s.get p := by
                                rw [← hs1]
                                split
                                · exact ⟨hp, rfl⟩
                                · exact hp.stir hr0
                              have k2 := k1.1.retire (q := { q with mode := .old, cs := cs5 }) hl (by simp)
                              have k3 := k2.1.new hR1.dom { elem := e, cs := cs6, mode := .own, root := r0.root, stored := false, esz := i0.size } hr0 l5
                              exact ⟨⟨k3.1.lt, k3.1.no, k3.1.line⟩, k3.2.trans (k2.2.trans k1.2)⟩
                            obtain ⟨oo, g1, g2⟩ := hR1.obj id l hl
                            rw [hq] at g1
                            injection g1 with g1
                            subst g1
                            rw [ORel.own (m1.trans hmode)] at g2
                            obtain ⟨gown, groot, gesz, cc, cc1, cc2, cc3⟩ := g2
                            -- what stood in the slice
                            have hold : ((r0.cs.drop off).take (n * i0.size)).length = n * i0.size := by simp; omega
                            have hfits := cc3.fits
                            -- no room: a new row
                            have realloc : ∀ (A : Addr) (c' : Nat) (olds' : List Value), VL φ ((r0.cs.drop off).take (n * i0.size)) olds' → (∀ j v, olds'[j]? = some v → w.cell? (A.add j) = some v) → c' < n + m → a.eval x = .slice (some A) n c' →
                                ∃ φ' w' Own' v', (Builtin.append_ ts o.type #[a.eval x, a.eval y]).run P w = .ok v' w' ∧ Phi.le φ φ' ∧
                                  R φ' (((s1.put id (.row { q with mode := .old, cs := q.cs.take (off + n * i0.size) })).new (.row { elem := e, cs := (r0.cs.drop off).take (n * i0.size) ++ news, mode := .own, root := r0.root, stored := false, esz := i0.size })).wrote (min id r0.root)) w' Own' ∧ Fr w w' Own Own' ∧
                                  V φ' (.slice (some ⟨s1.next, 0, none⟩) (n + m) (n + m)) v' ∧ ∃ l, φ' = Phi.put φ s1.next l := by
                              intro A c' olds' ho1 ho2 hroom hax
                              have hol : olds'.length = n * i0.size := by rw [← ho1.length, hold]
                              have hrun := run_append_grow' (P := P) (w := w) (ty := o.type) (base := some A) (n := n) (m := m) (c := c') (olds := olds') (news := news') h0 h1 hd1 hd2 hut q1 q2 (hd4 w rfl).1 (hd4 w.drew rfl).2
                                (run_firstCells_some w.drew i0.size n A n c' olds' hol (by simpa using ho2)) hroom hb.1 hb.2
                              have hR2 := hR1.retire hl hq (m1.trans hmode) (off + n * i0.size)
                              obtain ⟨φ', Own', p1, p2, p3, p4, p5⟩ := hR2.grown e z i0.size n m c' _ olds' news news' ho1 hd3 hold hnl hz hroom r0.root (by rw [← m3]; simp; omega)
                              exact ⟨φ', _, Own', _, by rw [hax]; exact hrun, p1, p2.low _, p3, by simpa using p4, p5⟩
                            rcases hx.slice_inv with ⟨l2, c', hl2, k1, k2, k3, ha⟩ | ⟨l2, b, hl2, k1, k2, ha⟩
                            · rw [hl] at hl2
                              injection hl2 with hl2
                              subst hl2
                              have hk3 : l.off + off + c' * i0.size ≤ l.size := by
                                rcases k3 with k3 | k3
                                · rw [← gesz, m5, hesz] at k3; omega
                                · rwa [← gesz, m5, hesz] at k3
                              by_cases hroom : n + m ≤ c'
                              · -- in place
                                have hfit : l.off + off + n * i0.size + m * i0.size ≤ cc.size := by
                                  rw [cc2]
                                  have : (n + m) * i0.size ≤ c' * i0.size := Nat.mul_le_mul_right _ hroom
                                  rw [Nat.add_mul] at this
                                  omega
                                have hn' : news'.length = m * i0.size := by rw [← hd3.length, hnl]
                                have hst := run_storeCells_at (P := P) l.block (l.off + off + n * i0.size) q.elem news' 0 cc w cc1 (by omega) hone'
                                simp only [Nat.add_zero] at hst
                                have hrun := run_append_room' (P := P) (w := w) (ty := o.type) (b := ⟨l.block, l.off + off, none⟩) (n := n) (m := m) (c := c') (news := news') h0 h1 hd1 hd2 hut q1 (hd4 w rfl).1 (hd4 w rfl).2 hroom (by rw [add_plain]; exact hst)
                                refine ⟨_, _, Own, _, by rw [ha]; exact hrun, Phi.put_le ⟨l.block, l.off + off, l.size, l.esz⟩ hR1.fresh, ?_, (Turned.setRow _ _ _).fr gown, ?_, hph ⟨l.block, l.off + off, l.size, l.esz⟩ _ _ _⟩
                                · have hg := hR1.grow (l' := ⟨l.block, l.off + off, l.size, l.esz⟩) hl hq (m1.trans hmode) (off + n * i0.size) hfull (Turned.setRow w l.block _) cc (cc.toList.take (l.off + off + n * i0.size) ++ news' ++ cc.toList.drop (l.off + off + n * i0.size + news'.length)).toArray cc1 (setRow_heap w l.block cc _ _ _ cc1)
                                    (by simp; omega) (fun k hk => by
                                      rw [List.getElem?_toArray, List.append_assoc, List.getElem?_append_left (by simp; omega), List.getElem?_take, if_pos (by omega)]
                                      simp) ((r0.cs.drop off).take (n * i0.size) ++ news) rfl rfl rfl ?_ (by simp; omega)
                                  · have e3 : q.elem = e := m2.trans helem
                                    have e4 : q.root = r0.root := m3
                                    have e5 : q.esz = i0.size := m5.trans hesz
                                    have erow : ({ elem := q.elem, cs := (r0.cs.drop off).take (n * i0.size) ++ news, mode := .own, root := q.root, stored := false, esz := q.esz } : Row) = { elem := e, cs := (r0.cs.drop off).take (n * i0.size) ++ news, mode := .own, root := r0.root, stored := false, esz := i0.size } := by rw [e3, e4, e5]
                                    rw [erow] at hg
                                    exact hg.low _
                                  · refine ⟨by simp only [List.length_append, hold, hnl, List.size_toArray, List.length_take, List.length_drop, Array.length_toList]; omega, fun k v hv => ?_⟩
                                    rw [List.getElem?_append, hold] at hv
                                    simp only [List.getElem?_toArray, List.append_assoc]
                                    split at hv
                                    · rename_i hk
                                      rw [List.getElem?_take, if_pos hk, List.getElem?_drop] at hv
                                      rw [← m4] at hv
                                      obtain ⟨v', p1, p2⟩ := cc3.cell _ v hv
                                      refine ⟨v', ?_, p2⟩
                                      rw [List.getElem?_append_left (by simp; omega), List.getElem?_take, if_pos (by omega), ← p1]
                                      simp only [Array.getElem?_toList]
                                      congr 1
                                      omega
                                    · rename_i hk
                                      obtain ⟨v', p1, p2⟩ := hd3.get _ v hv
                                      refine ⟨v', ?_, p2⟩
                                      have hlt : k - n * i0.size < news'.length := by
                                        rcases Nat.lt_or_ge (k - n * i0.size) news'.length with hh | hh
                                        · exact hh
                                        · rw [List.getElem?_eq_none hh] at p1; cases p1
                                      rw [List.getElem?_append_right (by simp; omega), List.getElem?_append_left (by simp; omega), ← p1]
                                      congr 1
                                      simp
                                      omega
                                · rw [hnext]
                                  refine .slice (l := ⟨l.block, l.off + off, l.size, l.esz⟩) (Phi.put_same ..) (Nat.le_refl _) hroom (.inr ?_)
                                  rw [← gesz, m5, hesz]
                                  simpa using hk3
                              · obtain ⟨olds', p1, p2⟩ := hR1.cellsL hl ((r0.cs.drop off).take (n * i0.size)) off (fun j v hv => by
                                  rw [List.getElem?_take] at hv
                                  split at hv
                                  · rw [List.getElem?_drop] at hv
                                    unfold St.cell St.cells
                                    rw [hq]
                                    simp [m1, hmode, m4, hv]
                                  · cases hv)
                                obtain ⟨φ', w', Own', v', p0, p1, p2, p3, p4, l5, e5⟩ := realloc ⟨l.block, l.off + off, none⟩ c' olds' p1 p2 (by omega) ha
                                exact ⟨φ', w', Own', v', p0, p1, p2.low _, p3, p4, fun p hp => by rw [e5]; exact hph l5 _ _ _ p hp⟩
                            · subst k1
                              subst k2
                              obtain ⟨φ', w', Own', v', p0, p1, p2, p3, p4, l5, e5⟩ := realloc b 0 [] (by simp; exact .nil) (by simp) (by omega) ha
                              exact ⟨φ', w', Own', v', p0, p1, p2.low _, p3, p4, fun p hp => by rw [e5]; exact hph l5 _ _ _ p hp⟩
                          · cases happ
                        · cases happ
                      · cases happ
                    · cases happ
                · cases happ
              · cases happ
            · cases h
          · cases h
        · cases h
      · cases h
    · cases h
  · cases h

theorem appz_sim {ts : Array TypeId} {x y : Operand} {K : Value → St → Ans} (hE : E.Ok P) (ho : o.op = .call { callee := .builtin .append, args := #[x, y], argTypes := ts }) (h : kappz E ts (ev E g x) (ev E g y) s K = some r) :
    ∃ v s', K v s' = some r ∧ AppSim E P o g s v s' ∧ Low s s' := by
  unfold kappz at h
  split at h
  · rename_i t u h0 h1
    split at h
    · rename_i e kk k n hu hv hx hy
      split at h
      · rename_i zz sz bytes z hi hz
        split at h
        · rename_i hc
          obtain ⟨c1, c2, c3, c4, c5⟩ := hc
          refine ⟨_, _, h, ?_, Low.new _ _⟩
          refine AppSim.of_run fun φ w Own a hg hR hr => ?_
          have hx' := ev_rel hg hr x
          rw [hx] at hx'
          have hy' := ev_rel hg hr y
          rw [hy] at hy'
          obtain ⟨⟨zv, b', hzi, hzc, hzr⟩, hzf⟩ := zeroL_spec hE hz
          rw [hi] at hzi
          injection hzi with hzi
          injection hzi with e0 hzi
          injection hzi with e1 e2
          subst e0; subst e1; subst e2
          obtain ⟨i0, q1, q2, q3, q4⟩ := hE.info _ _ _ _ hi
          have hzs : zv.cells.size = z.length := by rw [← hzc]; simp
          have hl : (Builtin.zeroCells zv.cells n.toNat).toList = (List.replicate n.toNat z).flatten := by
            unfold Builtin.zeroCells
            rw [made_eq _ _ (by omega), hzc]
          have hzz : VL φ (List.replicate n.toNat z).flatten (List.replicate n.toNat z).flatten := VL.of_flat (by
            intro v hv
            obtain ⟨l, hl, hv⟩ := List.mem_flatten.1 hv
            rw [(List.mem_replicate.1 hl).2] at hv
            exact hzf v hv)
          have cb : n.toNat * i0.bytes ≤ 140737488355328 := by
            rw [q4]
            have e : ((n.toNat * bytes : Nat) : Int) = n * bytes := by rw [Int.natCast_mul, Int.toNat_of_nonneg (by omega)]
            omega
          have hts : ts = #[t, u] ∨ True := .inr trivial
          have hrun : (Builtin.append_ ts o.type #[a.eval x, a.eval y]).run P w = .ok (.slice (some ⟨w.heap.size, 0, none⟩) n.toNat (grownCap w n.toNat 0 e)) (w.drew.alloc (.cells (Builtin.zeroCells zv.cells n.toNat ++ Builtin.zeroCells zv.cells (grownCap w n.toNat 0 e - n.toNat)) e)) := by
            have := Go.Lib.run_append_nil_zeros (P := P) w t u o.type e i0 zv k kk (hE.und _ _ hu) (hE.und _ _ hv) q1 q2 n.toNat (by omega) (by omega) (by omega) (by omega)
            rw [Int.toNat_of_nonneg (by omega)] at this
            rw [hx'.nilslice_inv, hy'.int_inv, ← this]
            unfold Builtin.append_
            simp only [h0, h1, List.getElem?_toArray, List.getElem?_cons_zero, List.getElem?_cons_succ]
          obtain ⟨φ', Own', p1, p2, p3, p4, l5, e6⟩ := hR.grown e zv z.length 0 n.toNat 0 [] [] _ _ .nil hzz (by simp) (by rw [replicate_flatten_length]) hzs (by omega) s.next (Nat.le_refl _)
          have e5 : (Builtin.zeroCells zv.cells n.toNat ++ Builtin.zeroCells zv.cells (grownCap w n.toNat 0 e - n.toNat)) = (([] : List Value).toArray ++ ((List.replicate n.toNat z).flatten).toArray ++ Builtin.zeroCells zv.cells (grownCap w (0 + n.toNat) 0 e - (0 + n.toNat))) := by
            rw [Nat.zero_add, ← hl]
            simp
          refine ⟨φ', _, Own', _, ?_, p1, by simpa using p2, p3, by simpa using p4, fun p hp => by rw [e6]; exact hp.new hR.dom _ (by have := hp.lt; simp; omega) l5⟩
          have := run_v hrun
          simp only [execOp, ho, resolve]
          rw [e5] at this
          simpa [invoke, builtin] using this
        · cases h
      · cases h
    · cases h
  · cases h

/-! ### Letters of a string -/
theorem range_sim {t : TypeId} {x : Operand} {b : ByteArray} {id : Nat} (hE : E.Ok P) (ho : o.op = .range t x) (hu : E.und t = some .string) (hx : ev E g x = .string b) : AllocSim E P o g id (.siter b 0) (.pointer (some ⟨id, 0, none⟩)) := by
  intro φ w a hg hr
  have hv := ev_rel hg hr x
  rw [hx] at hv
  refine ⟨.stringIter b 0, ⟨w.heap.size, 0, 0, 0⟩, .pointer (some ⟨w.heap.size, 0, none⟩), rfl, ?_, fun ψ s2 Own' le hl ho' _ => ⟨⟨ho', heap_alloc_new w _, rfl⟩, .ptr (l := ⟨w.heap.size, 0, 0, 0⟩) hl⟩⟩
  have hrun : (Instr.range t (a.eval x)).run P w = .ok (.pointer (some ⟨w.heap.size, 0, none⟩)) (w.alloc (.stringIter b 0)) := by
    rw [hv.string_inv]
    simp [Instr.range, run_underlying (hE.und _ _ hu)]
  simpa only [execOp, ho] using run_v hrun
theorem next_sim {x : Operand} {str : Bool} {K : Value → St → Ans} (ho : o.op = .next x str) (h : knext (ev E g x) str s K = some r) :
    ∃ v s', K v s' = some r ∧ OpSim E P o g s v s' ∧ Low s s' := by
  unfold knext at h
  split at h
  · rename_i i o1 hx
    unfold nxt at h
    obtain rfl : o1 = 0 := by
      cases o1 with
      | zero => rfl
      | succ _ => cases h
    dsimp only at h
    split at h
    · rename_i b pos hg
      have at_ : ∀ φ w Own (a : Act), Glob E φ → R φ s w Own → Rr φ g a.tmps → ∃ l, φ i = some l ∧ a.eval x = .pointer (some ⟨l.block, 0, none⟩) ∧ l.off = 0 ∧ Own l.block ∧ w.heap[l.block]? = some (.stringIter b pos) := by
        intro φ w Own a hG hR hr
        have hv := ev_rel hG hr x
        rw [hx] at hv
        obtain ⟨l, hl, ha⟩ : ∃ l, φ i = some l ∧ a.eval x = .pointer (some ⟨l.block, l.off + 0, none⟩) := by
          generalize a.eval x = y at hv
          cases hv with
          | flat k => cases k
          | ptr k => exact ⟨_, k, rfl⟩
        obtain ⟨o', h1, h2⟩ := hR.obj i l hl
        rw [hg] at h1
        injection h1 with h1
        subst h1
        exact ⟨l, hl, by rw [ha, h2.2.2], h2.2.2, h2.1, h2.2.1⟩
      split at h
      · rename_i hp
        refine ⟨_, _, h, OpSim.of_run fun φ w Own a hG hR hr => ?_, ?_⟩
        · obtain ⟨l, hl, ha, hoff, hown, hw⟩ := at_ φ w Own a hG hR hr
          have hlt : l.block < w.heap.size := hR.lt i l hl
          have ht : Turned w { w with heap := w.heap.setIfInBounds l.block (.stringIter b (pos + (Utf8.decode b pos).2)) } l.block :=
            ⟨rfl, rfl, rfl, by simp, fun k hk => by simp [Array.getElem?_setIfInBounds, Ne.symm hk]⟩
          have hrun : (Instr.next (a.eval x) true o.type).run P w = .ok (.tuple #[.bool true, .int .i64 pos, .int .i32 (Utf8.decode b pos).1]) { w with heap := w.heap.setIfInBounds l.block (.stringIter b (pos + (Utf8.decode b pos).2)) } := by
            rw [ha]
            simp [Instr.next, getObj, setObj, Sem.run, hw, hp, goInt]
          refine ⟨φ, _, Own, _, by simpa only [execOp, ho] using run_v hrun, Phi.le_refl _, ?_, ht.fr hown, ?_⟩
          · have := hR.put hl hg (fun r h => by cases h) (fun r h => by cases h) rfl ht (o' := .siter b (pos + (Utf8.decode b pos).2)) ⟨hown, by simp [Array.getElem?_setIfInBounds, hlt], hoff⟩
            exact this.low _
          · exact .tuple (.cons (.flat rfl) (.cons (.flat rfl) (.cons (.flat rfl) .nil)))
        · have hnx : i < s.next ∨ True := .inr trivial
          refine ⟨by simp [St.wrote], by simp [St.wrote]; exact Nat.min_le_left _ _, fun j h1 h2 => ?_, fun t => t.put hg _, by simp [St.wrote, St.put], fun j h1 h2 hb => ?_⟩
          · rw [St.wrote_get, St.get_put, if_neg]
            intro e
            subst e
            simp only [St.wrote] at h2
            omega
          · rw [St.wrote_get, St.get_put]
            split
            · rename_i e
              subst e
              rcases hb with hb | hb
              · rw [hg] at hb; cases hb
              · rw [St.wrote_get, St.get_put, if_pos rfl] at hb; cases hb
            · rfl
      · rename_i hp
        refine ⟨_, _, h, OpSim.of_run fun φ w Own a hG hR hr => ?_, Low.refl _⟩
        obtain ⟨l, hl, ha, hoff, hown, hw⟩ := at_ φ w Own a hG hR hr
        have hrun : (Instr.next (a.eval x) true o.type).run P w = .ok (.tuple #[.bool false]) w := by
          rw [ha]
          simp [Instr.next, getObj, Sem.run, hw, hp]
        exact ⟨φ, w, Own, _, by simpa only [execOp, ho] using run_v hrun, Phi.le_refl _, hR, Fr.refl w Own, .tuple (.cons (.flat rfl) .nil)⟩
    · cases h
  · cases h

/-! ### A string made a slice of its letters -/
theorem runesFrom_eq (b : ByteArray) : ∀ (k i : Nat) (acc : Array Value), Conv.runesFrom b k i acc = acc ++ ((runesN b k i).map (Value.int .i32)).toArray
  | 0, i, acc => by simp [Conv.runesFrom, runesN]
  | k + 1, i, acc => by
    unfold Conv.runesFrom runesN
    split
    · dsimp only
      rw [runesFrom_eq b k]
      apply Array.ext'
      simp
    · simp
theorem run_runes {w : World} (e : TypeId) (b : ByteArray) : (Conv.stringToRunes e b).run P w = .ok (.slice (some ⟨w.heap.size, 0, none⟩) (runesOf b).length (grownCap w (runesOf b).length 0 e))
    (w.drew.alloc (.cells (((runesOf b).map (Value.int .i32)).toArray ++ Array.replicate (grownCap w (runesOf b).length 0 e - (runesOf b).length) (.int .i32 0)) e)) := by
  have hr : Conv.runesFrom b b.size 0 #[] = ((runesOf b).map (Value.int .i32)).toArray := by rw [runesFrom_eq]; simp [runesOf]
  have hn : (((runesOf b).map (Value.int .i32)).toArray).size = (runesOf b).length := by simp
  have hf : (Question.appendCap (runesOf b).length 0 e).forced = false := rfl
  unfold Conv.stringToRunes
  rw [hr]
  simp only [hn, Sem.run_bind, run_choose, hf, Bool.false_eq_true, if_false, Result.andThen_ok, World.drew_eq, newRow, run_newObj, Sem.run_pure]
  rfl
theorem ofstr_sim {src dst : TypeId} {x : Operand} {K : Value → St → Ans} (hE : E.Ok P) (ho : o.op = .convert src dst x) (h : kofstr E src dst (ev E g x) s K = some r) :
    ∃ v s', K v s' = some r ∧ OpSim E P o g s v s' ∧ Low s s' := by
  unfold kofstr at h
  split at h
  · rename_i b hx
    split at h
    · rename_i e hs hd
      split at h
      · rename_i he
        refine ⟨_, _, h, OpSim.of_run fun φ w Own a hG hR hr => ?_, Low.new _ _⟩
        have hv := ev_rel hG hr x
        rw [hx] at hv
        have hge := grownCap_ge w (runesOf b).length 0 e
        have hrun : (convert src dst (a.eval x)).run P w = .ok (.slice (some ⟨w.heap.size, 0, none⟩) (runesOf b).length (grownCap w (runesOf b).length 0 e))
            (w.drew.alloc (.cells (((runesOf b).map (Value.int .i32)).toArray ++ Array.replicate (grownCap w (runesOf b).length 0 e - (runesOf b).length) (.int .i32 0)) e)) := by
          rw [hv.string_inv]
          unfold convert
          simp only [Sem.run_bind, run_underlying (hE.und _ _ hs), run_underlying (hE.und _ _ hd), run_underlying (hE.und _ _ he), Result.andThen_ok]
          exact run_runes e b
        have h1 : R φ s w.drew Own := hR.of_heap rfl
        obtain ⟨φ', Own', p1, p2, p3, p4, -⟩ := h1.newRow e ((runesOf b).map (Value.int .i32)) (((runesOf b).map (Value.int .i32)).toArray ++ Array.replicate (grownCap w (runesOf b).length 0 e - (runesOf b).length) (.int .i32 0)) 1 (runesOf b).length (runesOf b).length
          (fun i v hv => by
            refine ⟨v, ?_, ?_⟩
            · have hi : i < (runesOf b).length := by
                rcases Nat.lt_or_ge i (runesOf b).length with hi | hi
                · exact hi
                · rw [List.getElem?_eq_none (by simpa using hi)] at hv; cases hv
              rw [Array.getElem?_append_left (by simpa using hi), ← hv]
              simp [← List.getElem?_toArray]
            · obtain ⟨y, _, rfl⟩ := List.mem_map.1 (List.mem_of_getElem? hv)
              exact .flat rfl)
          (by simp) s.next (Nat.le_refl _) (grownCap w (runesOf b).length 0 e) (Nat.le_refl _) hge
          (by simp; omega)
        have hk : (execOp a.eval o).run P w = .ok (.value (.slice (some ⟨w.heap.size, 0, none⟩) (runesOf b).length (grownCap w (runesOf b).length 0 e)))
            (w.drew.alloc (.cells (((runesOf b).map (Value.int .i32)).toArray ++ Array.replicate (grownCap w (runesOf b).length 0 e - (runesOf b).length) (.int .i32 0)) e)) := by simpa only [execOp, ho] using run_v hrun
        exact ⟨φ', _, Own', _, hk, p1, p2, (Fr.drew w Own).trans p3, p4⟩
      · cases h
    · cases h
  · cases h
end
end Go.Proofs.YtckalckfihhldaaDoorF
