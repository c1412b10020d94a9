/- The abstract heap machine, part 19: slices that are built by append. -/
import Derived.Test.YtckalckfihhldaaDoorF18
set_option linter.unusedVariables false
set_option linter.unusedSimpArgs false
namespace Go.Proofs.YtckalckfihhldaaDoorF
open Go

/-- A slice of one's own, of these cells and no more. -/
def Bd (n : Nat) (X : List Nat) (s : St) (v : Value) (e : TypeId) (sz : Nat) (cs : List Value) : Prop :=
  (v = .slice none 0 0 ∧ cs = []) ∨ ∃ i r k c, v = .slice (some ⟨i, 0, none⟩) k c ∧ s.get i = some (.row r) ∧ r.mode = .own ∧ r.elem = e ∧ r.esz = sz ∧ r.cs = cs ∧ cs.length = k * sz ∧ i < s.next ∧ (n ≤ i ∨ i ∈ X) ∧ k ≤ c
theorem Bd.nil (n : Nat) (X : List Nat) (s : St) (e : TypeId) (sz : Nat) : Bd n X s (.slice none 0 0) e sz [] := .inl ⟨rfl, rfl⟩
theorem Bd.keep {n : Nat} {X : List Nat} {s s' : St} {v : Value} {e : TypeId} {sz : Nat} {cs : List Value} (h : Bd n X s v e sz cs) (k : Keep s.next [] s s') : Bd n X s' v e sz cs := by
  rcases h with h | ⟨i, r, k', c, h1, h2, h3, h4, h5, h6, h7, h8, h9⟩
  · exact .inl h
  · exact .inr ⟨i, r, k', c, h1, by rw [k.get i h8 (by simp)]; exact h2, h3, h4, h5, h6, h7, Nat.lt_of_lt_of_le h8 k.next, h9⟩
theorem Bd.rk {n : Nat} {X : List Nat} {s s' : St} {v : Value} {e : TypeId} {sz : Nat} {cs : List Value} (h : Bd n X s v e sz cs) (k : Rk s s') : Bd n X s' v e sz cs := by
  rcases h with h | ⟨i, r, k', c, h1, h2, h3, h4, h5, h6, h7, h8, h9⟩
  · exact .inl h
  · exact .inr ⟨i, r, k', c, h1, k.row i r h8 h2, h3, h4, h5, h6, h7, Nat.lt_of_lt_of_le h8 k.next, h9⟩
def isBx : AObj → Bool
  | .box .. => true
  | .siter .. => true
  | _ => false
theorem app_run {n : Nat} {X : List Nat} {s0 s : St} {L : List (Nat × AObj)} {v : Value} {e : TypeId} {sz bytes m : Nat} {cs news : List Value} (hC : Ctx n X s0 s L) (hL : ∀ p ∈ L, isBx p.2 = true) (hX : ∀ i ∈ X, i < n) (hB : Bd n X s v e sz cs)
    (h1 : news.length = m * sz) (h2 : 0 < sz) (h3 : news.all oc = true) (hb : ∀ k, cs.length = k * sz → (k + m) * bytes ≤ 140737488355328 ∧ k + m ≤ 140737488355328) :
    ∃ v' s', s.app v e sz bytes news m = some (v', s') ∧ Ctx n X s0 s' L ∧ Bd n X s' v' e sz (cs ++ news) ∧ s.next ≤ s'.next := by
  rcases hB with ⟨rfl, rfl⟩ | ⟨i, r, k, c, rfl, g1, g2, g3, g4, g5, g6, g7, g8, g9⟩
  · by_cases hm : m = 0
    · subst hm
      have : news = [] := List.length_eq_zero_iff.1 (by simpa using h1)
      subst this
      refine ⟨_, s, ?_, hC, .inl ⟨rfl, rfl⟩, Nat.le_refl _⟩
      unfold St.app
      rw [if_pos ⟨by simp, h2, rfl⟩]
      simp
    · have hb' := hb 0 (by simp)
      refine ⟨.slice (some ⟨s.next, 0, none⟩) m m, s.new (.row { elem := e, cs := news, mode := .own, root := s.next, stored := false, esz := sz }), ?_, ?_, ?_, by simp⟩
      · unfold St.app
        rw [if_pos ⟨h1, h2, h3⟩]
        simp only [hm, if_false]
        rw [if_pos ⟨by simpa using hb'.1, by simpa using hb'.2⟩]
      · have := hC.new hX (.row { elem := e, cs := news, mode := .own, root := s.next, stored := false, esz := sz })
        exact ⟨this.keep, this.le, fun q hq => this.obj q (List.mem_cons_of_mem _ hq), (List.nodup_cons.1 (by simpa using this.nodup)).2⟩
      · refine .inr ⟨s.next, _, m, m, rfl, by rw [St.get_new, if_pos rfl], rfl, rfl, rfl, by simp, by simpa using h1, by simp, .inl hC.le, Nat.le_refl _⟩
  · subst g5
    have hb' := hb k g6
    by_cases hm : m = 0
    · subst hm
      have : news = [] := List.length_eq_zero_iff.1 (by simpa using h1)
      subst this
      refine ⟨_, s, ?_, hC, .inr ⟨i, r, k, c, rfl, g1, g2, g3, g4, by simp, by simpa using g6, g7, g8, g9⟩, Nat.le_refl _⟩
      unfold St.app
      rw [if_pos ⟨by simp, h2, rfl⟩]
      simp
    · have hne : i ≠ s.next := by omega
      let s1 := ((s.put i (.row { r with mode := .old, cs := r.cs.take (0 + k * sz) })).new (.row { elem := e, cs := (r.cs.drop 0).take (k * sz) ++ news, mode := .own, root := r.root, stored := false, esz := sz })).wrote i
      have get1 : ∀ j, s1.get j = if j = s.next then some (.row { elem := e, cs := (r.cs.drop 0).take (k * sz) ++ news, mode := .own, root := r.root, stored := false, esz := sz }) else if j = i then some (.row { r with mode := .old, cs := r.cs.take (0 + k * sz) }) else s.get j := fun j => by
        show ((s.put i _).new _).get j = _
        rw [St.get_new, St.next_put, St.get_put]
      refine ⟨.slice (some ⟨s.next, 0, none⟩) (k + m) (k + m), s1, ?_, ?_, ?_, ?_⟩
      · unfold St.app
        rw [if_pos ⟨h1, h2, h3⟩]
        simp only [hm, if_false]
        rw [if_pos hb', g1]
        simp only [g2, g3, g4, g6, Nat.zero_add, true_and, if_true, Nat.le_refl]
        rw [g1]
        simp [s1]
      · have hlw : s1.low = min s.low i := rfl
        have hlb : s1.lowb = s.lowb := rfl
        refine ⟨⟨by have := hC.keep.next; simp [s1, St.wrote]; omega, fun j hj1 hj2 => ?_, by rw [hlb]; exact hC.keep.lowb, fun m k1 k2 k3 => by rw [hlw]; have := hC.keep.low m k1 k2 k3; exact (g8.elim (fun g => by omega) (fun g => by have := k2 i g; omega))⟩, by have := hC.le; simp [s1, St.wrote]; omega, fun p hp => ?_, hC.nodup⟩
        · rw [get1, if_neg (by have := hC.le; omega), if_neg, hC.keep.get j hj1 hj2]
          rintro rfl
          rcases g8 with h | h
          · omega
          · exact hj2 h
        · obtain ⟨a, b, d⟩ := hC.obj p hp
          refine ⟨?_, by simp [s1, St.wrote]; omega, d⟩
          rw [get1, if_neg (by omega), if_neg, a]
          intro hpi
          have := hL p hp
          rw [hpi, g1] at a
          injection a with a
          rw [← a] at this
          cases this
      · refine .inr ⟨s.next, _, k + m, k + m, rfl, by rw [get1, if_pos rfl], rfl, rfl, rfl, ?_, ?_, by simp [s1, St.wrote], .inl hC.le, Nat.le_refl _⟩
        · simp only [List.drop_zero]
          rw [List.take_of_length_le (by omega)]
        · rw [List.length_append, g6, h1, Nat.add_mul]
      · simp [s1, St.wrote]
theorem appended_row {E : Env} {u e : TypeId} {s : St} {i off k c sz : Nat} {o : AObj} (hu : E.und u = some (.slice e)) (hg : s.get i = some o) (ho : open_ o = true) (h : off + k * sz ≤ o.cells.length) :
    appended E u sz (.slice (some ⟨i, off, none⟩) k c) s = some ((o.cells.drop off).take (k * sz), k) := by
  unfold appended
  rw [hu]
  simp [St.seen, cells_of hg ho, h]
theorem appended_sl {E : Env} {u e : TypeId} {s : St} {A : Option Addr} {k c sz : Nat} {cs : List Value} (hu : E.und u = some (.slice e)) (h : Sl s A k c sz cs) : appended E u sz (.slice A k c) s = some (cs, k) := by
  rcases h with ⟨rfl, rfl, rfl, rfl⟩ | ⟨i, off, o, rfl, h1, h2, h3, h4, rfl, h6⟩
  · unfold appended
    rw [hu]
    rfl
  · exact appended_row hu h1 h2 h4
/-- What was built can be read. -/
theorem Bd.sl {n : Nat} {X : List Nat} {s : St} {v : Value} {e : TypeId} {sz : Nat} {cs : List Value} (h : Bd n X s v e sz cs) : ∃ A k c, v = .slice A k c ∧ Sl s A k c sz cs := by
  rcases h with ⟨rfl, rfl⟩ | ⟨i, r, k, c, rfl, g1, g2, g3, g4, g5, g6, g7, g8, g9⟩
  · exact ⟨none, 0, 0, rfl, .inl ⟨rfl, rfl, rfl, rfl⟩⟩
  · refine ⟨_, k, c, rfl, .inr ⟨i, 0, _, rfl, g1, by simp [open_, g2], g7, by simp [AObj.cells, g5, g6], ?_, g9⟩⟩
    simp only [AObj.cells, g5, List.drop_zero]
    rw [List.take_of_length_le (by omega)]
theorem Ev.kapp {E : Env} {u : TypeId} {y : Value} {n : Nat} {X : List Nat} {s0 s : St} {L : List (Nat × AObj)} {v : Value} {e : TypeId} {sz bytes m : Nat} {cs news : List Value} {K : Value → St → Ans} {Q : Out → St → Prop} (hC : Ctx n X s0 s L) (hL : ∀ p ∈ L, isBx p.2 = true) (hX : ∀ i ∈ X, i < n) (hB : Bd n X s v e sz cs)
    (hy : appended E u sz y s = some (news, m)) (h1 : news.length = m * sz) (h2 : 0 < sz) (h3 : news.all oc = true) (hb : ∀ k, cs.length = k * sz → (k + m) * bytes ≤ 140737488355328 ∧ k + m ≤ 140737488355328)
    (hK : ∀ v' s', Ctx n X s0 s' L → Bd n X s' v' e sz (cs ++ news) → s.next ≤ s'.next → Ev (K v' s') Q) : Ev (kapp E u sz bytes e v y s K) Q := by
  obtain ⟨v', s', a, b, c, d⟩ := app_run (bytes := bytes) hC hL hX hB h1 h2 h3 hb
  unfold Go.Proofs.YtckalckfihhldaaDoorF.kapp
  rw [hy]
  simp only [a]
  exact hK v' s' b c d
end Go.Proofs.YtckalckfihhldaaDoorF
