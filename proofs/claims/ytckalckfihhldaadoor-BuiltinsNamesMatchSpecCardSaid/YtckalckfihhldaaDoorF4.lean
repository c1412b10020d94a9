/- The abstract heap machine, part 4: shapes, loads and stores are sound. -/
import Derived.Test.YtckalckfihhldaaDoorF3
set_option linter.unusedVariables false
set_option linter.unusedSimpArgs false
namespace Go.Proofs.YtckalckfihhldaaDoorF
open Go

theorem add_plain (b o j : Nat) : (⟨b, o, none⟩ : Addr).add j = ⟨b, o + j, none⟩ := by
  unfold Addr.add
  split <;> simp_all

/-! ### 1. Shapes -/
section
variable {α : Type} {r : α}
theorem shape1_sound {k : CK} {v : Value} {K : Value → Option α} (h : shape1 k v K = some r) : K v = some r := by
  cases k <;> unfold shape1 at h <;> (try dsimp only at h)
  · split at h <;> first | exact h | cases h
  · split at h
    · split at h
      · rename_i e; subst e; exact h
      · cases h
    · cases h
  · split at h <;> first | exact h | cases h
  · split at h <;> first | exact h | cases h
  · split at h <;> first | exact h | cases h
  · exact h
theorem shapeL_sound : ∀ {ks : List CK} {vs : List Value} {K : List Value → Option α}, shapeL ks vs K = some r → K vs = some r
  | [], vs, K, h => by
    unfold shapeL at h
    split at h
    · exact h
    · cases h
  | k :: ks, vs, K, h => by
    unfold shapeL at h
    split at h
    · cases h
    · exact shapeL_sound (K := fun l => K (_ :: l)) (shape1_sound h)
theorem shapeL_length : ∀ {ks : List CK} {vs : List Value} {K : List Value → Option α}, shapeL ks vs K = some r → vs.length = ks.length
  | [], vs, K, h => by
    unfold shapeL at h
    split at h
    · rfl
    · cases h
  | k :: ks, vs, K, h => by
    unfold shapeL at h
    split at h
    · cases h
    · simpa using shapeL_length (shape1_sound h)
theorem shapeT_sound {E : Env} {t : TypeId} {v : Value} {K : Value → Option α} (h : shapeT E t v K = some r) : K v = some r := by
  unfold shapeT at h
  split at h
  · split at h
    · simpa using shapeL_sound h
    · cases h
  · exact shape1_sound h
theorem shapeTs_sound {E : Env} : ∀ {ts : List TypeId} {vs : List Value} {K : List Value → Option α}, shapeTs E ts vs K = some r → K vs = some r
  | [], vs, K, h => by
    unfold shapeTs at h
    split at h
    · exact h
    · cases h
  | k :: ks, vs, K, h => by
    unfold shapeTs at h
    split at h
    · cases h
    · exact shapeTs_sound (K := fun l => K (_ :: l)) (shapeT_sound h)
theorem shapeR_sound {E : Env} {t : TypeId} {v : Value} {K : Value → Option α} (h : shapeR E t v K = some r) : K v = some r := by
  unfold shapeR at h
  split at h
  · split at h
    · simpa using shapeTs_sound h
    · cases h
  · exact shapeT_sound h
theorem loadL_sound {s : St} {i : Nat} : ∀ {ks : List CK} {off : Nat} {K : List Value → Option α}, loadL s i off ks K = some r →
    ∃ vs, vs.length = ks.length ∧ (∀ j v, vs[j]? = some v → s.cell i (off + j) = some v) ∧ K vs = some r
  | [], off, K, h => ⟨[], rfl, by simp, h⟩
  | k :: ks, off, K, h => by
    unfold loadL at h
    split at h
    · cases h
    · rename_i v hv
      obtain ⟨vs, h1, h2, h3⟩ := loadL_sound (shape1_sound h)
      refine ⟨v :: vs, by simp [h1], fun j u hu => ?_, h3⟩
      cases j with
      | zero => simp at hu; subst hu; exact hv
      | succ j => have := h2 j u (by simpa using hu); rw [← this]; congr 1; omega
end

/-! ### 2. Memory -/
/-- What was there and was not written is as it was. -/
structure Low (s s' : St) : Prop where
  next : s.next ≤ s'.next
  low : s'.low ≤ s.low
  same : ∀ i, i < s.next → i < s'.low → s'.get i = s.get i
  top : s.Top → s'.Top
  lowb : s'.lowb ≤ s.lowb
  box : ∀ i, i < s.next → i < s'.lowb → (isB (s.get i) = true ∨ isB (s'.get i) = true) → s'.get i = s.get i
theorem Low.refl (s : St) : Low s s := ⟨Nat.le_refl _, Nat.le_refl _, fun _ _ _ => rfl, id, Nat.le_refl _, fun _ _ _ _ => rfl⟩
theorem Low.trans {a b c : St} (h : Low a b) (k : Low b c) : Low a c :=
  ⟨Nat.le_trans h.next k.next, Nat.le_trans k.low h.low, fun i h1 h2 => (k.same i (Nat.lt_of_lt_of_le h1 h.next) h2).trans (h.same i h1 (Nat.lt_of_lt_of_le h2 k.low)), fun t => k.top (h.top t), Nat.le_trans k.lowb h.lowb,
   fun i h1 h2 hb => by
    have hk := k.box i (Nat.lt_of_lt_of_le h1 h.next) h2
    have hh := h.box i h1 (Nat.lt_of_lt_of_le h2 k.lowb)
    rcases hb with hb | hb
    · have e1 := hh (.inl hb)
      rw [hk (.inl (by rw [e1]; exact hb)), e1]
    · have e1 := hk (.inr hb)
      rw [e1, hh (.inr (by rw [← e1]; exact hb))]⟩
theorem Low.new (s : St) (o : AObj) : Low s (s.new o) := ⟨by simp, Nat.le_refl _, fun i h _ => by rw [St.get_new, if_neg (by omega)], fun t => t.new o, Nat.le_refl _, fun i h _ _ => by rw [St.get_new, if_neg (by omega)]⟩
theorem St.stir_get_ne {s : St} {root j : Nat} (h : j ≠ root) : (s.stir root).get j = s.get j := by
  unfold St.stir
  split
  · rw [St.get_put, if_neg h]
  · rfl
theorem St.stir_low (s : St) (root : Nat) : (s.stir root).low = s.low := by unfold St.stir; split <;> rfl
theorem St.stir_lowb (s : St) (root : Nat) : (s.stir root).lowb = s.lowb := by unfold St.stir; split <;> rfl
theorem St.stir_box (s : St) (root i : Nat) (h : isB (s.get i) = true ∨ isB ((s.stir root).get i) = true) : (s.stir root).get i = s.get i := by
  rcases St.stir_get s root i with e | ⟨q, e1, e2⟩
  · exact e
  · rw [e1, e2] at h; simp [isB] at h
theorem St.wrote_get (s : St) (i j : Nat) : (s.wrote i).get j = s.get j := rfl
theorem St.wroteB_get (s : St) (i j : Nat) : (s.wroteB i).get j = s.get j := rfl
theorem St.wr_low {s s' : St} {i off : Nat} {vs : List Value} (h : s.wr i off vs = some s') : Low s s' := by
  unfold St.wr at h
  split at h
  · rename_i hg
    split at h
    · injection h with h
      subst h
      refine ⟨Nat.le_refl _, Nat.min_le_left _ _, fun j h1 h2 => ?_, fun t => t.put hg _, Nat.min_le_left _ _, fun j h1 h2 _ => ?_⟩
      · have : j < i := Nat.lt_of_lt_of_le h2 (Nat.min_le_right _ _)
        rw [St.wroteB_get, St.get_put, if_neg (by omega)]
      · have : j < i := Nat.lt_of_lt_of_le h2 (Nat.min_le_right _ _)
        rw [St.wroteB_get, St.get_put, if_neg (by omega)]
    · cases h
  · rename_i r hr
    split at h
    · split at h
      · rename_i q hq
        injection h with h
        subst h
        refine ⟨by simp [St.wrote, St.stir_next], by simp only [St.wrote, St.put, St.stir_low]; exact Nat.min_le_left _ _, fun j h1 h2 => ?_, fun t => (t.stir _).put hq _, by simp [St.wrote, St.put, St.stir_lowb], fun j h1 h2 hb => ?_⟩
        · have h3 : j < min i r.root := Nat.lt_of_lt_of_le h2 (Nat.min_le_right _ _)
          rw [St.wrote_get, St.get_put, if_neg (by omega), St.stir_get_ne (by omega)]
        · rw [St.wrote_get, St.get_put] at hb ⊢
          split
          · rename_i e
            subst e
            rw [hr, if_pos rfl] at hb
            simp [isB] at hb
          · rename_i e
            rw [if_neg e] at hb
            exact St.stir_box _ _ _ hb
      · cases h
    · cases h
  · cases h
theorem St.app_low {s s' : St} {sl v : Value} {e : TypeId} {size bytes m : Nat} {news : List Value} (h : s.app sl e size bytes news m = some (v, s')) : Low s s' := by
  unfold St.app at h
  split at h
  · split at h
    · split at h
      · injection h with h; injection h with _ h; subst h; exact Low.refl _
      · split at h
        · injection h with h; injection h with _ h; subst h; exact Low.new _ _
        · cases h
    · split at h
      · injection h with h; injection h with _ h; subst h; exact Low.refl _
      · split at h
        · split at h
          · rename_i i _ _ _ _ r hr
            dsimp only at h
            split at h
            · generalize hs1 : (if _ = r.cs.length then s else s.stir r.root) = s1 at h
              have hn : s1.next = s.next ∧ s1.low = s.low ∧ (∀ j, j ≠ r.root → s1.get j = s.get j) ∧ (s.Top → s1.Top) ∧ s1.lowb = s.lowb ∧ (∀ j, (isB (s.get j) = true ∨ isB (s1.get j) = true) → s1.get j = s.get j) := by
                rw [← hs1]
                split
                · exact ⟨rfl, rfl, fun _ _ => rfl, id, rfl, fun _ _ => rfl⟩
                · exact ⟨St.stir_next _ _, St.stir_low _ _, fun j hj => St.stir_get_ne hj, fun t => t.stir _, St.stir_lowb _ _, fun j hb => St.stir_box _ _ _ hb⟩
              split at h
              · rename_i q hq
                injection h with h
                injection h with _ h
                subst h
                refine ⟨by simp [St.wrote, hn.1], by simp only [St.wrote, St.new, St.put, hn.2.1]; exact Nat.min_le_left _ _, fun j h1 h2 => ?_, fun t => ((hn.2.2.2.1 t).put hq _).new _, by simp [St.wrote, St.new, St.put, hn.2.2.2.2.1], fun j h1 h2 hb => ?_⟩
                · have h3 := Nat.lt_of_lt_of_le h2 (Nat.min_le_right _ _)
                  have h4 : s1.get j = s.get j := by
                    split at h3
                    · rename_i he
                      rw [if_pos he] at hs1
                      rw [← hs1]
                    · exact hn.2.2.1 j (by omega)
                  rw [St.wrote_get, St.get_new, if_neg (by simp [hn.1]; omega), St.get_put, if_neg (by split at h3 <;> omega), h4]
                · rw [St.wrote_get, St.get_new, if_neg (by simp [hn.1]; omega), St.get_put] at hb ⊢
                  split
                  · rename_i e
                    rw [if_pos e, e, hr] at hb
                    simp [isB] at hb
                  · rename_i e
                    rw [if_neg e] at hb
                    exact hn.2.2.2.2.2 j hb
              · cases h
            · cases h
          · cases h
        · cases h
    · cases h
  · cases h
/-- More objects, the others as they are. -/
structure Ext (s s2 : St) : Prop where
  next : s.next ≤ s2.next
  get : ∀ i o, s.get i = some o → s2.get i = some o
theorem Ext.refl (s : St) : Ext s s := ⟨Nat.le_refl _, fun _ _ h => h⟩
theorem Ext.trans {a b c : St} (h : Ext a b) (k : Ext b c) : Ext a c := ⟨Nat.le_trans h.next k.next, fun i o e => k.get i o (h.get i o e)⟩
theorem Ext.new {s : St} (h : s.Top) (o : AObj) : Ext s (s.new o) := ⟨by simp, fun i o' e => by rw [St.get_new, if_neg (by have := h.lt e; omega)]; exact e⟩
theorem Ext.calm {s s2 : St} (h : Ext s s2) {root : Nat} (k : s.calm root = true) : s2.calm root = true := by
  unfold St.calm at k ⊢
  split at k
  · rename_i r hr; rw [h.get _ _ hr]; exact k
  · cases k
theorem Ext.cells {s s2 : St} (h : Ext s s2) {i : Nat} {cs : List Value} (k : s.cells i = some cs) : s2.cells i = some cs := by
  unfold St.cells at k ⊢
  split at k
  · rename_i hg; rw [h.get _ _ hg]; exact k
  · rename_i r hg
    rw [h.get _ _ hg]
    dsimp only
    split at k
    · rename_i hm
      split at k
      · rename_i hc; simp only [hm, h.calm hc]; exact k
      · cases k
    · exact k
  · cases k
theorem Ext.cell {s s2 : St} (h : Ext s s2) {i off : Nat} {v : Value} (k : s.cell i off = some v) : s2.cell i off = some v := by
  unfold St.cell at k ⊢
  cases hc : s.cells i with
  | none => rw [hc] at k; cases k
  | some cs => rw [hc] at k; rw [h.cells hc]; exact k
theorem Ext.seen {s s2 : St} (h : Ext s s2) {i off n : Nat} {vs : List Value} (k : s.seen i off n = some vs) : s2.seen i off n = some vs := by
  unfold St.seen at k ⊢
  cases hc : s.cells i with
  | none => rw [hc] at k; cases k
  | some cs => rw [hc] at k; rw [h.cells hc]; exact k
theorem Ext.row {s s2 : St} (h : Ext s s2) {i : Nat} {r : Row} (k : s.row? i = some r) : s2.row? i = some r := by
  unfold St.row? at k ⊢
  split at k
  · rename_i hg; rw [h.get _ _ hg]; exact k
  · cases k
theorem St.cell_eq {s : St} {i off : Nat} {v : Value} (h : s.cell i off = some v) : ∃ cs, s.cells i = some cs ∧ cs[off]? = some v := by
  unfold St.cell at h
  cases hc : s.cells i with
  | none => rw [hc] at h; cases h
  | some cs => rw [hc] at h; exact ⟨cs, rfl, h⟩

section
variable {φ : Phi} {s : St} {w : World} {Own : Nat → Prop}
/-- What can be read of an object lies in the memory. -/
theorem R.cells (h : R φ s w Own) {i : Nat} {l : Loc} {cs : List Value} (hi : φ i = some l) (hc : s.cells i = some cs) :
    ∀ (k : Nat) (v : Value), cs[k]? = some v → ∃ v', w.cell? ⟨l.block, l.off + k, none⟩ = some v' ∧ V φ v v' := by
  obtain ⟨o, h1, h2⟩ := h.obj i l hi
  have has : ∀ e, Has φ w l e cs → ∀ (k : Nat) (v : Value), cs[k]? = some v → ∃ v', w.cell? ⟨l.block, l.off + k, none⟩ = some v' ∧ V φ v v' := by
    rintro e ⟨c, c1, c2, c3⟩ k v hv
    obtain ⟨v', p, q⟩ := c3.cell k v hv
    exact ⟨v', by simp [World.cell?, c1, p], q⟩
  unfold St.cells at hc
  rw [h1] at hc
  cases o with
  | row r =>
    dsimp only at hc
    cases hm : r.mode with
    | own =>
      rw [hm] at hc
      injection hc with hc
      subst hc
      rw [ORel.own hm] at h2
      exact has _ h2.2.2.2
    | old =>
      rw [hm] at hc
      dsimp only at hc
      split at hc
      · rename_i hcalm
        injection hc with hc
        subst hc
        rw [ORel.old hm] at h2
        exact has _ (h2.2.2.2 hcalm)
      · cases hc
    | foreign =>
      rw [hm] at hc
      injection hc with hc
      subst hc
      rw [ORel.foreign hm] at h2
      exact h2.2.2
  | box e cs' =>
    injection hc with hc
    subst hc
    exact has _ h2.2.2
  | map es => cases hc
  | siter t p => cases hc

theorem R.cell (h : R φ s w Own) {i off : Nat} {l : Loc} {v : Value} (hi : φ i = some l) (hc : s.cell i off = some v) :
    ∃ v', w.cell? ⟨l.block, l.off + off, none⟩ = some v' ∧ V φ v v' := by
  obtain ⟨cs, h1, h2⟩ := St.cell_eq hc
  exact h.cells hi h1 off v h2

theorem R.cellsL (h : R φ s w Own) {i : Nat} {l : Loc} (hi : φ i = some l) : ∀ (vs : List Value) (off : Nat), (∀ j v, vs[j]? = some v → s.cell i (off + j) = some v) →
    ∃ vs', VL φ vs vs' ∧ ∀ j v', vs'[j]? = some v' → w.cell? ((⟨l.block, l.off + off, none⟩ : Addr).add j) = some v'
  | [], off, _ => ⟨[], .nil, by simp⟩
  | v :: vs, off, hv => by
    obtain ⟨v', h1, h2⟩ := h.cell hi (by have := hv 0 v rfl; simpa using this)
    obtain ⟨vs', k1, k2⟩ := R.cellsL h hi vs (off + 1) fun j u hu => by
      have := hv (j + 1) u (by simpa using hu)
      rw [← this]
      congr 1
      omega
    refine ⟨v' :: vs', .cons h2 k1, fun j u hu => ?_⟩
    cases j with
    | zero => simp at hu; subst hu; rw [add_plain]; simpa using h1
    | succ j =>
      have := k2 j u (by simpa using hu)
      rw [add_plain] at this ⊢
      rw [← this]
      congr 2
      omega

/-- The cells that a slice shows. -/
theorem R.seen (h : R φ s w Own) {i off n : Nat} {l : Loc} {vs : List Value} (hi : φ i = some l) (hs : s.seen i off n = some vs) :
    vs.length = n ∧ ∃ vs', VL φ vs vs' ∧ ∀ j v', vs'[j]? = some v' → w.cell? ((⟨l.block, l.off + off, none⟩ : Addr).add j) = some v' := by
  unfold St.seen at hs
  cases hc : s.cells i with
  | none => rw [hc] at hs; cases hs
  | some cs =>
    rw [hc] at hs
    simp only [Option.bind_some] at hs
    split at hs
    · rename_i hlen
      injection hs with hs
      subst hs
      refine ⟨by simp; omega, h.cellsL hi _ off fun j v hv => ?_⟩
      rw [List.getElem?_take] at hv
      split at hv
      · rw [List.getElem?_drop] at hv
        simp [St.cell, hc, hv]
      · cases hv
    · cases hs

theorem VL.one {l l' : List Value} (h : VL φ l l') : ∀ v' ∈ l', (∀ v ∈ l, oc v = true) → v'.oneCell' = true := by
  induction l generalizing l' with
  | nil => cases h; intro v' hv; cases hv
  | cons a l ih =>
    cases h with
    | cons h1 h2 =>
      intro v' hv hall
      rcases List.mem_cons.1 hv with rfl | hv
      · exact h1.oneCell (hall a (by simp))
      · exact ih h2 v' hv fun x hx => hall x (by simp [hx])

theorem CellsIn.write {cs : List Value} {c : Array Value} {o off : Nat} {vs vs' : List Value} (h : CellsIn φ cs c o) (hv : VL φ vs vs') (hf : off + vs.length ≤ cs.length) :
    CellsIn φ (writeAt cs off vs) (c.toList.take (o + off) ++ vs' ++ c.toList.drop (o + off + vs'.length)).toArray o := by
  have hlen := hv.length
  have hfit := h.fits
  have hcs : (writeAt cs off vs).length = cs.length := by unfold writeAt; simp; omega
  refine ⟨by simp only [hcs]; simp; omega, fun i v hi => ?_⟩
  unfold writeAt at hi
  simp only [List.getElem?_append, List.length_take, List.length_append, List.getElem?_toArray] at hi ⊢
  have e1 : min off cs.length = off := by omega
  have e2 : min (o + off) c.toList.length = o + off := by simp; omega
  rw [e1] at hi
  rw [e2]
  by_cases c1 : i < off
  · rw [if_pos (by omega), if_pos c1, List.getElem?_take, if_pos c1] at hi
    rw [if_pos (by omega), if_pos (by omega), List.getElem?_take, if_pos (by omega)]
    simpa using h.cell i v hi
  · by_cases c2 : i < off + vs.length
    · rw [if_pos c2, if_neg c1] at hi
      rw [if_pos (by omega), if_neg (by omega)]
      obtain ⟨v', p, q⟩ := hv.get _ v hi
      refine ⟨v', ?_, q⟩
      rw [← p]
      congr 1
      omega
    · rw [if_neg c2, List.getElem?_drop] at hi
      rw [if_neg (by omega), List.getElem?_drop]
      obtain ⟨v', p, q⟩ := h.cell _ v hi
      refine ⟨v', ?_, q⟩
      rw [← p]
      simp only [Array.getElem?_toList]
      congr 1
      omega

/-- A store. -/
theorem R.wr {P : Program} (h : R φ s w Own) {i off : Nat} {l : Loc} {vs vs' : List Value} {s' : St} (hi : φ i = some l) (hw : s.wr i off vs = some s') (hv : VL φ vs vs') :
    ∃ w', (storeCells ⟨l.block, l.off + off, none⟩ vs').run P w = .ok () w' ∧ R φ s' w' Own ∧ Fr w w' Own Own := by
  obtain ⟨o, h1, h2⟩ := h.obj i l hi
  have hlen := hv.length
  have run : ∀ e cs, Has φ w l e cs → off + vs.length ≤ cs.length → (vs.all oc) = true →
      ∃ w', (storeCells ⟨l.block, l.off + off, none⟩ vs').run P w = .ok () w' ∧ Turned w w' l.block ∧ Has φ w' l e (writeAt cs off vs) := by
    rintro e cs ⟨c, c1, c2, c3⟩ hf hall
    have hone : ∀ v ∈ vs', v.oneCell' = true := fun v' hv' => hv.one v' hv' fun v hx => List.all_eq_true.1 hall v hx
    have hfit := c3.fits
    have hr := run_storeCells_at (P := P) l.block (l.off + off) e vs' 0 c w c1 (by omega) hone
    simp only [Nat.add_zero] at hr
    refine ⟨_, hr, Turned.setRow _ _ _, _, setRow_heap w l.block c _ e _ c1, ?_, c3.write hv hf⟩
    simp
    omega
  unfold St.wr at hw
  rw [h1] at hw
  cases o with
  | row r =>
    dsimp only at hw
    split at hw
    · rename_i hc
      obtain ⟨hm, hf, hall⟩ := hc
      rw [ORel.own hm] at h2
      obtain ⟨w', hr, ht, hh⟩ := run _ _ h2.2.2.2 hf hall
      have hs := h.stir r.root
      split at hw
      · rename_i q hq
        injection hw with hw
        subst hw
        have hqr : q.mode = .own ∧ q.elem = r.elem ∧ q.root = r.root ∧ (q.root = i → q.stored = true) := by
          by_cases e : i = r.root
          · subst e
            unfold St.stir at hq
            rw [h1] at hq
            rw [St.get_put, if_pos rfl] at hq
            injection hq with hq
            injection hq with hq
            subst hq
            exact ⟨hm, rfl, rfl, fun _ => rfl⟩
          · rcases St.stir_get s r.root i with hg | ⟨q', hq', hg⟩
            · rw [hg, h1] at hq
              injection hq with hq
              injection hq with hq
              subst hq
              exact ⟨hm, rfl, rfl, fun e' => absurd e'.symm e⟩
            · rw [hg] at hq
              rw [h1] at hq'
              injection hq with hq
              injection hq with hq
              injection hq' with hq'
              injection hq' with hq'
              subst hq
              subst hq'
              exact ⟨hm, rfl, rfl, fun _ => rfl⟩
        have hp := hs.putRow hi hq hqr.1 (by rw [hqr.2.2.1]; exact St.stir_calm s r.root) ht (writeAt r.cs off vs) hqr.2.2.2 (by rw [hqr.2.1]; exact hh)
        exact ⟨w', hr, hp.low _, ht.fr h2.1⟩
      · cases hw
    · cases hw
  | box e cs =>
    dsimp only at hw
    split at hw
    · rename_i hc
      injection hw with hw
      subst hw
      obtain ⟨w', hr, ht, hh⟩ := run _ _ h2.2.2 hc.1 hc.2
      exact ⟨w', hr, (h.put (o := .box e cs) (o' := .box e (writeAt cs off vs)) hi h1 (by simp) (by simp) rfl ht ⟨h2.1, h2.2.1, hh⟩).lows _ _, ht.fr h2.1⟩
    · cases hw
  | map es => cases hw
  | siter t p => cases hw
end
end Go.Proofs.YtckalckfihhldaaDoorF
