/- The abstract heap machine, part 22b: slices of one's own that are written. -/
import Derived.Test.YtckalckfihhldaaDoorF22
set_option linter.unusedVariables false
set_option linter.unusedSimpArgs false
namespace Go.Proofs.YtckalckfihhldaaDoorF
open Go

/-! ### Readings that need no memory -/
def Rep.Fl {α : Type} (r : Rep α) : Prop := ∀ s s' x cs, r.rel s x cs → r.rel s' x cs
theorem rI_fl {k : IntKind} : (rI k).Fl := fun _ _ _ _ h => h
theorem rB_fl : rB.Fl := fun _ _ _ _ h => h
theorem rS_fl : rS.Fl := fun _ _ _ _ h => h
theorem rU_fl : rU.Fl := fun _ _ _ _ h => h
theorem rX_fl {k : Nat} : (rX k).Fl := fun _ _ _ _ h => h
theorem rP_fl {α β : Type} {a : Rep α} {b : Rep β} (h : a.Fl) (k : b.Fl) : (rP a b).Fl := fun s s' _ _ ⟨c, d, e, f, g⟩ => ⟨c, d, e, h s s' _ _ f, k s s' _ _ g⟩
theorem many.fl {α : Type} {r : Rep α} (h : r.Fl) {s s' : St} : ∀ {xs : List α} {cs : List Value}, many r s xs cs → many r s' xs cs
  | [], _, k => k
  | _ :: _, _, ⟨c, d, e, f, g⟩ => ⟨c, d, e, h s s' _ _ f, g.fl h⟩
theorem many.replicate {α : Type} {r : Rep α} {s : St} {z : α} {zc : List Value} (h : r.rel s z zc) : ∀ n, many r s (List.replicate n z) (List.replicate n zc).flatten
  | 0 => rfl
  | n + 1 => ⟨zc, _, by rw [List.replicate_succ, List.flatten_cons], h, many.replicate h n⟩
theorem On.holds.stepFl {N : Nat} {X Y : List Nat} {s s' : St} {o : On} (h : o.holds N X s) (hF : o.r.Fl) (hn : s.next ≤ s'.next) (hg : ∀ i, i < s.next → i ∉ Y → s'.get i = s.get i) (hY : ∀ i ∈ o.foot, i ∉ Y) : o.holds N X s' := by
  rcases h with h | ⟨i, q, h1, h2, h3, h4, h5, h6, h7, h8, h9, h10, h11, h12, h13, h14⟩ | ⟨i, q, h1, h2, h3, h4, h5, h6, h6', h7, h8, h9, h10, h11, h12, ⟨q', h13⟩, h14⟩
  · exact .inl h
  · have hi : i ∉ Y := hY i (by simp [On.foot, h1])
    have hrt : o.rt ∉ Y := hY o.rt (by simp [On.foot, h1])
    refine .inr (.inl ⟨i, q, h1, by rw [hg i h7 hi]; exact h2, h3, h4, h5, h6.fl hF, by omega, h8, h9, by omega, ?_, h12, h13, h14⟩)
    unfold St.calm at h11 ⊢
    rw [h12] at h11 ⊢
    rw [hg _ (by omega) hrt]
    exact h11
  · have hi : i ∉ Y := hY i (by simp [On.foot, h1])
    have hrt : o.rt ∉ Y := hY o.rt (by simp [On.foot, h1])
    exact .inr (.inr ⟨i, q, h1, by rw [hg i h7 hi]; exact h2, h3, h4, h5, h6, h6'.fl hF, by omega, h8, h9, by omega, h11, h12, ⟨q', by rw [hg _ (by omega) hrt]; exact h13⟩, h14⟩)
theorem On.holds.foot_ge {N : Nat} {X : List Nat} {s : St} {o : On} (h : o.holds N X s) (hv : o.v = true) : ∀ i ∈ o.foot, N ≤ i := by
  intro i hi
  rcases h with ⟨h1, _⟩ | ⟨j, q, h1, h2, h3, h4, h5, h6, h7, h8, h9, h10, h11, h12, h13, h14⟩ | ⟨j, q, h1, h2, h3, h4, h5, h6, h6', h7, h8, h9, h10, h11, h12, ⟨q', h13⟩, h14⟩
  · simp [On.foot, h1] at hi
  · rw [hv] at h14; cases h14
  · simp [On.foot, h1] at hi
    rcases hi with rfl | rfl
    · exact h8
    · exact h12
def NoRow (X : List Nat) (s : St) : Prop := ∀ i ∈ X, ∀ q, s.get i ≠ some (.row q)
theorem NoRow.nil {s : St} : NoRow [] s := by simp [NoRow]
theorem NoRow.box {s : St} {b : Nat} {e : TypeId} {cs : List Value} (h : s.get b = some (.box e cs)) : NoRow [b] s := by
  intro i hi q hq
  simp only [List.mem_singleton] at hi
  subst hi
  rw [h] at hq
  cases hq
section
variable {N : Nat} {X Z : List Nat} {s0 s : St} {L : List (Nat × AObj)} {B : List On} {G : List Fa}
theorem Cx.wstep (C : Cx N X Z s0 s L B G) (hN : s0.next = N) (hX : NoRow X s0) (hF : ∀ b ∈ B, b.r.Fl) {j : Nat} {o o' : On} (hb : B[j]? = some o) (hv : o.v = true) {s' : St} (h1 : s.next ≤ s'.next) (hg : ∀ i, i < s.next → i ∉ o.foot → s'.get i = s.get i)
    (hlb : s'.lowb = s.lowb) (hlw : ∀ m, (∀ i ∈ o.foot, m ≤ i) → m ≤ s.low → m ≤ s'.low) (ho : o'.holds N X s') (hf : ∀ i ∈ o'.foot, i ∈ o.foot ∨ s.next ≤ i) : Cx N X Z s0 s' L (B.set j o') [] := by
  have hm : o ∈ B := List.mem_of_getElem? hb
  have hge := (C.own o hm).foot_ge hv
  have hle := C.le
  have hkn := C.keep.next
  have same : ∀ i, i < N → i ∉ X → s'.get i = s0.get i := fun i hi hx => by
    rw [hg i (by omega) (fun h => by have := hge i h; omega)]
    exact C.keep.get i hi hx
  have calm0 : ∀ i, i < N → s0.calm i = true → s'.calm i = true := fun i hi e => by
    have hx : i ∉ X := fun h => by
      unfold St.calm at e
      split at e
      · rename_i q hq; exact hX i h q hq
      · cases e
    unfold St.calm at e ⊢
    rw [same i hi hx]
    exact e
  refine ⟨⟨by omega, same, fun m h1 h2 h3 => by rw [hlb]; exact C.keep.lowb m h1 h2 h3, fun m h1 h2 h3 => hlw m (fun i hi => by have := hge i hi; omega) (C.keep.low m h1 h2 h3)⟩,
    ⟨fun i x hi e => ?_, calm0⟩, by omega, C.lx, C.zx, fun p hp => ?_, fun b hb' => ?_, C.lnd, dj_set C.bnd fun i p hne hi x hx hx' => ?_, by simp⟩
  · have hx : i ∉ X := fun h => by
      obtain ⟨q, hq, -⟩ := St.rc_row e
      exact hX i h q hq
    unfold St.rc at e ⊢
    rw [same i hi hx]
    split at e
    · rename_i r hr
      split at e
      · rename_i hm'
        rw [if_pos hm']
        split at e
        · rename_i hc
          rw [if_pos ⟨by omega, calm0 _ (by omega) hc.2⟩]
          exact e
        · cases e
      · rename_i hm'
        rw [if_neg hm']
        exact e
    · cases e
  · obtain ⟨a, b, c, d⟩ := C.obj p hp
    refine ⟨?_, by omega, c, d⟩
    rw [hg _ b fun h => ?_]
    · exact a
    · obtain ⟨_, _, q, hq⟩ := (C.own o hm).foot_lt _ h
      rw [a] at hq
      injection hq with hq
      rw [hq] at d
      cases d
  · rcases mem_set_or hb' with rfl | ⟨i, hne, hi⟩
    · exact ho
    · have hbm : b ∈ B := List.mem_of_getElem? hi
      exact (C.own b hbm).stepFl (hF b hbm) h1 hg (foot_ne C.bnd hi hb hne)
  · rcases hf x hx' with h | h
    · exact foot_ne C.bnd hi hb hne x hx h
    · have := C.fresh p (List.mem_of_getElem? hi) x hx
      omega
theorem fl_nil : ∀ b ∈ ([] : List On), b.r.Fl := by simp
theorem fl_cons {o : On} {B : List On} (h : o.r.Fl) (k : ∀ b ∈ B, b.r.Fl) : ∀ b ∈ o :: B, b.r.Fl := fun b hb => by
  rcases List.mem_cons.1 hb with rfl | hb
  · exact h
  · exact k b hb
/-! ### What is made -/
theorem Cx.newW (C : Cx N X Z s0 s L B G) {α : Type} {r : Rep α} {xs : List α} {e : TypeId} {cs : List Value} {c : Nat} (sz : Nat) (hs : r.sz = sz) (hl : xs.length * sz ≤ cs.length) (hc : xs.length ≤ c) (hm : many r s xs (cs.take (xs.length * sz))) :
    Cx N X Z s0 (s.new (.row { elem := e, cs := cs, mode := .own, root := s.next, stored := false, esz := sz })) L (⟨r, xs, some ⟨s.next, 0, none⟩, c, e, true, s.next⟩ :: B) G := by
  have hk : Kr s.next s (s.new (.row { elem := e, cs := cs, mode := .own, root := s.next, stored := false, esz := sz })) := Kr.new _ (Nat.le_refl _) _
  have hg : (s.new (.row { elem := e, cs := cs, mode := .own, root := s.next, stored := false, esz := sz })).get s.next = some (.row { elem := e, cs := cs, mode := .own, root := s.next, stored := false, esz := sz }) := by rw [St.get_new, if_pos rfl]
  refine C.step [] [] ⟨by simp, fun i h _ => by rw [St.get_new, if_neg (by omega)], fun _ _ _ h => h, fun m _ _ h => h⟩ hk (by simp) (by simp) (fun p hp => .inl ⟨hp, by simp⟩) C.lnd (fun b hb => ?_) ?_ (fun g hg => .inl hg)
  · rcases List.mem_cons.1 hb with rfl | hb
    · exact .inr (.inr (.inr ⟨s.next, _, rfl, hg, rfl, rfl, hs.symm, by rw [hs]; exact hl, by rw [hs]; exact hm.ext (by simp) hk, by simp, C.le, hc, by simp, rfl, C.le, ⟨_, hg⟩, rfl⟩))
    · exact .inl ⟨hb, by simp⟩
  · refine List.pairwise_cons.2 ⟨fun q hq x hx hx' => ?_, C.bnd⟩
    simp [On.foot] at hx
    have := C.fresh q hq x hx'
    omega
theorem Cx.addNilW (C : Cx N X Z s0 s L B G) {α : Type} (r : Rep α) (e : TypeId) : Cx N X Z s0 s L (⟨r, [], none, 0, e, true, 0⟩ :: B) G :=
  ⟨C.keep, C.kr, C.le, C.lx, C.zx, C.obj, fun q hq => by rcases List.mem_cons.1 hq with rfl | hq; exact .inl ⟨rfl, rfl, rfl⟩; exact C.own q hq, C.lnd, List.pairwise_cons.2 ⟨fun q _ x hx => by simp [On.foot] at hx, C.bnd⟩, C.fact⟩
/-- What cannot be written can be looked at as if it could. -/
theorem Cx.toW (C : Cx N X Z s0 s L B G) (hX : NoRow X s) {α : Type} {r : Rep α} {xs : List α} {A : Option Addr} {c rt j : Nat} {e : TypeId} (hb : B[j]? = some ⟨r, xs, A, c, e, false, rt⟩) : Cx N X Z s0 s L (B.set j ⟨r, xs, A, c, e, true, rt⟩) G := by
  have hm : (⟨r, xs, A, c, e, false, rt⟩ : On) ∈ B := List.mem_of_getElem? hb
  refine ⟨C.keep, C.kr, C.le, C.lx, C.zx, C.obj, fun b hb' => ?_, C.lnd, dj_set C.bnd fun i p hne hi x hx hx' => foot_ne C.bnd hi hb hne x hx hx', C.fact⟩
  rcases mem_set_or hb' with rfl | ⟨i, hne, hi⟩
  · rcases C.own _ hm with h | ⟨i, q, h1, h2, h3, h4, h5, h6, h7, h8, h9, h10, h11, h12, h13, h14⟩ | ⟨i, q, _, _, _, _, _, _, _, _, _, _, _, _, _, _, h⟩
    · exact .inl h
    · have hl := h6.len
      obtain ⟨_, _, q', hq'⟩ := (C.own _ hm).foot_lt rt (by dsimp only at h1; subst h1; simp [On.foot])
      refine .inr (.inr ⟨i, q, h1, h2, h3, h4, h5, by dsimp only at hl ⊢; omega, ?_, h7, ?_, h9, h10, h12, ?_, ⟨q', hq'⟩, rfl⟩)
      · dsimp only at hl ⊢
        rw [List.take_of_length_le (by omega)]
        exact h6
      · rcases h8 with h8 | h8
        · exact h8
        · exact absurd h2 (hX i h8 q)
      · rcases h13 with h13 | h13
        · exact h13
        · exact absurd hq' (hX rt h13 q')
    · cases h
  · exact C.own b (List.mem_of_getElem? hi)
section
variable {ρ α : Type} {H : ρ → Prop} {Q : ρ → Out → St → Prop}
def mkP (bytes : Nat) (n c : Int) (z : α) (K : List α → Option ρ) : Option ρ := if 0 ≤ n then if n ≤ c then if c * bytes ≤ 140737488355328 ∧ c ≤ 140737488355328 then K (List.replicate n.toNat z) else none else none else none
theorem take_replicate_flatten {β : Type} (z : List β) (n c : Nat) (h : n ≤ c) : ((List.replicate c z).flatten).take (n * z.length) = (List.replicate n z).flatten := by
  induction n generalizing c with
  | zero => simp
  | succ n ih =>
    cases c with
    | zero => omega
    | succ c =>
      rw [List.replicate_succ, List.flatten_cons, List.replicate_succ, List.flatten_cons, Nat.add_mul, Nat.one_mul, Nat.add_comm, List.take_length_add_append, ih c (by omega)]
theorem flatten_replicate_length {β : Type} (z : List β) (n : Nat) : (List.replicate n z).flatten.length = n * z.length := by
  induction n with
  | zero => simp
  | succ n ih => rw [List.replicate_succ, List.flatten_cons, List.length_append, ih, Nat.add_mul]; omega
theorem Rf.kmake {E : Env} {t e : TypeId} {r : Rep α} {z : α} {k k' : IntKind} {n c : Int} {bytes : Nat} {zc : List Value} {K : Value → St → Ans} {P : List α → Option ρ} (C : Cx N X Z s0 s L B G) (hu : E.und t = some (.slice e)) (hi : (E.info e).map (·.2) = some (r.sz, bytes))
    (hz : zeroL E e = some zc) (hr : ∀ s, r.rel s z zc) (h0 : 0 < r.sz)
    (hK : ∀ s', Cx N X Z s0 s' L (⟨r, List.replicate n.toNat z, some ⟨s.next, 0, .none⟩, c.toNat, e, true, s.next⟩ :: B) G → Rf (P (List.replicate n.toNat z)) H Q (K (.slice (some ⟨s.next, 0, .none⟩) (List.replicate n.toNat z).length c.toNat) s')) :
    Rf (mkP bytes n c z P) H Q (kmakeSlice E t (.int k n) (.int k' c) s K) := fun q e' hq => by
  unfold mkP at e'
  split at e'
  · rename_i g0
    split at e'
    · rename_i g1
      split at e'
      · rename_i g2
        have hl := r.len (hr s)
        have C' := C.newW (r := r) (xs := List.replicate n.toNat z) (e := e) (cs := (List.replicate c.toNat zc).flatten) (c := c.toNat) r.sz rfl
          (by rw [flatten_replicate_length, List.length_replicate, hl]; exact Nat.mul_le_mul_right _ (by omega)) (by simp; omega)
          (by rw [List.length_replicate, ← hl, take_replicate_flatten _ _ _ (by omega)]; exact many.replicate (hr s) _)
        unfold kmakeSlice
        rw [hu]
        cases hie : E.info e with
        | none => rw [hie] at hi; cases hi
        | some y =>
          obtain ⟨y1, y2, y3⟩ := y
          rw [hie] at hi
          simp only [Option.map_some, Option.some.injEq, Prod.mk.injEq] at hi
          obtain ⟨rfl, rfl⟩ := hi
          dsimp only
          rw [hie]
          dsimp only
          rw [if_pos ⟨g0, g1, g2.1, g2.2, h0⟩, hz]
          dsimp only
          rw [if_pos (r.oc (hr s))]
          have := hK _ C'
          rw [List.length_replicate] at this
          exact this q e' hq
      · cases e'
    · cases e'
  · cases e'
def mkzP (bytes : Nat) (n : Int) (z : α) (K : List α → Option ρ) : Option ρ := if 0 < n then if n * bytes ≤ 140737488355328 ∧ n ≤ 140737488355328 then K (List.replicate n.toNat z) else none else none
theorem Rf.kmkz {E : Env} {t u e : TypeId} {r : Rep α} {z : α} {k kk : IntKind} {n : Int} {bytes : Nat} {zc : List Value} {K : Value → St → Ans} {P : List α → Option ρ} (C : Cx N X Z s0 s L B G) (hu : E.und t = some (.slice e)) (hv : E.und u = some (.int kk)) (hi : (E.info e).map (·.2) = some (r.sz, bytes))
    (hz : zeroL E e = some zc) (hr : ∀ s, r.rel s z zc) (h0 : 0 < r.sz)
    (hK : ∀ s', Cx N X Z s0 s' L (⟨r, List.replicate n.toNat z, some ⟨s.next, 0, .none⟩, n.toNat, e, true, s.next⟩ :: B) G → Rf (P (List.replicate n.toNat z)) H Q (K (.slice (some ⟨s.next, 0, .none⟩) (List.replicate n.toNat z).length n.toNat) s')) :
    Rf (mkzP bytes n z P) H Q (kappz E #[t, u] (.slice .none 0 0) (.int k n) s K) := fun q e' hq => by
  unfold mkzP at e'
  split at e'
  · rename_i g0
    split at e'
    · rename_i g2
      have hl := r.len (hr s)
      have C' := C.newW (r := r) (xs := List.replicate n.toNat z) (e := e) (cs := (List.replicate n.toNat zc).flatten) (c := n.toNat) r.sz rfl
        (by rw [flatten_replicate_length, List.length_replicate, hl]; exact Nat.le_refl _) (by simp)
        (by rw [List.length_replicate, ← hl, take_replicate_flatten _ _ _ (Nat.le_refl _)]; exact many.replicate (hr s) _)
      unfold kappz
      simp only [List.getElem?_toArray, List.getElem?_cons_zero, List.getElem?_cons_succ, hu, hv]
      cases hie : E.info e with
      | none => rw [hie] at hi; cases hi
      | some y =>
        obtain ⟨y1, y2, y3⟩ := y
        rw [hie] at hi
        simp only [Option.map_some, Option.some.injEq, Prod.mk.injEq] at hi
        obtain ⟨rfl, rfl⟩ := hi
        simp only [hz]
        rw [if_pos ⟨g0, g2.1, g2.2, h0, r.oc (hr s)⟩]
        have := hK _ C'
        rw [List.length_replicate] at this
        exact this q e' hq
    · cases e'
  · cases e'
theorem Rf.pjl {β : Type} {P : β → Option ρ} {v : β} {A : Ans} (h : Rf (P v) H Q A) : Rf (Go.Proofs.YtckalckfihhldaaDoorF.pj v P) H Q A := h
theorem Rf.cast {P : Option ρ} {A A' : Ans} (h : A = A') (k : Rf P H Q A') : Rf P H Q A := h ▸ k
/-! ### Elements -/
theorem Cx.loW (C : Cx N X Z s0 s L B G) {r : Rep α} {xs : List α} {A : Option Addr} {c rt j b o : Nat} {e : TypeId} {v : Bool} (hb : B[j]? = some ⟨r, xs, A, c, e, v, rt⟩) {i : Int} {x : α} (h0 : 0 ≤ i) (hA : A = some ⟨b, 0, none⟩) (ho : o = i.toNat * r.sz) (hx : xs[i.toNat]? = some x) : ∃ cs, r.rel s x cs ∧ Lo s b o cs := by
  have hm : (⟨r, xs, A, c, e, v, rt⟩ : On) ∈ B := List.mem_of_getElem? hb
  obtain ⟨b', off, cs, e1, h1, h2⟩ := ((C.own _ hm).sr).lo h0 hx
  dsimp only at e1
  rw [hA] at e1
  injection e1 with e1
  injection e1 with e1 e2
  subst e1; subst e2; subst ho
  exact ⟨cs, h1, by simpa using h2⟩
theorem Rf.eltW {r : Rep α} {xs : List α} {A : Option Addr} {c rt j sz n : Nat} {e : TypeId} {v : Bool} {i : Int} {K : Nat → Nat → Ans} {P : α → Option ρ} (C : Cx N X Z s0 s L B G) (hb : B[j]? = some ⟨r, xs, A, c, e, v, rt⟩) (hn : n = xs.length) (hs : r.sz = sz)
    (hK : ∀ x b o, 0 ≤ i → A = some ⟨b, 0, .none⟩ → o = i.toNat * r.sz → xs[i.toNat]? = some x → Rf (P x) H Q (K b o)) : Rf (rd xs i P) H Q (Go.Proofs.YtckalckfihhldaaDoorF.elt A n sz i K) := fun q e' hq => by
  subst hn
  have hm : (⟨r, xs, A, c, e, v, rt⟩ : On) ∈ B := List.mem_of_getElem? hb
  unfold rd at e'
  split at e'
  · rename_i h0
    split at e'
    · rename_i x hx
      have hi := (List.getElem?_eq_some_iff.1 hx).1
      have hA : ∃ b, A = some ⟨b, 0, .none⟩ := by
        rcases C.own _ hm with ⟨_, h, _⟩ | ⟨i, q, h, -⟩ | ⟨i, q, h, -⟩
        · dsimp only at h; subst h; simp at hi
        · exact ⟨_, h⟩
        · exact ⟨_, h⟩
      obtain ⟨b, rfl⟩ := hA
      unfold Go.Proofs.YtckalckfihhldaaDoorF.elt
      rw [if_pos h0, if_pos (by omega)]
      dsimp only
      rw [← hs]
      exact hK x b _ h0 rfl (by simp) hx q e' hq
    · cases e'
  · cases e'
theorem writeAt_take {cs vs : List Value} {off m : Nat} (h : off + vs.length ≤ m) (h2 : m ≤ cs.length) : (writeAt cs off vs).take m = writeAt (cs.take m) off vs := by
  unfold writeAt
  have hl : (cs.take off ++ vs).length = off + vs.length := by rw [List.length_append, List.length_take]; omega
  rw [List.take_append, List.take_of_length_le (by omega), hl, List.take_take, Nat.min_eq_left (by omega), List.drop_take]
theorem St.stir_next' (s : St) (root : Nat) : (s.stir root).next = s.next := St.stir_next s root
theorem Cx.setW (C : Cx N X Z s0 s L B G) (hN : s0.next = N) (hX : NoRow X s0) (hF : ∀ b ∈ B, b.r.Fl) {r : Rep α} {xs : List α} {A : Option Addr} {c rt j b o : Nat} {e : TypeId} (hb : B[j]? = some ⟨r, xs, A, c, e, true, rt⟩) {i : Int} {x y : α} {cs vs : List Value} {off : Nat}
    (hA : A = some ⟨b, 0, none⟩) (ho : o = i.toNat * r.sz) (hx : xs[i.toNat]? = some x) (hy : r.rel s y cs) :
    ∃ s', s.wr b o cs = some s' ∧ Cx N X Z s0 s' L (B.set j ⟨r, xs.set i.toNat y, A, c, e, true, rt⟩) [] := by
  have hm : (⟨r, xs, A, c, e, true, rt⟩ : On) ∈ B := List.mem_of_getElem? hb
  have hi := (List.getElem?_eq_some_iff.1 hx).1
  rcases C.own _ hm with ⟨h, _⟩ | ⟨k, q, _, _, _, _, _, _, _, _, _, _, _, _, _, h⟩ | ⟨k, q, h1, h2, h3, h4, h5, h6, h6', h7, h8, h9, h10, h11, h12, ⟨q', h13⟩, h14⟩
  · dsimp only at h; rw [hA] at h; cases h
  · cases h
  · dsimp only at h1 h4 h5 h6 h6' h9 h11 h12 h13
    rw [hA] at h1
    injection h1 with h1
    injection h1 with h1 _
    subst h1; subst hA; subst ho
    have hl := r.len hy
    have hbd : i.toNat * r.sz + cs.length ≤ xs.length * r.sz := by
      rw [hl, ← Nat.succ_mul]; exact Nat.mul_le_mul_right _ hi
    have hgi : ∃ q2, (s.stir q.root).get b = some (.row q2) ∧ q2.mode = .own ∧ q2.elem = e ∧ q2.esz = r.sz ∧ q2.root = q.root := by
      rcases St.stir_get s q.root b with hg | ⟨q2, hg1, hg2⟩
      · exact ⟨q, by rw [hg]; exact h2, h3, h4, h5, rfl⟩
      · rw [h2] at hg1
        injection hg1 with hg1
        injection hg1 with hg1
        subst hg1
        exact ⟨_, hg2, h3, h4, h5, rfl⟩
    obtain ⟨q2, g1, g2, g3, g4, g5⟩ := hgi
    have gets : ∀ k, k ≠ b → k ≠ rt → (s.stir q.root).get k = s.get k := fun k _ hk => by rw [h11]; exact St.stir_get_ne hk
    refine ⟨((s.stir q.root).put b (.row { q2 with cs := writeAt q.cs (i.toNat * r.sz) cs })).wrote (min b q.root), ?_, ?_⟩
    · unfold St.wr
      rw [h2]
      dsimp only
      rw [if_pos ⟨h3, by omega, r.oc hy⟩]
      rw [g1]
    · have hrow : (((s.stir q.root).put b (.row { q2 with cs := writeAt q.cs (i.toNat * r.sz) cs })).wrote (min b q.root)).get b = some (.row { q2 with cs := writeAt q.cs (i.toNat * r.sz) cs }) := by
        show ((s.stir q.root).put b _).get b = _
        rw [St.get_put, if_pos rfl]
      refine C.wstep hN hX hF hb rfl (by show s.next ≤ (s.stir _).next; rw [St.stir_next]; exact Nat.le_refl _) (fun k hk hk' => ?_) ?_ (fun m h1 h2 => ?_) ?_ (fun k hk => .inl hk)
      · simp [On.foot] at hk'
        show ((s.stir q.root).put b _).get k = _
        rw [St.get_put, if_neg hk'.1, gets k hk'.1 hk'.2]
      · show (s.stir q.root).lowb = _
        rw [St.stir_lowb]
      · have a1 := h1 b (by simp [On.foot])
        have a2 := h1 rt (by simp [On.foot])
        show m ≤ min (s.stir q.root).low (min b q.root)
        rw [St.stir_low]
        omega
      · refine .inr (.inr ⟨b, _, rfl, hrow, g2, g3, g4, ?_, ?_, ?_, h8, ?_, ?_, by rw [show ({ q2 with cs := writeAt q.cs (i.toNat * r.sz) cs } : Row).root = q.root from g5]; exact h11, h12, ?_, rfl⟩)
        · dsimp only
          rw [List.length_set]
          unfold writeAt
          simp only [List.length_append, List.length_take, List.length_drop]
          omega
        · dsimp only
          rw [List.length_set]
          have hset := (h6'.set hy i.toNat hi)
          have e1 : (writeAt q.cs (i.toNat * r.sz) cs).take (xs.length * r.sz) = writeAt (q.cs.take (xs.length * r.sz)) (i.toNat * r.sz) cs := writeAt_take (by omega) h6
          rw [e1]
          exact hset.fl (hF _ hm)
        · show b < (s.stir q.root).next
          rw [St.stir_next]; exact h7
        · dsimp only; rw [List.length_set]; exact h9
        · show q2.root < (s.stir q.root).next
          rw [St.stir_next, g5]; exact h10
        · show ∃ q', ((s.stir q.root).put b _).get rt = some (.row q')
          rw [St.get_put]
          split
          · exact ⟨_, rfl⟩
          · rcases St.stir_get s q.root rt with hg | ⟨q3, hg1, hg2⟩
            · exact ⟨q', by rw [hg]; exact h13⟩
            · exact ⟨_, hg2⟩
theorem Rf.stoW {P : Option ρ} {r : Rep α} {xs : List α} {A : Option Addr} {c rt b o : Nat} {e : TypeId} {i : Int} {x y : α} {cs : List Value} {K : St → Ans} (j : Nat) (C : Cx N X Z s0 s L B G) (hN : s0.next = N) (hX : NoRow X s0) (hF : ∀ b ∈ B, b.r.Fl) (hb : B[j]? = some ⟨r, xs, A, c, e, true, rt⟩)
    (hA : A = some ⟨b, 0, .none⟩) (ho : o = i.toNat * r.sz) (hx : xs[i.toNat]? = some x) (hy : r.rel s y cs)
    (hK : ∀ s', Cx N X Z s0 s' L (B.set j ⟨r, xs.set i.toNat y, A, c, e, true, rt⟩) [] → Rf P H Q (K s')) : Rf P H Q (Go.Proofs.YtckalckfihhldaaDoorF.sto s b o cs K) := fun q e' hq => by
  obtain ⟨s', a, C'⟩ := C.setW hN hX hF hb (vs := []) (off := 0) hA ho hx hy
  unfold Go.Proofs.YtckalckfihhldaaDoorF.sto
  rw [a]
  exact hK s' C' q e' hq
/-! ### Append -/
theorem Cx.appW (C : Cx N X Z s0 s L B G) (hN : s0.next = N) (hX : NoRow X s0) (hF : ∀ b ∈ B, b.r.Fl) {r : Rep α} {xs ys : List α} {A : Option Addr} {c j rt : Nat} {e : TypeId} {sz bytes : Nat} {news : List Value} (hb : B[j]? = some ⟨r, xs, A, c, e, true, rt⟩) (hs : r.sz = sz) (hz : 0 < sz) (hby : 0 < bytes)
    (hm : many r s ys news) (hl : (xs.length + ys.length) * bytes ≤ 140737488355328) :
    ∃ A' c' rt' s', s.app (.slice A xs.length c) e sz bytes news ys.length = some (.slice A' (xs ++ ys).length c', s') ∧ s'.lowb = s.lowb ∧ Cx N X Z s0 s' L (B.set j ⟨r, xs ++ ys, A', c', e, true, rt'⟩) [] := by
  have hlen : news.length = ys.length * sz := by rw [← hs]; exact hm.len
  have hoc := hm.oc
  have hle : xs.length + ys.length ≤ 140737488355328 := Nat.le_trans (Nat.le_mul_of_pos_right _ hby) hl
  have hmem : (⟨r, xs, A, c, e, true, rt⟩ : On) ∈ B := List.mem_of_getElem? hb
  have hfl := hF _ hmem
  by_cases h0 : ys.length = 0
  · have hy : ys = [] := List.length_eq_zero_iff.1 h0
    subst hy
    have hn : news = [] := hm
    subst hn
    refine ⟨A, c, rt, s, ?_, rfl, ?_⟩
    · unfold St.app
      rw [if_pos ⟨by simp, hz, rfl⟩]
      rcases C.own _ hmem with ⟨h1, h2, h3⟩ | ⟨i, q, h1, -⟩ | ⟨i, q, h1, -⟩
      · dsimp only at h1 h2 h3; subst h1; subst h2; subst h3; simp
      · dsimp only at h1; subst h1; simp
      · dsimp only at h1; subst h1; simp
    · refine C.wstep hN hX hF hb rfl (Nat.le_refl _) (fun _ _ _ => rfl) rfl (fun m _ h => h) ?_ (fun i hi => .inl hi)
      rw [List.append_nil]
      exact C.own _ hmem
  · rcases C.own _ hmem with ⟨h1, h2, h3⟩ | ⟨k, q, _, _, _, _, _, _, _, _, _, _, _, _, _, h⟩ | ⟨i, q, h1, h2, h3, h4, h5, h6, h6', h7, h8, h9, h10, h11, h12, ⟨q', h13⟩, h14⟩
    · dsimp only at h1 h2 h3; subst h1; subst h2; subst h3
      have hg : (s.new (.row { elem := e, cs := news, mode := .own, root := s.next, stored := false, esz := sz })).get s.next = some (.row { elem := e, cs := news, mode := .own, root := s.next, stored := false, esz := sz }) := by rw [St.get_new, if_pos rfl]
      refine ⟨some ⟨s.next, 0, none⟩, ys.length, s.next, s.new (.row { elem := e, cs := news, mode := .own, root := s.next, stored := false, esz := sz }), ?_, rfl, ?_⟩
      · unfold St.app
        rw [if_pos ⟨hlen, hz, hoc⟩]
        simp only [h0, if_false, List.nil_append, List.length_nil]
        rw [if_pos ⟨by simpa using hl, by simpa using hle⟩]
      · refine C.wstep hN hX hF hb rfl (by simp) (fun k hk _ => by rw [St.get_new, if_neg (by omega)]) rfl (fun m _ h => h) ?_ (fun k hk => ?_)
        · refine .inr (.inr ⟨s.next, _, rfl, hg, rfl, rfl, hs.symm, ?_, ?_, Nat.lt_succ_self _, C.le, Nat.le_refl _, Nat.lt_succ_self _, rfl, C.le, ⟨_, hg⟩, rfl⟩)
          · show ys.length * r.sz ≤ news.length
            rw [hs, hlen]; exact Nat.le_refl _
          · show many r _ ys (news.take (ys.length * r.sz))
            rw [hs, List.take_of_length_le (by omega)]
            exact hm.fl hfl
        · simp [On.foot] at hk
          exact .inr (by omega)
    · cases h
    · dsimp only at h1 h4 h5 h6 h6' h9 h11 h12 h13; subst h1
      rw [hs] at h5 h6 h6'
      -- the memory in which the line has been stirred, if need be
      generalize hs1 : (if 0 + xs.length * sz = q.cs.length then s else s.stir q.root) = s1
      have n1 : s1.next = s.next := by rw [← hs1]; split; rfl; exact St.stir_next _ _
      have l1 : s1.low = s.low := by rw [← hs1]; split; rfl; exact St.stir_low _ _
      have b1 : s1.lowb = s.lowb := by rw [← hs1]; split; rfl; exact St.stir_lowb _ _
      have g1 : ∀ k, k ≠ rt → s1.get k = s.get k := fun k hk => by rw [← hs1]; split; rfl; rw [h11]; exact St.stir_get_ne hk
      have hgi : ∃ q2, s1.get i = some (.row q2) ∧ q2.elem = e ∧ q2.cs = q.cs := by
        rw [← hs1]
        split
        · exact ⟨q, h2, h4, rfl⟩
        · rcases St.stir_get s q.root i with hg | ⟨q2, hg1, hg2⟩
          · exact ⟨q, by rw [hg]; exact h2, h4, rfl⟩
          · rw [h2] at hg1
            injection hg1 with hg1
            injection hg1 with hg1
            subst hg1
            exact ⟨_, hg2, h4, rfl⟩
      have hgr : ∃ q3, s1.get rt = some (.row q3) := by
        rw [← hs1]
        split
        · exact ⟨q', h13⟩
        · rcases St.stir_get s q.root rt with hg | ⟨q2, hg1, hg2⟩
          · exact ⟨q', by rw [hg]; exact h13⟩
          · exact ⟨_, hg2⟩
      obtain ⟨q2, g2, g3, g4⟩ := hgi
      obtain ⟨q3, g5⟩ := hgr
      let nr : Row := { elem := e, cs := (q.cs.drop 0).take (xs.length * sz) ++ news, mode := .own, root := q.root, stored := false, esz := sz }
      let s2 := ((s1.put i (.row { q2 with mode := .old, cs := q2.cs.take (0 + xs.length * sz) })).new (.row nr)).wrote (if 0 + xs.length * sz = q.cs.length then i else min i q.root)
      have get2 : ∀ k, s2.get k = if k = s.next then some (.row nr) else if k = i then some (.row { q2 with mode := .old, cs := q2.cs.take (0 + xs.length * sz) }) else s1.get k := fun k => by
        show ((s1.put i _).new _).get k = _
        rw [St.get_new, St.next_put, n1, St.get_put]
      have n2 : s2.next = s.next + 1 := by show (s1.put i _).next + 1 = _; rw [St.next_put, n1]
      have happ : s.app (.slice (some ⟨i, 0, none⟩) xs.length c) e sz bytes news ys.length = some (.slice (some ⟨s.next, 0, none⟩) (xs ++ ys).length (xs ++ ys).length, s2) := by
        unfold St.app
        rw [if_pos ⟨hlen, hz, hoc⟩]
        simp only [h0, if_false]
        rw [if_pos ⟨hl, hle⟩, h2]
        dsimp only
        rw [if_pos ⟨h3, h4, h5, by omega⟩, hs1, g2]
        simp only [n1, List.length_append]
        rfl
      refine ⟨_, _, rt, s2, happ, b1, ?_⟩
      refine C.wstep hN hX hF hb rfl (by omega) (fun k hk hk' => ?_) b1 (fun m hm' h => ?_) ?_ (fun k hk => ?_)
      · simp [On.foot] at hk'
        rw [get2, if_neg (by omega), if_neg hk'.1, g1 k hk'.2]
      · have a1 := hm' i (by simp [On.foot])
        have a2 := hm' rt (by simp [On.foot])
        show m ≤ min s1.low (if _ then i else min i q.root)
        rw [l1]
        refine Nat.le_min.2 ⟨h, ?_⟩
        split
        · exact a1
        · exact Nat.le_min.2 ⟨a1, by omega⟩
      · refine .inr (.inr ⟨s.next, nr, rfl, by rw [get2, if_pos rfl], rfl, rfl, hs.symm, ?_, ?_, by omega, C.le, Nat.le_refl _, by show q.root < _; omega, h11, h12, ?_, rfl⟩)
        · show (xs ++ ys).length * r.sz ≤ ((q.cs.drop 0).take (xs.length * sz) ++ news).length
          rw [hs, List.length_append, List.length_append, Nat.add_mul, hlen, List.length_take, List.drop_zero]
          omega
        · show many r s2 (xs ++ ys) (((q.cs.drop 0).take (xs.length * sz) ++ news).take ((xs ++ ys).length * r.sz))
          rw [hs, List.length_append, Nat.add_mul, ← hlen, List.drop_zero, List.take_of_length_le (by rw [List.length_append, List.length_take]; omega)]
          exact (h6'.fl hfl).append (hm.fl hfl)
        · show ∃ q', s2.get rt = some (.row q')
          rw [get2]
          split
          · exact ⟨_, rfl⟩
          · split
            · exact ⟨_, rfl⟩
            · exact ⟨q3, g5⟩
      · simp [On.foot] at hk
        rcases hk with rfl | rfl
        · exact .inr (Nat.le_refl _)
        · exact .inl (by simp [On.foot])
theorem Rf.kappW {E : Env} {u e : TypeId} {sz bytes c rt : Nat} {r : Rep α} {xs ys : List α} {A : Option Addr} {y : Value} {K : Value → St → Ans} {P : List α → Option ρ} (j : Nat) (C : Cx N X Z s0 s L B G) (hN : s0.next = N) (hX : NoRow X s0) (hF : ∀ b ∈ B, b.r.Fl) (hb : B[j]? = some ⟨r, xs, A, c, e, true, rt⟩) (hs : r.sz = sz) (hz : 0 < sz) (hby : 0 < bytes)
    (hy : Ap E u sz y s r ys) (hK : ∀ A' c' rt' s', Cx N X Z s0 s' L (B.set j ⟨r, xs ++ ys, A', c', e, true, rt'⟩) [] → Rf (P (xs ++ ys)) H Q (K (.slice A' (xs ++ ys).length c') s')) :
    Rf (apP bytes xs ys P) H Q (Go.Proofs.YtckalckfihhldaaDoorF.kapp E u sz bytes e (.slice A xs.length c) y s K) := fun q e' hq => by
  unfold apP at e'
  split at e'
  · rename_i hl
    obtain ⟨news, h1, h2⟩ := hy
    obtain ⟨A', c', rt', s', h3, -, C'⟩ := C.appW hN hX hF hb hs hz hby h2 hl
    unfold Go.Proofs.YtckalckfihhldaaDoorF.kapp
    rw [h1]
    simp only [h3]
    exact hK A' c' rt' s' C' q e' hq
  · cases e'
theorem Rf.kappWA {E : Env} {u e : TypeId} {sz bytes c rt : Nat} {r : Rep α} {xs ys : List α} {A : Option Addr} {y : Value} {K : Value → St → Ans} {P : List α → Option ρ} (j : Nat) (C : Cx N X Z s0 s L B G) (hN : s0.next = N) (hX : NoRow X s0) (hF : ∀ b ∈ B, b.r.Fl) (hb : B[j]? = some ⟨r, xs, A, c, e, true, rt⟩) (hs : r.sz = sz) (hz : 0 < sz) (hby : 0 < bytes)
    (hy : Ap E u sz y { s with lowb := s.next } r ys) (hK : ∀ A' c' rt' s', s.next ≤ s'.lowb → Cx N X Z s0 { s' with lowb := min s.lowb s'.lowb } L (B.set j ⟨r, xs ++ ys, A', c', e, true, rt'⟩) [] → Rf (P (xs ++ ys)) H Q (K (.slice A' (xs ++ ys).length c') s')) :
    Rf (apP bytes xs ys P) H Q (Go.Proofs.YtckalckfihhldaaDoorF.kapp E u sz bytes e (.slice A xs.length c) y { s with lowb := s.next } K) := fun q e' hq => by
  unfold apP at e'
  split at e'
  · rename_i hl
    obtain ⟨news, h1, h2⟩ := hy
    obtain ⟨A', c', rt', s', h3, h4, C'⟩ := C.lb.appW hN hX hF hb hs hz hby h2 hl
    unfold Go.Proofs.YtckalckfihhldaaDoorF.kapp
    rw [h1]
    simp only [h3]
    exact hK A' c' rt' s' (by rw [h4]; exact Nat.le_refl _) (C.lbBack C') q e' hq
  · cases e'
/-! ### The front of a slice -/
theorem Cx.frontW (C : Cx N X Z s0 s L B G) {r : Rep α} {xs : List α} {A : Option Addr} {c rt j : Nat} {e : TypeId} (hb : B[j]? = some ⟨r, xs, A, c, e, true, rt⟩) (n : Nat) : Cx N X Z s0 s L (B.set j ⟨r, xs.take n, A, c, e, true, rt⟩) G := by
  have hm : (⟨r, xs, A, c, e, true, rt⟩ : On) ∈ B := List.mem_of_getElem? hb
  refine ⟨C.keep, C.kr, C.le, C.lx, C.zx, C.obj, fun b hb' => ?_, C.lnd, dj_set C.bnd fun i p hne hi x hx hx' => foot_ne C.bnd hi hb hne x hx hx', C.fact⟩
  rcases mem_set_or hb' with rfl | ⟨i, hne, hi⟩
  · rcases C.own _ hm with ⟨h1, h2, h3⟩ | ⟨i, q, _, _, _, _, _, _, _, _, _, _, _, _, _, h⟩ | ⟨i, q, h1, h2, h3, h4, h5, h6, h6', h7, h8, h9, h10, h11, h12, h13, h14⟩
    · exact .inl ⟨h1, by dsimp only at h2 ⊢; rw [h2, List.take_nil], h3⟩
    · cases h
    · dsimp only at h6 h6' h9
      have e1 : (xs.take n).length * r.sz ≤ xs.length * r.sz := Nat.mul_le_mul_right _ (by simp; omega)
      refine .inr (.inr ⟨i, q, h1, h2, h3, h4, h5, by dsimp only; omega, ?_, h7, h8, by dsimp only; simp; omega, h10, h11, h12, h13, rfl⟩)
      dsimp only
      have := h6'.take n
      rw [List.take_take] at this
      rw [List.length_take, show min n xs.length * r.sz = min (n * r.sz) (xs.length * r.sz) by rw [Nat.mul_min_mul_right] ]
      exact this
  · exact C.own b (List.mem_of_getElem? hi)
theorem Rf.kslW {E : Env} {t e e' : TypeId} {r : Rep α} {xs : List α} {A : Option Addr} {c rt : Nat} {lo hi : Option Value} {h : Int} {K : Value → Ans} {P : List α → Option ρ} (j : Nat) (hu : E.und t = some (.slice e)) (hi' : (E.info e).map (fun x => x.2.1) = some r.sz) (C : Cx N X Z s0 s L B G) (hb : B[j]? = some ⟨r, xs, A, c, e', true, rt⟩)
    (hlo : bnd lo (0 : Nat) 0) (hhi : bnd hi xs.length h) (hK : ∀ zs A' c', Cx N X Z s0 s L (B.set j ⟨r, zs, A', c', e', true, rt⟩) G → Rf (P zs) H Q (K (.slice A' zs.length c'))) : Rf (slP xs 0 h P) H Q (kslice E t (.slice A xs.length c) lo hi .none s K) := fun q e1 hq => by
  have hm : (⟨r, xs, A, c, e', true, rt⟩ : On) ∈ B := List.mem_of_getElem? hb
  unfold slP at e1
  split at e1
  · rename_i h0
    split at e1
    · rename_i h1
      split at e1
      · rename_i h2
        have C' := C.frontW hb h.toNat
        have e2 : (xs.take h.toNat).drop (0 : Int).toNat = xs.take h.toNat := rfl
        rw [e2] at e1
        have hsr := (C.own _ hm).sr
        dsimp only at hsr
        have hA : (A = .none ∧ xs = [] ∧ c = 0) ∨ ∃ i q, A = some ⟨i, 0, .none⟩ ∧ s.get i = some (.row q) ∧ (q.esz = 0 ∨ q.esz = r.sz) ∧ xs.length ≤ c := by
          rcases C.own _ hm with h | ⟨i, q, a1, a2, _, _, a3, _, _, _, a4, _⟩ | ⟨i, q, a1, a2, _, _, a3, _, _, _, _, a4, _⟩
          · exact .inl h
          · exact .inr ⟨i, q, a1, a2, .inr a3, a4⟩
          · exact .inr ⟨i, q, a1, a2, .inr a3, a4⟩
        rcases hA with ⟨rfl, rfl, rfl⟩ | ⟨i, q1, rfl, a2, a3, a4⟩
        · have hh : h = 0 := by simp at h2; omega
          subst hh
          unfold kslice
          simp only [List.length_nil, hu]
          cases hie : E.info e with
          | none => rw [hie] at hi'; cases hi'
          | some y =>
            dsimp only
            rw [kbound_bnd hlo, kbound_bnd (by simpa using hhi), if_pos ⟨rfl, rfl⟩]
            exact hK [] .none 0 C' q e1 hq
        · have hlen : (xs.take h.toNat).length = h.toNat := by simp; omega
          unfold kslice
          dsimp only
          rw [hu]
          dsimp only
          cases hie : E.info e with
          | none => rw [hie] at hi'; cases hi'
          | some y =>
            obtain ⟨y1, y2, y3⟩ := y
            rw [hie] at hi'
            simp only [Option.map_some, Option.some.injEq] at hi'
            subst hi'
            have hrow : s.row? i = some q1 := by unfold St.row?; rw [a2]
            rw [hrow]
            dsimp only
            rw [if_pos a3, kbound_bnd hlo, kbound_bnd hhi, if_pos h0, if_pos h1, if_pos (by omega)]
            have := hK _ (some ⟨i, 0, .none⟩) c C' q e1 hq
            rw [hlen] at this
            simpa using this
      · cases e1
    · cases e1
  · cases e1
theorem Rf.kslWn {E : Env} {t e e' : TypeId} {r : Rep α} {xs : List α} {A : Option Addr} {c rt n : Nat} (hn : n = xs.length) {lo hi : Option Value} {h : Int} {K : Value → Ans} {P : List α → Option ρ} (j : Nat) (hu : E.und t = some (.slice e)) (hi' : (E.info e).map (fun x => x.2.1) = some r.sz) (C : Cx N X Z s0 s L B G) (hb : B[j]? = some ⟨r, xs, A, c, e', true, rt⟩)
    (hlo : bnd lo (0 : Nat) 0) (hhi : bnd hi n h) (hK : ∀ zs A' c', Cx N X Z s0 s L (B.set j ⟨r, zs, A', c', e', true, rt⟩) G → Rf (P zs) H Q (K (.slice A' zs.length c'))) : Rf (slP xs 0 h P) H Q (kslice E t (.slice A n c) lo hi .none s K) := by
  subst hn
  exact Rf.kslW j hu hi' C hb hlo hhi hK
theorem Rf.kslN {E : Env} {t e : TypeId} {lo hi : Option Value} {l h : Int} {K : Value → Ans} {P : Option ρ} (hu : E.und t = some (.slice e)) (hi' : (E.info e).isSome = true)
    (hlo : bnd lo (0 : Nat) l) (hhi : bnd hi (0 : Nat) h) (hK : Rf P H Q (K (.slice .none 0 0))) : Rf (slP ([] : List α) l h (fun _ => P)) H Q (kslice E t (.slice .none 0 0) lo hi .none s K) := fun q e1 hq => by
  unfold slP at e1
  split at e1
  · split at e1
    · split at e1
      · rename_i h0 h1 h2
        have hl : l = 0 := by simp at h2; omega
        have hh : h = 0 := by simp at h2; omega
        subst hl; subst hh
        unfold kslice
        simp only [hu]
        cases hie : E.info e with
        | none => rw [hie] at hi'; cases hi'
        | some y =>
          dsimp only
          rw [kbound_bnd hlo, kbound_bnd hhi, if_pos ⟨rfl, rfl⟩]
          exact hK q e1 hq
      · cases e1
    · cases e1
  · cases e1
end
end
end Go.Proofs.YtckalckfihhldaaDoorF
