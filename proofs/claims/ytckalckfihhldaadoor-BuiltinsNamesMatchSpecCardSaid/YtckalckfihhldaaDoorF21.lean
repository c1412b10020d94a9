/- The abstract heap machine, part 21: what is known of the memory; a run told by a plain function. -/
import Derived.Test.YtckalckfihhldaaDoorF20
set_option linter.unusedVariables false
set_option linter.unusedSimpArgs false
namespace Go.Proofs.YtckalckfihhldaaDoorF
open Go

/-- Objects below n are as they were, but for X; Z: the boxes of X. -/
structure Kp (n : Nat) (X Z : List Nat) (s s' : St) : Prop where
  next : s.next ≤ s'.next
  get : ∀ i, i < n → i ∉ X → s'.get i = s.get i
  lowb : ∀ m, m ≤ n → (∀ i ∈ Z, m ≤ i) → m ≤ s.lowb → m ≤ s'.lowb
  low : ∀ m, m ≤ n → (∀ i ∈ X, m ≤ i) → m ≤ s.low → m ≤ s'.low
theorem Kp.refl (n : Nat) (X Z : List Nat) (s : St) : Kp n X Z s s := ⟨Nat.le_refl _, fun _ _ _ => rfl, fun _ _ _ h => h, fun _ _ _ h => h⟩
/-- A slice of one's own. v: not, these elements and no more, and what was cut off it can be read; or so: there may be more cells behind, and it can be written. rt: the root of its line. -/
structure On where
  {α : Type}
  r : Rep α
  xs : List α
  A : Option Addr
  c : Nat
  e : TypeId
  v : Bool
  rt : Nat
def On.foot (o : On) : List Nat := match o.A with | some a => [a.block, o.rt] | none => []
def On.holds (N : Nat) (X : List Nat) (s : St) (o : On) : Prop :=
  (o.A = none ∧ o.xs = [] ∧ o.c = 0) ∨
  (∃ i q, o.A = some ⟨i, 0, none⟩ ∧ s.get i = some (.row q) ∧ q.mode = .own ∧ q.elem = o.e ∧ q.esz = o.r.sz ∧ many o.r s o.xs q.cs ∧ i < s.next ∧ (N ≤ i ∨ i ∈ X) ∧ o.xs.length ≤ o.c ∧ q.root < s.next ∧ s.calm q.root = true ∧ q.root = o.rt ∧ (N ≤ o.rt ∨ o.rt ∈ X) ∧ o.v = false) ∨
  ∃ i q, o.A = some ⟨i, 0, none⟩ ∧ s.get i = some (.row q) ∧ q.mode = .own ∧ q.elem = o.e ∧ q.esz = o.r.sz ∧ o.xs.length * o.r.sz ≤ q.cs.length ∧ many o.r s o.xs (q.cs.take (o.xs.length * o.r.sz)) ∧ i < s.next ∧ N ≤ i ∧ o.xs.length ≤ o.c ∧ q.root < s.next ∧ q.root = o.rt ∧ N ≤ o.rt ∧ (∃ q', s.get o.rt = some (.row q')) ∧ o.v = true
/-- What is known and stays. -/
structure Fa where
  p : St → Prop
  st : ∀ s s', s.next ≤ s'.next → Kr s.next s s' → p s → p s'
def Fa.sr {α : Type} (r : Rep α) (A : Option Addr) (c : Nat) (xs : List α) : Fa := ⟨fun s => Sr r s A c xs, fun _ _ h1 h2 h => h.ext h1 h2⟩
def Fa.lo (b o : Nat) (cs : List Value) : Fa := ⟨fun s => Lo s b o cs, fun _ _ h1 h2 h => h.ext h1 h2⟩
theorem On.holds.step {N : Nat} {X Y : List Nat} {s s' : St} {o : On} (h : o.holds N X s) (hn : s.next ≤ s'.next) (hg : ∀ i, i < s.next → i ∉ Y → s'.get i = s.get i) (hr : Kr s.next s s') (hY : ∀ i ∈ o.foot, i ∉ Y) : o.holds N X s' := by
  rcases h with h | ⟨i, q, h1, h2, h3, h4, h5, h6, h7, h8, h9, h10, h11, h12, h13, h14⟩ | ⟨i, q, h1, h2, h3, h4, h5, h6, h6', h7, h8, h9, h10, h11, h12, ⟨q', h13⟩, h14⟩
  · exact .inl h
  · have hi : i ∉ Y := hY i (by simp [On.foot, h1])
    exact .inr (.inl ⟨i, q, h1, by rw [hg i h7 hi]; exact h2, h3, h4, h5, h6.ext hn hr, by omega, h8, h9, by omega, hr.calm _ h10 h11, h12, h13, h14⟩)
  · have hi : i ∉ Y := hY i (by simp [On.foot, h1])
    have hrt : o.rt ∉ Y := hY o.rt (by simp [On.foot, h1])
    exact .inr (.inr ⟨i, q, h1, by rw [hg i h7 hi]; exact h2, h3, h4, h5, h6, h6'.ext hn hr, by omega, h8, h9, by omega, h11, h12, ⟨q', by rw [hg _ (by omega) hrt]; exact h13⟩, h14⟩)
theorem On.holds.sr {N : Nat} {X : List Nat} {s : St} {o : On} (h : o.holds N X s) : Sr o.r s o.A o.c o.xs := by
  rcases h with ⟨h1, h2, h3⟩ | ⟨i, q, h1, h2, h3, h4, h5, h6, h7, h8, h9, h10, h11, -⟩ | ⟨i, q, h1, h2, h3, h4, h5, h6, h6', h7, h8, h9, -⟩
  · rw [h1, h2, h3]; exact Sr.nil
  · have hl := h6.len
    refine ⟨h9, .inr ⟨i, 0, q.esz, q.cs, h1, h7, ?_, .inr h5, by omega, ?_⟩⟩
    · unfold St.rc
      rw [h2]
      simp [h3]
    · rw [List.drop_zero, List.take_of_length_le (by omega)]
      exact h6
  · refine ⟨h9, .inr ⟨i, 0, q.esz, q.cs, h1, h7, ?_, .inr h5, by omega, by rw [List.drop_zero]; exact h6'⟩⟩
    unfold St.rc
    rw [h2]
    simp [h3]
/-- From a callee's to the caller's. -/
theorem On.holds.up {N M : Nat} {X Y : List Nat} {s : St} {o : On} (h : o.holds M Y s) (hM : N ≤ M) (hY : ∀ i ∈ Y, N ≤ i ∨ i ∈ X) : o.holds N X s := by
  rcases h with h | ⟨i, q, h1, h2, h3, h4, h5, h6, h7, h8, h9, h10, h11, h12, h13, h14⟩ | ⟨i, q, h1, h2, h3, h4, h5, h6, h6', h7, h8, h9, h10, h11, h12, h13, h14⟩
  · exact .inl h
  · exact .inr (.inl ⟨i, q, h1, h2, h3, h4, h5, h6, h7, h8.elim (fun h => .inl (by omega)) (hY i), h9, h10, h11, h12, h13.elim (fun h => .inl (by omega)) (hY _), h14⟩)
  · exact .inr (.inr ⟨i, q, h1, h2, h3, h4, h5, h6, h6', h7, by omega, h9, h10, h11, by omega, h13, h14⟩)
theorem On.holds.foot_lt {N : Nat} {X : List Nat} {s : St} {o : On} (h : o.holds N X s) : ∀ i ∈ o.foot, i < s.next ∧ (N ≤ i ∨ i ∈ X) ∧ ∃ q, s.get i = some (.row q) := by
  intro i hi
  rcases h with ⟨h1, _⟩ | ⟨j, q, h1, h2, h3, h4, h5, h6, h7, h8, h9, h10, h11, h12, h13, h14⟩ | ⟨j, q, h1, h2, h3, h4, h5, h6, h6', h7, h8, h9, h10, h11, h12, ⟨q', h13⟩, h14⟩
  · simp [On.foot, h1] at hi
  · simp [On.foot, h1] at hi
    rcases hi with rfl | rfl
    · exact ⟨h7, h8, q, h2⟩
    · refine ⟨by omega, h13, ?_⟩
      rw [h12] at h11
      unfold St.calm at h11
      split at h11
      · rename_i q' hq'; exact ⟨q', hq'⟩
      · cases h11
  · simp [On.foot, h1] at hi
    rcases hi with rfl | rfl
    · exact ⟨h7, .inl h8, q, h2⟩
    · exact ⟨by omega, .inl h12, q', h13⟩

def Dj (p q : On) : Prop := ∀ x ∈ p.foot, x ∉ q.foot
structure Cx (N : Nat) (X Z : List Nat) (s0 s : St) (L : List (Nat × AObj)) (B : List On) (G : List Fa) : Prop where
  keep : Kp N X Z s0 s
  kr : Kr N s0 s
  le : N ≤ s.next
  lx : ∀ i ∈ X, i < N
  zx : ∀ i ∈ Z, i ∈ X
  obj : ∀ p ∈ L, s.get p.1 = some p.2 ∧ p.1 < s.next ∧ (N ≤ p.1 ∨ p.1 ∈ Z) ∧ isBx p.2 = true
  own : ∀ b ∈ B, b.holds N X s
  lnd : (L.map (·.1)).Nodup
  bnd : B.Pairwise Dj
  fact : ∀ g ∈ G, g.p s
section
variable {N : Nat} {X Z : List Nat} {s0 s : St} {L : List (Nat × AObj)} {B : List On} {G : List Fa}
theorem Dj.symm {p q : On} (h : Dj p q) : Dj q p := fun x hq hp => h x hp hq
theorem perm_pick {α : Type _} : ∀ (l : List α) (j : Nat) (o : α), l[j]? = some o → (o :: l.eraseIdx j).Perm l
  | [], j, o, h => by simp at h
  | a :: l, 0, o, h => by
    obtain rfl : a = o := by simpa using h
    exact List.Perm.refl _
  | a :: l, j + 1, o, h => (List.Perm.swap a o _).trans ((perm_pick l j o (by simpa using h)).cons a)
/-- A slice of one's own is put ahead of the others. -/
theorem Cx.pick (C : Cx N X Z s0 s L B G) (j : Nat) {o : On} (h : B[j]? = some o) : Cx N X Z s0 s L (o :: B.eraseIdx j) G := by
  have hp := perm_pick B j o h
  exact ⟨C.keep, C.kr, C.le, C.lx, C.zx, C.obj, fun b hb => C.own b (hp.mem_iff.1 hb), C.lnd, (hp.pairwise_iff fun h => Dj.symm h).2 C.bnd, C.fact⟩
theorem Cx.start (s : St) : Cx s.next [] [] s s [] [] [] := ⟨Kp.refl _ _ _ _, Kr.refl _ _, Nat.le_refl _, by simp, by simp, by simp, by simp, by simp, List.Pairwise.nil, by simp⟩
theorem Cx.step (C : Cx N X Z s0 s L B G) {s' : St} {L' : List (Nat × AObj)} {B' : List On} {G' : List Fa} (Y Y' : List Nat) (hk : Kp s.next Y Y' s s') (hr : Kr s.next s s') (hY : ∀ i ∈ Y, N ≤ i ∨ i ∈ X) (hY' : ∀ i ∈ Y', N ≤ i ∨ i ∈ Z)
    (hL : ∀ p ∈ L', (p ∈ L ∧ p.1 ∉ Y) ∨ (s'.get p.1 = some p.2 ∧ p.1 < s'.next ∧ (N ≤ p.1 ∨ p.1 ∈ Z) ∧ isBx p.2 = true)) (hLn : (L'.map (·.1)).Nodup)
    (hB : ∀ b ∈ B', (b ∈ B ∧ ∀ i ∈ b.foot, i ∉ Y) ∨ b.holds N X s') (hBn : B'.Pairwise Dj) (hG : ∀ g ∈ G', g ∈ G ∨ g.p s') : Cx N X Z s0 s' L' B' G' := by
  have hn := hk.next
  have hle := C.le
  refine ⟨⟨Nat.le_trans C.keep.next hn, fun i h1 h2 => ?_, fun m h1 h2 h3 => ?_, fun m h1 h2 h3 => ?_⟩, C.kr.trans hr hle, by omega, C.lx, C.zx, fun p hp => ?_, fun b hb => ?_, hLn, hBn, fun g hg => ?_⟩
  · rw [hk.get i (by omega) fun h => ?_]
    · exact C.keep.get i h1 h2
    · rcases hY i h with h | h
      · omega
      · exact h2 h
  · refine hk.lowb m (by omega) (fun i hi => ?_) (C.keep.lowb m h1 h2 h3)
    rcases hY' i hi with h | h
    · omega
    · exact h2 i h
  · refine hk.low m (by omega) (fun i hi => ?_) (C.keep.low m h1 h2 h3)
    rcases hY i hi with h | h
    · omega
    · exact h2 i h
  · rcases hL p hp with ⟨h, k⟩ | h
    · obtain ⟨a, b, c, d⟩ := C.obj p h
      exact ⟨by rw [hk.get _ b k]; exact a, by omega, c, d⟩
    · exact h
  · rcases hB b hb with ⟨h, k⟩ | h
    · exact (C.own b h).step hn hk.get hr k
    · exact h
  · rcases hG g hg with h | h
    · exact g.st _ _ hn hr (C.fact g h)
    · exact h
/-- What is forgotten. -/
theorem Cx.sub (C : Cx N X Z s0 s L B G) {L' : List (Nat × AObj)} {B' : List On} {G' : List Fa} (hL : L'.Sublist L) (hB : B'.Sublist B) (hG : G'.Sublist G) : Cx N X Z s0 s L' B' G' := by
  exact ⟨C.keep, C.kr, C.le, C.lx, C.zx, fun p hp => C.obj p (hL.subset hp), fun b hb => C.own b (hB.subset hb), (hL.map _).nodup C.lnd, C.bnd.sublist hB, fun g hg => C.fact g (hG.subset hg)⟩
theorem Cx.add (C : Cx N X Z s0 s L B G) (g : Fa) (h : g.p s) : Cx N X Z s0 s L B (g :: G) :=
  ⟨C.keep, C.kr, C.le, C.lx, C.zx, C.obj, C.own, C.lnd, C.bnd, fun q hq => by rcases List.mem_cons.1 hq with rfl | hq; exact h; exact C.fact q hq⟩
theorem Cx.addNil (C : Cx N X Z s0 s L B G) {α : Type} (r : Rep α) (e : TypeId) : Cx N X Z s0 s L (⟨r, [], none, 0, e, false, 0⟩ :: B) G :=
  ⟨C.keep, C.kr, C.le, C.lx, C.zx, C.obj, fun q hq => by rcases List.mem_cons.1 hq with rfl | hq; exact .inl ⟨rfl, rfl, rfl⟩; exact C.own q hq, C.lnd, List.pairwise_cons.2 ⟨fun q _ x hx => by simp [On.foot] at hx, C.bnd⟩, C.fact⟩
/-- What was read at the start can be read. -/
theorem Cx.sr0 (C : Cx N X Z s0 s L B G) (hN : s0.next = N) {α : Type} {r : Rep α} {A : Option Addr} {c : Nat} {xs : List α} (h : Sr r s0 A c xs) : Sr r s A c xs := h.ext C.keep.next (by rw [hN]; exact C.kr)
theorem Cx.lo0 (C : Cx N X Z s0 s L B G) (hN : s0.next = N) {b o : Nat} {cs : List Value} (h : Lo s0 b o cs) : Lo s b o cs := h.ext C.keep.next (by rw [hN]; exact C.kr)
theorem Cx.srB (C : Cx N X Z s0 s L B G) {o : On} (h : o ∈ B) : Sr o.r s o.A o.c o.xs := (C.own o h).sr
theorem Cx.srG (C : Cx N X Z s0 s L B G) {α : Type} {r : Rep α} {A : Option Addr} {c : Nat} {xs : List α} (h : Fa.sr r A c xs ∈ G) : Sr r s A c xs := C.fact _ h
theorem Cx.loG (C : Cx N X Z s0 s L B G) {b o : Nat} {cs : List Value} (h : Fa.lo b o cs ∈ G) : Lo s b o cs := C.fact _ h
theorem Cx.at (C : Cx N X Z s0 s L B G) {b off : Nat} {e : TypeId} {cs : List Value} {v : Value} (hm : (b, AObj.box e cs) ∈ L) (hv : cs[off]? = some v) : At s b off v := by
  unfold At St.cell
  rw [cells_of (C.obj _ hm).1 rfl]
  exact hv
/-- A box that is read alone. -/
theorem Cx.at0 (C : Cx N X Z s0 s L B G) {b off : Nat} {e : TypeId} {cs : List Value} {v : Value} (h : s0.get b = some (.box e cs)) (hb : b < N) (hX : b ∉ X) (hv : cs[off]? = some v) : At s b off v := by
  unfold At St.cell
  rw [cells_of (by rw [C.keep.get b hb hX]; exact h) rfl]
  exact hv
theorem Cx.isB (C : Cx N X Z s0 s L B G) {b : Nat} {e : TypeId} {cs : List Value} (hm : (b, AObj.box e cs) ∈ L) : isB (s.get b) = true := by
  rw [(C.obj _ hm).1]; rfl
theorem Cx.isB0 (C : Cx N X Z s0 s L B G) {b : Nat} {e : TypeId} {cs : List Value} (h : s0.get b = some (.box e cs)) (hb : b < N) (hX : b ∉ X) : Go.Proofs.YtckalckfihhldaaDoorF.isB (s.get b) = true := by
  rw [C.keep.get b hb hX, h]; rfl
theorem Cx.new (C : Cx N X Z s0 s L B G) (t : TypeId) (cs : List Value) : Cx N X Z s0 (s.new (.box t cs)) ((s.next, .box t cs) :: L) B G := by
  refine C.step [] [] ⟨by simp, fun i h _ => by rw [St.get_new, if_neg (by omega)], fun _ _ _ h => h, fun m _ _ h => h⟩ (Kr.new _ (Nat.le_refl _) _) (by simp) (by simp) (fun p hp => ?_) ?_ (fun b hb => .inl ⟨hb, by simp⟩) C.bnd (fun g hg => .inl hg)
  · rcases List.mem_cons.1 hp with rfl | hp
    · exact .inr ⟨by rw [St.get_new, if_pos rfl], by simp, .inl C.le, rfl⟩
    · exact .inl ⟨hp, by simp⟩
  · simp only [List.map_cons, List.nodup_cons]
    refine ⟨fun hm => ?_, C.lnd⟩
    obtain ⟨p, hp, e⟩ := List.mem_map.1 hm
    have := (C.obj p hp).2.1
    omega
theorem Cx.fresh (C : Cx N X Z s0 s L B G) : ∀ b ∈ B, ∀ i ∈ b.foot, i < s.next := fun b hb i hi => ((C.own b hb).foot_lt _ hi).1
theorem Cx.newR (C : Cx N X Z s0 s L B G) {α : Type} {r : Rep α} {xs : List α} {e : TypeId} {cs : List Value} (sz : Nat) (hs : r.sz = sz) (hm : many r s xs cs) :
    Cx N X Z s0 (s.new (.row { elem := e, cs := cs, mode := .own, root := s.next, stored := false, esz := sz })) L (⟨r, xs, some ⟨s.next, 0, none⟩, xs.length, e, false, s.next⟩ :: B) G := by
  have hk : Kr s.next s (s.new (.row { elem := e, cs := cs, mode := .own, root := s.next, stored := false, esz := sz })) := Kr.new _ (Nat.le_refl _) _
  refine C.step [] [] ⟨by simp, fun i h _ => by rw [St.get_new, if_neg (by omega)], fun _ _ _ h => h, fun m _ _ h => h⟩ hk (by simp) (by simp) (fun p hp => .inl ⟨hp, by simp⟩) C.lnd (fun b hb => ?_) ?_ (fun g hg => .inl hg)
  · rcases List.mem_cons.1 hb with rfl | hb
    · refine .inr (.inr (.inl ⟨s.next, _, rfl, by rw [St.get_new, if_pos rfl], rfl, rfl, hs.symm, hm.ext (by simp) hk, by simp, .inl C.le, Nat.le_refl _, by simp, ?_, rfl, .inl C.le, rfl⟩))
      unfold St.calm
      rw [St.get_new, if_pos rfl]
      rfl
    · exact .inl ⟨hb, by simp⟩
  · refine List.pairwise_cons.2 ⟨fun q hq x hx hx' => ?_, C.bnd⟩
    simp [On.foot] at hx
    have := C.fresh q hq x hx'
    omega
theorem nodup_set {l : List (Nat × AObj)} {j : Nat} {b : Nat} {o o' : AObj} (h : (l.map (·.1)).Nodup) (hj : l[j]? = some (b, o)) : ((l.set j (b, o')).map (·.1)).Nodup := by
  have : (l.set j (b, o')).map (·.1) = l.map (·.1) := by
    rw [List.map_set]
    refine List.ext_getElem? fun i => ?_
    rw [List.getElem?_set]
    split
    · rename_i e
      subst e
      rw [List.getElem?_map, hj]
      split
      · rfl
      · rename_i hl
        simp at hl
        have := (List.getElem?_eq_some_iff.1 hj).1
        omega
    · rfl
  rw [this]; exact h
theorem mem_set_or {α : Type _} {l : List α} {j : Nat} {x p : α} (h : p ∈ l.set j x) : p = x ∨ ∃ i, i ≠ j ∧ l[i]? = some p := by
  obtain ⟨i, hi⟩ := List.mem_iff_getElem?.1 h
  rw [List.getElem?_set] at hi
  split at hi
  · rename_i e
    split at hi
    · injection hi with hi; exact .inl hi.symm
    · cases hi
  · rename_i e
    exact .inr ⟨i, fun h => e h.symm, hi⟩
theorem fst_ne {l : List (Nat × AObj)} (h : (l.map (·.1)).Nodup) {i j : Nat} {p q : Nat × AObj} (hi : l[i]? = some p) (hj : l[j]? = some q) (hne : i ≠ j) : p.1 ≠ q.1 := by
  intro e
  have hd : (l.map (·.1)).Pairwise (· ≠ ·) := h
  rw [List.pairwise_map, List.pairwise_iff_getElem] at hd
  obtain ⟨a1, a2⟩ := List.getElem?_eq_some_iff.1 hi
  obtain ⟨b1, b2⟩ := List.getElem?_eq_some_iff.1 hj
  rcases Nat.lt_or_gt_of_ne hne with h | h
  · have := hd i j a1 b1 h
    rw [a2, b2] at this
    exact this e
  · have := hd j i b1 a1 h
    rw [a2, b2] at this
    exact this e.symm
theorem Cx.setBox (C : Cx N X Z s0 s L B G) {j b : Nat} {e : TypeId} {cs vs : List Value} {off : Nat} (hm : L[j]? = some (b, .box e cs)) (h1 : off + vs.length ≤ cs.length) (h2 : vs.all oc = true) :
    ∃ s', s.wr b off vs = some s' ∧ Cx N X Z s0 s' (L.set j (b, .box e (writeAt cs off vs))) B G := by
  have hmem : (b, AObj.box e cs) ∈ L := List.mem_of_getElem? hm
  obtain ⟨g1, g2, g3, g4⟩ := C.obj _ hmem
  obtain ⟨s', a, b', c, d, lb, lw⟩ := wr_box g1 h1 h2
  refine ⟨s', a, ?_⟩
  refine C.step [b] [b] ⟨by omega, fun i _ hi => d i (by simpa using hi), fun m _ hm h => by have := hm b (by simp); rw [lb]; omega, fun m _ hm h => by have := hm b (by simp); rw [lw]; omega⟩ (Kr.of_get _ (by omega) (fun i r hi hr => ?_) (Nat.le_refl _)) (by simpa using g3.imp id (C.zx _)) (by simpa using g3) (fun p hp => ?_) (nodup_set C.lnd hm) (fun q hq => .inl ⟨hq, fun i hi => ?_⟩) C.bnd (fun g hg => .inl hg)
  · rw [d i]
    · exact hr
    · rintro rfl
      rw [g1] at hr
      cases hr
  · rcases mem_set_or hp with rfl | ⟨i, hne, hi⟩
    · exact .inr ⟨c, by rw [b']; exact g2, g3, rfl⟩
    · refine .inl ⟨List.mem_of_getElem? hi, ?_⟩
      have := fst_ne C.lnd hi hm hne
      simpa using this
  · obtain ⟨_, _, q', hq'⟩ := (C.own q hq).foot_lt i hi
    simp only [List.mem_singleton]
    rintro rfl
    rw [g1] at hq'
    cases hq'
theorem foot_ne {l : List On} (h : l.Pairwise Dj) {i j : Nat} {p q : On} (hi : l[i]? = some p) (hj : l[j]? = some q) (hne : i ≠ j) : Dj p q := by
  intro x hx hx'
  rw [List.pairwise_iff_getElem] at h
  obtain ⟨a1, a2⟩ := List.getElem?_eq_some_iff.1 hi
  obtain ⟨b1, b2⟩ := List.getElem?_eq_some_iff.1 hj
  rcases Nat.lt_or_gt_of_ne hne with hh | hh
  · have := h i j a1 b1 hh
    rw [a2, b2] at this
    exact this x hx hx'
  · have := h j i b1 a1 hh
    rw [a2, b2] at this
    exact this x hx' hx
theorem dj_set {l : List On} {j : Nat} {q : On} (h : l.Pairwise Dj) (hd : ∀ i p, i ≠ j → l[i]? = some p → Dj p q) : (l.set j q).Pairwise Dj := by
  rw [List.pairwise_iff_getElem] at h ⊢
  intro i k hi hk hlt
  simp only [List.length_set] at hi hk
  have := h i k hi hk hlt
  rw [List.getElem_set, List.getElem_set]
  intro x hx hx'
  split at hx <;> split at hx'
  · omega
  · rename_i e e'
    exact hd k _ (fun h => e' h.symm) (List.getElem?_eq_getElem hk) x hx' hx
  · rename_i e e'
    exact hd i _ (fun h => e h.symm) (List.getElem?_eq_getElem hi) x hx hx'
  · exact this x hx hx'
theorem Cx.app (C : Cx N X Z s0 s L B G) {α : Type} {r : Rep α} {xs ys : List α} {A : Option Addr} {c j rt : Nat} {e : TypeId} {sz bytes : Nat} {news : List Value} (hb : B[j]? = some ⟨r, xs, A, c, e, false, rt⟩) (hs : r.sz = sz) (hz : 0 < sz) (hby : 0 < bytes)
    (hm : many r s ys news) (hl : (xs.length + ys.length) * bytes ≤ 140737488355328) :
    ∃ A' c' rt' s', s.app (.slice A xs.length c) e sz bytes news ys.length = some (.slice A' (xs ++ ys).length c', s') ∧ s'.lowb = s.lowb ∧ Cx N X Z s0 s' L (B.set j ⟨r, xs ++ ys, A', c', e, false, rt'⟩) G := by
  have hlen : news.length = ys.length * sz := by rw [← hs]; exact hm.len
  have hoc := hm.oc
  have hle : xs.length + ys.length ≤ 140737488355328 := Nat.le_trans (Nat.le_mul_of_pos_right _ hby) hl
  have hmem : (⟨r, xs, A, c, e, false, rt⟩ : On) ∈ B := List.mem_of_getElem? hb
  by_cases h0 : ys.length = 0
  · have hy : ys = [] := List.length_eq_zero_iff.1 h0
    subst hy
    have hn : news = [] := hm
    subst hn
    refine ⟨A, c, rt, s, ?_, rfl, ?_⟩
    · unfold St.app
      rw [if_pos ⟨by simp, hz, rfl⟩]
      rcases C.own _ hmem with ⟨h1, h2, h3⟩ | ⟨i, q, h1, -⟩ | ⟨i, q, h1, -⟩
      · dsimp only at h1 h2 h3; subst h1; subst h2; subst h3; simp
      · dsimp only at h1; subst h1; simp
      · dsimp only at h1; subst h1; simp
    · have : (B.set j ⟨r, xs ++ [], A, c, e, false, rt⟩) = B := by
        rw [List.append_nil]
        refine List.ext_getElem? fun i => ?_
        rw [List.getElem?_set]
        split
        · rename_i e'
          subst e'
          have := (List.getElem?_eq_some_iff.1 hb).1
          rw [if_pos this, hb]
        · rfl
      rw [this]; exact C
  · rcases C.own _ hmem with ⟨h1, h2, h3⟩ | ⟨i, q, h1, h2, h3, h4, h5, h6, h7, h8, h9, h10, h11, h12, h13, -⟩ | ⟨i, q, _, _, _, _, _, _, _, _, _, _, _, _, _, _, h⟩
    · dsimp only at h1 h2 h3; subst h1; subst h2; subst h3
      let s1 := s.new (.row { elem := e, cs := news, mode := .own, root := s.next, stored := false, esz := sz })
      have hk : Kr s.next s s1 := Kr.new _ (Nat.le_refl _) _
      refine ⟨some ⟨s.next, 0, none⟩, ys.length, s.next, s1, ?_, rfl, ?_⟩
      · unfold St.app
        rw [if_pos ⟨hlen, hz, hoc⟩]
        simp only [h0, if_false, List.nil_append, List.length_nil]
        rw [if_pos ⟨by simpa using hl, by simpa using hle⟩]
      · refine C.step [] [] ⟨by simp [s1], fun i h _ => by show (s.new _).get i = _; rw [St.get_new, if_neg (by omega)], fun _ _ _ h => h, fun m _ _ h => h⟩ hk (by simp) (by simp) (fun p hp => .inl ⟨hp, by simp⟩) C.lnd (fun b hb' => ?_) ?_ (fun g hg => .inl hg)
        · rcases mem_set_or hb' with rfl | ⟨i, _, hi⟩
          · refine .inr (.inr (.inl ⟨s.next, _, rfl, by show (s.new _).get _ = _; rw [St.get_new, if_pos rfl], rfl, rfl, hs.symm, ?_, by simp [s1], .inl C.le, by simp, by simp [s1], ?_, rfl, .inl C.le, rfl⟩))
            · simpa using hm.ext (by simp [s1]) hk
            · show (s.new _).calm _ = _
              unfold St.calm
              rw [St.get_new, if_pos rfl]
              rfl
          · exact .inl ⟨List.mem_of_getElem? hi, by simp⟩
        · refine dj_set C.bnd fun i p _ hi x hx hx' => ?_
          simp [On.foot] at hx'
          have := ((C.own p (List.mem_of_getElem? hi)).foot_lt x hx).1
          omega
    · dsimp only at h1 h4 h5 h6 h9; subst h1
      have hql : q.cs.length = xs.length * sz := by rw [← hs]; exact h6.len
      have hne : i ≠ s.next := by omega
      let s1 := ((s.put i (.row { q with mode := .old, cs := q.cs.take (0 + xs.length * sz) })).new (.row { elem := e, cs := (q.cs.drop 0).take (xs.length * sz) ++ news, mode := .own, root := q.root, stored := false, esz := sz })).wrote i
      have get1 : ∀ j, s1.get j = if j = s.next then some (.row { elem := e, cs := (q.cs.drop 0).take (xs.length * sz) ++ news, mode := .own, root := q.root, stored := false, esz := sz }) else if j = i then some (.row { q with mode := .old, cs := q.cs.take (0 + xs.length * sz) }) else s.get j := fun j => by
        show ((s.put i _).new _).get j = _
        rw [St.get_new, St.next_put, St.get_put]
      have hnx : s1.next = s.next + 1 := rfl
      have calm1 : ∀ k, k < s.next → s.calm k = true → s1.calm k = true := fun k hk e => by
        unfold St.calm at e ⊢
        rw [get1, if_neg (by omega)]
        split
        · rename_i h
          split at h
          · rename_i hki
            rw [hki, h2] at e
            injection h with h
            injection h with h
            subst h
            exact e
          · rw [h] at e; exact e
        · rename_i h1 h
          split at h
          · rename_i hki
            exact absurd rfl (h _)
          · exfalso
            split at e
            · rename_i r' hr'
              exact h r' hr'
            · cases e
      have hr1 : Kr s.next s s1 := by
        refine ⟨fun k x hk e => ?_, fun k hk e => calm1 k hk e⟩
        unfold St.rc at e ⊢
        rw [get1, if_neg (by omega)]
        by_cases hki : k = i
        · subst hki
          rw [if_pos rfl]
          rw [h2] at e
          dsimp only at e ⊢
          rw [h3] at e
          simp at e
          rw [if_pos rfl, if_pos ⟨by omega, calm1 _ h10 h11⟩, List.take_of_length_le (by omega)]
          exact congrArg some e
        · rw [if_neg hki]
          split at e
          · rename_i r' hr'
            split at e
            · rename_i hm'
              rw [if_pos hm']
              split at e
              · rename_i hc
                rw [if_pos ⟨by omega, calm1 _ hc.1 hc.2⟩]
                exact e
              · cases e
            · rename_i hm'
              rw [if_neg hm']
              exact e
          · cases e
      have happ : s.app (.slice (some ⟨i, 0, none⟩) xs.length c) e sz bytes news ys.length = some (.slice (some ⟨s.next, 0, none⟩) (xs ++ ys).length (xs ++ ys).length, s1) := by
        unfold St.app
        rw [if_pos ⟨hlen, hz, hoc⟩]
        simp only [h0, if_false]
        rw [if_pos ⟨hl, hle⟩, h2]
        simp only [h3, h4, h5, hs, hql, Nat.zero_add, true_and, if_true, Nat.le_refl]
        rw [h2]
        simp [s1]
      refine ⟨_, _, rt, s1, happ, rfl, ?_⟩
      refine C.step [i] [] ⟨by omega, fun k h hk => by rw [get1, if_neg (by omega), if_neg (by simpa using hk)], fun _ _ _ h => h, fun m _ hm h => by have := hm i (by simp); show m ≤ min s.low i; omega⟩ hr1 (by simpa using h8) (by simp) (fun p hp => ?_) C.lnd (fun b hb' => ?_) ?_ (fun g hg => .inl hg)
      · refine .inl ⟨hp, ?_⟩
        obtain ⟨a, _, _, d⟩ := C.obj p hp
        simp only [List.mem_singleton]
        intro e
        rw [e, h2] at a
        injection a with a
        rw [← a] at d
        cases d
      · rcases mem_set_or hb' with rfl | ⟨k, hk, hi⟩
        · refine .inr (.inr (.inl ⟨s.next, { elem := e, cs := (q.cs.drop 0).take (xs.length * sz) ++ news, mode := .own, root := q.root, stored := false, esz := sz }, rfl, by rw [get1, if_pos rfl], rfl, rfl, hs.symm, ?_, by omega, .inl C.le, Nat.le_refl _, by show q.root < _; omega, calm1 _ h10 h11, h12, h13, rfl⟩))
          simp only [List.drop_zero]
          rw [List.take_of_length_le (by omega)]
          exact (h6.ext (by omega) hr1).append (hm.ext (by omega) hr1)
        · refine .inl ⟨List.mem_of_getElem? hi, fun x hx => ?_⟩
          have := foot_ne C.bnd hi hb hk x hx
          simp [On.foot] at this
          simpa using this.1
      · refine dj_set C.bnd fun k p hk hi x hx hx' => ?_
        simp [On.foot] at hx'
        have := ((C.own p (List.mem_of_getElem? hi)).foot_lt x hx).1
        rcases hx' with hx' | hx'
        · omega
        · have := foot_ne C.bnd hi hb hk x hx
          simp [On.foot] at this
          exact this.2 hx'
    · cases h
end
end Go.Proofs.YtckalckfihhldaaDoorF
