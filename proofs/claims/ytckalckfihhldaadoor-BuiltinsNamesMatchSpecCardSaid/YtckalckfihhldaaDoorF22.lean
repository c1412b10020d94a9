/- The abstract heap machine, part 22: rules by which a run is told by a plain function. -/
import Derived.Test.YtckalckfihhldaaDoorF21
set_option linter.unusedVariables false
set_option linter.unusedSimpArgs false
namespace Go.Proofs.YtckalckfihhldaaDoorF
open Go

/-! ### Words of plain functions -/
section
variable {ρ α : Type}
def pj {β : Type} (v : β) (f : β → Option ρ) : Option ρ := f v
def rd (xs : List α) (i : Int) (K : α → Option ρ) : Option ρ := if 0 ≤ i then match xs[i.toNat]? with | some x => K x | none => none else none
def inb (n : Nat) (i : Int) (A : Option ρ) : Option ρ := if 0 ≤ i then if i < n then A else none else none
def apP (bytes : Nat) (xs ys : List α) (K : List α → Option ρ) : Option ρ := if (xs.length + ys.length) * bytes ≤ 140737488355328 then K (xs ++ ys) else none
def slP (xs : List α) (l h : Int) (K : List α → Option ρ) : Option ρ := if 0 ≤ l then if l ≤ h then if h ≤ xs.length then K ((xs.take h.toNat).drop l.toNat) else none else none else none
def idxP (b : ByteArray) (i : Int) (K : Int → Option ρ) : Option ρ := if 0 ≤ i then if h : i.toNat < b.size then K ((b[i.toNat]'h).toNat) else none else none
def subP (b : ByteArray) (l h : Int) (K : ByteArray → Option ρ) : Option ρ := if 0 ≤ l then if l ≤ h then if h ≤ b.size then K (b.extract l.toNat h.toNat) else none else none else none
def catP (a b : ByteArray) (K : ByteArray → Option ρ) : Option ρ := if ((a.size + b.size : Nat) : Int) ≤ 9223372036854775807 then K (a ++ b) else none
def shlP (k : IntKind) (a b : Int) (K : Int → Option ρ) : Option ρ := if b < 0 then none else K (k.wrap (a * 2 ^ min b.toNat k.bits))
def shrP (k : IntKind) (a b : Int) (K : Int → Option ρ) : Option ρ := if b < 0 then none else K (a.fdiv (2 ^ min b.toNat k.bits))
def divP (k : IntKind) (a b : Int) (K : Int → Option ρ) : Option ρ := if b = 0 then none else K (k.wrap (a.tdiv b))
def remP (_k : IntKind) (a b : Int) (K : Int → Option ρ) : Option ρ := if b = 0 then none else K (a.tmod b)
def stP (xs : List α) (i : Int) (x : α) (K : List α → Option ρ) : Option ρ := if 0 ≤ i then if i < xs.length then K (xs.set i.toNat x) else none else none
def loopP {σ τ : Type} (body : σ → Option (σ ⊕ τ)) : Nat → σ → Option τ
  | 0, _ => none
  | n + 1, st => match body st with
    | none => none
    | some (.inl st') => loopP body n st'
    | some (.inr t) => some t
end

/-- If the plain function answers r, the run ends, and what is asked of r holds. -/
def Rf {ρ : Type} (P : Option ρ) (H : ρ → Prop) (Q : ρ → Out → St → Prop) (A : Ans) : Prop := ∀ r, P = some r → H r → Ev A (Q r)
def RtC (N : Nat) (X Z : List Nat) (s : St) (P : Value → St → Prop) : Out → St → Prop := fun o s' => ∃ v, o = .ret v ∧ Kp N X Z s s' ∧ Kr N s s' ∧ P v s'

section
variable {ρ α : Type} {H : ρ → Prop} {Q : ρ → Out → St → Prop}
theorem Rf.none {A : Ans} : Rf none H Q A := fun r h => by cases h
theorem Rf.gen {P : Option ρ} {A : Ans} (h : ∀ H' Q', H' = H → Q' = Q → Rf P H' Q' A) : Rf P H Q A := h H Q rfl rfl
theorem Rf.leaf {r : ρ} {A : Ans} (h : H r → Ev A (Q r)) : Rf (some r) H Q A := fun r' e hr => by injection e with e; subst e; exact h hr
theorem Rf.ite {c : Prop} [Decidable c] {P1 P2 : Option ρ} {A1 A2 : Ans} (h : Rf P1 H Q A1) (k : Rf P2 H Q A2) : Rf (if c then P1 else P2) H Q (if c then A1 else A2) := by
  by_cases hc : c
  · rw [if_pos hc, if_pos hc]; exact h
  · rw [if_neg hc, if_neg hc]; exact k
theorem Rf.iteh {c : Prop} [Decidable c] {P1 P2 : Option ρ} {A1 A2 : Ans} (h : c → Rf P1 H Q A1) (k : ¬ c → Rf P2 H Q A2) : Rf (if c then P1 else P2) H Q (if c then A1 else A2) := by
  by_cases hc : c
  · rw [if_pos hc, if_pos hc]; exact h hc
  · rw [if_neg hc, if_neg hc]; exact k hc
theorem Rf.ifp {c : Prop} [Decidable c] {P : Option ρ} {A1 A2 : Ans} (hc : c) (h : Rf P H Q A1) : Rf P H Q (if c then A1 else A2) := by rw [if_pos hc]; exact h
theorem Rf.pj {β β' : Type} {v : β} {f : β → Option ρ} {w : β'} {g : β' → Ans} (h : ∀ J J', J = v → J' = w → Rf (f J) H Q (g J')) : Rf (pj v f) H Q (lt w g) := h v w rfl rfl
theorem Rf.lt {P : Option ρ} {β : Type} {w : β} {g : β → Ans} (h : Rf P H Q (g w)) : Rf P H Q (lt w g) := h
theorem Rf.asI {P : Option ρ} {k : IntKind} {x : Int} {K : Int → Ans} (h : Rf P H Q (K x)) : Rf P H Q (asI k (.int k x) K) := by unfold Go.Proofs.YtckalckfihhldaaDoorF.asI; simpa using h
theorem Rf.asB {P : Option ρ} {x : Bool} {K : Bool → Ans} (h : Rf P H Q (K x)) : Rf P H Q (asB (.bool x) K) := h
theorem Rf.asS {P : Option ρ} {x : ByteArray} {K : ByteArray → Ans} (h : Rf P H Q (K x)) : Rf P H Q (asS (.string x) K) := h
theorem Rf.asSl {P : Option ρ} {A : Option Addr} {n c : Nat} {K : Option Addr → Nat → Nat → Ans} (h : Rf P H Q (K A n c)) : Rf P H Q (asSl (.slice A n c) K) := h
theorem Rf.asP {P : Option ρ} {A : Option Addr} {K : Option Addr → Ans} (h : Rf P H Q (K A)) : Rf P H Q (asP (.pointer A) K) := h
theorem Rf.asAgg {P : Option ρ} {cs : Array Value} {K : List Value → Ans} (h : Rf P H Q (K cs.toList)) : Rf P H Q (asAgg (.agg cs) K) := h
theorem Rf.asTup {P : Option ρ} {cs : Array Value} {K : List Value → Ans} (h : Rf P H Q (K cs.toList)) : Rf P H Q (asTup (.tuple cs) K) := h
theorem Rf.unc {P : Option ρ} {v : Value} {l : List Value} {K : Value → List Value → Ans} (h : Rf P H Q (K v l)) : Rf P H Q (unc (v :: l) K) := h
theorem Rf.unn {P : Option ρ} {A : Ans} (h : Rf P H Q A) : Rf P H Q (unn [] A) := h
theorem Rf.nilc {P : Option ρ} {a : Addr} {K : Addr → Ans} (h : Rf P H Q (K a)) : Rf P H Q (nilc (some a) K) := h
theorem Rf.adr {P : Option ρ} {b o : Nat} {K : Nat → Nat → Ans} (h : Rf P H Q (K b o)) : Rf P H Q (adr (some ⟨b, o, .none⟩) K) := h
theorem Rf.adr1 {P : Option ρ} {b o : Nat} {K : Nat → Nat → Ans} (h : Rf P H Q (K b o)) : Rf P H Q (adr1 ⟨b, o, .none⟩ K) := h
theorem Rf.ldI {P : Option ρ} {k : IntKind} {s : St} {b off : Nat} {x : Int} {K : Int → Ans} (h : At s b off (.int k x)) (hK : Rf P H Q (K x)) : Rf P H Q (ldI k s b off K) := fun r e hr => Ev.ldI h (hK r e hr)
theorem Rf.ldB {P : Option ρ} {s : St} {b off : Nat} {x : Bool} {K : Bool → Ans} (h : At s b off (.bool x)) (hK : Rf P H Q (K x)) : Rf P H Q (ldB s b off K) := fun r e hr => Ev.ldB h (hK r e hr)
theorem Rf.ldS {P : Option ρ} {s : St} {b off : Nat} {x : ByteArray} {K : ByteArray → Ans} (h : At s b off (.string x)) (hK : Rf P H Q (K x)) : Rf P H Q (ldS s b off K) := fun r e hr => Ev.ldS h (hK r e hr)
theorem Rf.ldSl {P : Option ρ} {s : St} {b off : Nat} {A : Option Addr} {l c : Nat} {K : Option Addr → Nat → Nat → Ans} (h : At s b off (.slice A l c)) (hK : Rf P H Q (K A l c)) : Rf P H Q (ldSl s b off K) := fun r e hr => Ev.ldSl h (hK r e hr)
theorem Rf.ldP {P : Option ρ} {s : St} {b off : Nat} {A : Option Addr} {K : Option Addr → Ans} (h : At s b off (.pointer A)) (hK : Rf P H Q (K A)) : Rf P H Q (ldP s b off K) := fun r e hr => Ev.ldP h (hK r e hr)
theorem Rf.ldV {P : Option ρ} {s : St} {b off : Nat} {v : Value} {K : Value → Ans} (h : At s b off v) (hK : Rf P H Q (K v)) : Rf P H Q (ldV s b off K) := fun r e hr => by
  unfold At at h; unfold Go.Proofs.YtckalckfihhldaaDoorF.ldV; rw [h]; exact hK r e hr

variable {N : Nat} {X Z : List Nat} {s0 s : St} {L : List (Nat × AObj)} {B : List On} {G : List Fa}
theorem Rf.new {P : Option ρ} {t : TypeId} {cs : List Value} {f : St → Ans} (C : Cx N X Z s0 s L B G) (h : ∀ s', Cx N X Z s0 s' ((s.next, .box t cs) :: L) B G → Rf P H Q (f s')) : Rf P H Q (Go.Proofs.YtckalckfihhldaaDoorF.lt (s.new (.box t cs)) f) := h _ (C.new t cs)
theorem Rf.newR {P : Option ρ} {r : Rep α} {xs : List α} {e : TypeId} {cs : List Value} {sz : Nat} {f : St → Ans} (C : Cx N X Z s0 s L B G) (hs : r.sz = sz) (hm : many r s xs cs)
    (h : ∀ s', Cx N X Z s0 s' L (⟨r, xs, some ⟨s.next, 0, .none⟩, xs.length, e, false, s.next⟩ :: B) G → Rf P H Q (f s')) : Rf P H Q (Go.Proofs.YtckalckfihhldaaDoorF.lt (s.new (.row { elem := e, cs := cs, mode := .own, root := s.next, stored := false, esz := sz })) f) := h _ (C.newR sz hs hm)
theorem Rf.sto {P : Option ρ} {b off : Nat} {e : TypeId} {cs vs : List Value} {K : St → Ans} (j : Nat) (C : Cx N X Z s0 s L B G) (hm : L[j]? = some (b, .box e cs)) (h1 : off + vs.length ≤ cs.length) (h2 : vs.all oc = true)
    (hK : ∀ s', Cx N X Z s0 s' (L.set j (b, .box e (writeAt cs off vs))) B G → Rf P H Q (K s')) : Rf P H Q (sto s b off vs K) := fun r e' hr => by
  obtain ⟨s', a, C'⟩ := C.setBox hm h1 h2
  unfold Go.Proofs.YtckalckfihhldaaDoorF.sto
  rw [a]
  exact hK s' C' r e' hr
theorem Rf.elt {xs : List α} {r : Rep α} {A : Option Addr} {c sz : Nat} {i : Int} {K : Nat → Nat → Ans} {P : α → Option ρ} (h : Sr r s A c xs) (hs : r.sz = sz)
    (hK : ∀ x b o cs, r.rel s x cs → Lo s b o cs → Rf (P x) H Q (K b o)) : Rf (rd xs i P) H Q (elt A xs.length sz i K) := fun q e hq => by
  unfold rd at e
  split at e
  · rename_i h0
    split at e
    · rename_i x hx
      obtain ⟨b, off, cs, rfl, hr, hl⟩ := h.lo h0 hx
      have hi := (List.getElem?_eq_some_iff.1 hx).1
      unfold Go.Proofs.YtckalckfihhldaaDoorF.elt
      rw [if_pos h0, if_pos (by omega)]
      dsimp only
      rw [← hs]
      exact hK x b _ cs hr hl q e hq
    · cases e
  · cases e
theorem Rf.aelt {n sz b off : Nat} {i : Int} {K : Nat → Nat → Ans} {P : Option ρ} (hK : 0 ≤ i → i < n → Rf P H Q (K b (off + i.toNat * sz))) : Rf (inb n i P) H Q (aelt n sz b off i K) := fun q e hq => by
  unfold inb at e
  split at e
  · split at e
    · rename_i h0 h1
      unfold Go.Proofs.YtckalckfihhldaaDoorF.aelt
      rw [if_pos h0, if_pos h1]
      exact hK h0 h1 q e hq
    · cases e
  · cases e
theorem Rf.idx {b : ByteArray} {i : Int} {K : Int → Ans} {P : Int → Option ρ} (hK : ∀ x, Rf (P x) H Q (K x)) : Rf (idxP b i P) H Q (idx b i K) := fun q e hq => by
  unfold idxP at e; unfold Go.Proofs.YtckalckfihhldaaDoorF.idx
  split at e
  · rename_i h0; rw [if_pos h0]
    split at e
    · rename_i h1; rw [dif_pos h1]; exact hK _ q e hq
    · cases e
  · cases e
theorem Rf.subS {b : ByteArray} {l h : Int} {K : ByteArray → Ans} {P : ByteArray → Option ρ} (hK : ∀ x, Rf (P x) H Q (K x)) : Rf (subP b l h P) H Q (subS b l h K) := fun q e hq => by
  unfold subP at e; unfold Go.Proofs.YtckalckfihhldaaDoorF.subS
  split at e
  · rename_i h0; rw [if_pos h0]
    split at e
    · rename_i h1; rw [if_pos h1]
      split at e
      · rename_i h2; rw [if_pos h2]; exact hK _ q e hq
      · cases e
    · cases e
  · cases e
theorem Rf.cat {a b : ByteArray} {K : ByteArray → Ans} {P : ByteArray → Option ρ} (hK : ∀ x, Rf (P x) H Q (K x)) : Rf (catP a b P) H Q (cat a b K) := fun q e hq => by
  unfold catP at e; unfold Go.Proofs.YtckalckfihhldaaDoorF.cat
  split at e
  · rename_i h0; rw [if_pos h0]; exact hK _ q e hq
  · cases e
theorem Rf.shlI {k : IntKind} {a b : Int} {K : Int → Ans} {P : Int → Option ρ} (hK : ∀ x, Rf (P x) H Q (K x)) : Rf (shlP k a b P) H Q (shlI k a b K) := fun q e hq => by
  unfold shlP at e; unfold Go.Proofs.YtckalckfihhldaaDoorF.shlI
  split at e
  · cases e
  · rename_i h0; rw [if_neg h0]; exact hK _ q e hq
theorem Rf.shrI {k : IntKind} {a b : Int} {K : Int → Ans} {P : Int → Option ρ} (hK : ∀ x, Rf (P x) H Q (K x)) : Rf (shrP k a b P) H Q (shrI k a b K) := fun q e hq => by
  unfold shrP at e; unfold Go.Proofs.YtckalckfihhldaaDoorF.shrI
  split at e
  · cases e
  · rename_i h0; rw [if_neg h0]; exact hK _ q e hq
theorem Rf.divI {k : IntKind} {a b : Int} {K : Int → Ans} {P : Int → Option ρ} (hK : ∀ x, Rf (P x) H Q (K x)) : Rf (divP k a b P) H Q (divI k a b K) := fun q e hq => by
  unfold divP at e; unfold Go.Proofs.YtckalckfihhldaaDoorF.divI
  split at e
  · cases e
  · rename_i h0; rw [if_neg h0]; exact hK _ q e hq
theorem Rf.remI {k : IntKind} {a b : Int} {K : Int → Ans} {P : Int → Option ρ} (hK : ∀ x, Rf (P x) H Q (K x)) : Rf (remP k a b P) H Q (remI k a b K) := fun q e hq => by
  unfold remP at e; unfold Go.Proofs.YtckalckfihhldaaDoorF.remI
  split at e
  · cases e
  · rename_i h0; rw [if_neg h0]; exact hK _ q e hq

/-! ### Append -/
/-- What is appended. -/
def Ap (E : Env) (u : TypeId) (sz : Nat) (y : Value) (s : St) (r : Rep α) (ys : List α) : Prop := ∃ news, appended E u sz y s = some (news, ys.length) ∧ many r s ys news
theorem Ap.sr {E : Env} {u e : TypeId} {r : Rep α} {sz c : Nat} {A : Option Addr} {ys : List α} (hu : E.und u = some (.slice e)) (hs : r.sz = sz) (h : Sr r s A c ys) : Ap E u sz (.slice A ys.length c) s r ys := by
  obtain ⟨-, ⟨rfl, rfl, rfl⟩ | ⟨i, off, z, cs, rfl, g1, g2, g3, g4, g5⟩⟩ := h
  · refine ⟨[], ?_, rfl⟩
    unfold appended
    rw [hu]
    rfl
  · refine ⟨_, ?_, g5⟩
    have := St.rc_cells g2
    unfold appended
    rw [hu]
    subst hs
    simp [St.seen, this, g4]
theorem Rf.kapp {E : Env} {u e : TypeId} {sz bytes c rt : Nat} {r : Rep α} {xs ys : List α} {A : Option Addr} {y : Value} {K : Value → St → Ans} {P : List α → Option ρ} (j : Nat) (C : Cx N X Z s0 s L B G) (hb : B[j]? = some ⟨r, xs, A, c, e, false, rt⟩) (hs : r.sz = sz) (hz : 0 < sz) (hby : 0 < bytes)
    (hy : Ap E u sz y s r ys) (hK : ∀ A' c' rt' s', Cx N X Z s0 s' L (B.set j ⟨r, xs ++ ys, A', c', e, false, rt'⟩) G → Rf (P (xs ++ ys)) H Q (K (.slice A' (xs ++ ys).length c') s')) :
    Rf (apP bytes xs ys P) H Q (kapp E u sz bytes e (.slice A xs.length c) y s K) := fun q e' hq => by
  unfold apP at e'
  split at e'
  · rename_i hl
    obtain ⟨news, h1, h2⟩ := hy
    obtain ⟨A', c', rt', s', h3, -, C'⟩ := C.app hb hs hz hby h2 hl
    unfold Go.Proofs.YtckalckfihhldaaDoorF.kapp
    rw [h1]
    simp only [h3]
    exact hK A' c' rt' s' C' q e' hq
  · cases e'
/-! ### What the regions that draw ask -/
theorem Kr.same {m : Nat} {s s' : St} (hn : s'.next = s.next) (hg : ∀ i, s'.get i = s.get i) (hm : m ≤ s.next) : Kr m s s' := Kr.of_get m (by omega) (fun i r _ h => by rw [hg]; exact h) hm
theorem Cx.same (C : Cx N X Z s0 s L B G) {s' : St} (hn : s'.next = s.next) (hg : ∀ i, s'.get i = s.get i) (hb : ∀ m, m ≤ N → m ≤ s.lowb → m ≤ s'.lowb) (hl : ∀ m, m ≤ N → m ≤ s.low → m ≤ s'.low) : Cx N X Z s0 s' L B G := by
  have hr : Kr s.next s s' := Kr.same hn hg (Nat.le_refl _)
  refine ⟨⟨by have := C.keep.next; omega, fun i h1 h2 => by rw [hg]; exact C.keep.get i h1 h2, fun m h1 h2 h3 => hb m h1 (C.keep.lowb m h1 h2 h3), fun m h1 h2 h3 => hl m h1 (C.keep.low m h1 h2 h3)⟩, C.kr.trans hr C.le, by have := C.le; omega, C.lx, C.zx, fun p hp => ?_, fun b hb => ?_, C.lnd, C.bnd, fun g hg' => g.st _ _ (by omega) hr (C.fact g hg')⟩
  · obtain ⟨a, b, c, d⟩ := C.obj p hp
    exact ⟨by rw [hg]; exact a, by omega, c, d⟩
  · exact (C.own b hb).step (Y := []) (by omega) (fun i _ _ => hg i) hr (by simp)
theorem Cx.lb (C : Cx N X Z s0 s L B G) : Cx N X Z s0 { s with lowb := s.next } L B G := C.same rfl (fun _ => rfl) (fun m h _ => Nat.le_trans h C.le) (fun _ _ h => h)
theorem Cx.lw (C : Cx N X Z s0 s L B G) : Cx N X Z s0 { s with low := s.next } L B G := C.same rfl (fun _ => rfl) (fun _ _ h => h) (fun m h _ => Nat.le_trans h C.le)
theorem Cx.lbBack {L' : List (Nat × AObj)} {B' : List On} {G' : List Fa} (C : Cx N X Z s0 s L B G) {s' : St} (C' : Cx N X Z s0 s' L' B' G') : Cx N X Z s0 { s' with lowb := min s.lowb s'.lowb } L' B' G' := by
  have hr : Kr s'.next s' { s' with lowb := min s.lowb s'.lowb } := Kr.same rfl (fun _ => rfl) (Nat.le_refl _)
  refine ⟨⟨C'.keep.next, C'.keep.get, fun m h1 h2 h3 => ?_, C'.keep.low⟩, C'.kr.trans hr C'.le, C'.le, C'.lx, C'.zx, C'.obj, fun b hb => (C'.own b hb).step (Y := []) (Nat.le_refl _) (fun i _ _ => rfl) hr (by simp), C'.lnd, C'.bnd, fun g hg' => g.st s' _ (Nat.le_refl _) hr (C'.fact g hg')⟩
  have h4 := C.keep.lowb m h1 h2 h3
  have h5 := C'.keep.lowb m h1 h2 h3
  show m ≤ min s.lowb s'.lowb
  omega
theorem Rf.kappA {E : Env} {u e : TypeId} {sz bytes c rt : Nat} {r : Rep α} {xs ys : List α} {A : Option Addr} {y : Value} {K : Value → St → Ans} {P : List α → Option ρ} (j : Nat) (C : Cx N X Z s0 s L B G) (hb : B[j]? = some ⟨r, xs, A, c, e, false, rt⟩) (hs : r.sz = sz) (hz : 0 < sz) (hby : 0 < bytes)
    (hy : Ap E u sz y { s with lowb := s.next } r ys) (hK : ∀ A' c' rt' s', s.next ≤ s'.lowb → Cx N X Z s0 { s' with lowb := min s.lowb s'.lowb } L (B.set j ⟨r, xs ++ ys, A', c', e, false, rt'⟩) G → Rf (P (xs ++ ys)) H Q (K (.slice A' (xs ++ ys).length c') s')) :
    Rf (apP bytes xs ys P) H Q (Go.Proofs.YtckalckfihhldaaDoorF.kapp E u sz bytes e (.slice A xs.length c) y { s with lowb := s.next } K) := fun q e' hq => by
  unfold apP at e'
  split at e'
  · rename_i hl
    obtain ⟨news, h1, h2⟩ := hy
    obtain ⟨A', c', rt', s', h3, h4, C'⟩ := C.lb.app hb hs hz hby h2 hl
    unfold Go.Proofs.YtckalckfihhldaaDoorF.kapp
    rw [h1]
    simp only [h3]
    exact hK A' c' rt' s' (by rw [h4]; exact Nat.le_refl _) (C.lbBack C') q e' hq
  · cases e'
/-! ### Arrays in boxes; slices of slices -/
theorem Rf.arr {xs : List Int} {i : Int} {P : Int → Option ρ} {A : Ans} (hK : ∀ x, xs[i.toNat]? = some x → Rf (P x) H Q A) : Rf (rd xs i P) H Q A := fun q e hq => by
  unfold rd at e
  split at e
  · split at e
    · rename_i x hx; exact hK x hx q e hq
    · cases e
  · cases e
theorem Cx.atArr (C : Cx N X Z s0 s L B G) {b : Nat} {t : TypeId} {xs : List Int} {k : IntKind} {i : Int} {x : Int} (hm : (b, AObj.box t (List.map (Value.int k) xs)) ∈ L) (hx : xs[i.toNat]? = some x) : At s b (0 + i.toNat * 1) (.int k x) := by
  refine C.at hm ?_
  rw [Nat.zero_add, Nat.mul_one, List.getElem?_map, hx]
  rfl
theorem Rf.stoArr {b : Nat} {t : TypeId} {xs : List Int} {k : IntKind} {i x : Int} {K : St → Ans} {P : List Int → Option ρ} (j : Nat) (C : Cx N X Z s0 s L B G) (hm : L[j]? = some (b, .box t (List.map (Value.int k) xs)))
    (hK : ∀ l s', Cx N X Z s0 s' (L.set j (b, .box t (List.map (Value.int k) l))) B G → Rf (P l) H Q (K s')) : Rf (stP xs i x P) H Q (Go.Proofs.YtckalckfihhldaaDoorF.sto s b (0 + i.toNat * 1) [.int k x] K) := fun q e hq => by
  unfold stP at e
  split at e
  · rename_i h0
    split at e
    · rename_i h1
      obtain ⟨s', a, C'⟩ := C.setBox (off := 0 + i.toNat * 1) (vs := [.int k x]) hm (by simp; omega) rfl
      unfold Go.Proofs.YtckalckfihhldaaDoorF.sto
      rw [a]
      refine hK (xs.set i.toNat x) s' ?_ q e hq
      have : writeAt (List.map (Value.int k) xs) (0 + i.toNat * 1) [.int k x] = List.map (Value.int k) (xs.set i.toNat x) := by
        unfold writeAt
        rw [Nat.zero_add, Nat.mul_one, List.map_set, List.set_eq_take_append_cons_drop, if_pos (by simp; omega)]
        simp
      rw [← this]
      exact C'
    · cases e
  · cases e
def bnd (x : Option Value) (d v : Int) : Prop := match x with | .none => v = d | some (.int _ n) => v = n | _ => False
theorem kbound_bnd {x : Option Value} {d : Nat} {v : Int} {K : Int → Ans} (h : bnd x d v) : kbound x d K = K v := by
  unfold bnd at h
  unfold kbound
  split at h
  · subst h; rfl
  · subst h; rfl
  · exact h.elim
theorem Rf.ksl {E : Env} {t e : TypeId} {r : Rep α} {xs : List α} {A : Option Addr} {c : Nat} {lo hi : Option Value} {l h : Int} {K : Value → Ans} {P : List α → Option ρ} (hu : E.und t = some (.slice e)) (hi' : (E.info e).map (fun x => x.2.1) = some r.sz) (hs : Sr r s A c xs)
    (hlo : bnd lo (0 : Nat) l) (hhi : bnd hi xs.length h) (hK : ∀ zs A' c', Sr r s A' c' zs → Rf (P zs) H Q (K (.slice A' zs.length c'))) : Rf (slP xs l h P) H Q (kslice E t (.slice A xs.length c) lo hi .none s K) := fun q e' hq => by
  unfold slP at e'
  split at e'
  · rename_i h0
    split at e'
    · rename_i h1
      split at e'
      · rename_i h2
        obtain ⟨hc, ⟨rfl, rfl, rfl⟩ | ⟨i, off, z, cs, rfl, g1, g2, g3, g4, g5⟩⟩ := hs
        · have hl : l = 0 := by simp at h2; omega
          have hh : h = 0 := by simp at h2; omega
          subst hl; subst hh
          unfold kslice
          simp only [List.length_nil, hu]
          cases hie : E.info e with
          | none => rw [hie] at hi'; cases hi'
          | some y =>
            dsimp only
            rw [kbound_bnd hlo, kbound_bnd (by simpa using hhi), if_pos ⟨rfl, rfl⟩]
            have := hK [] .none 0 ⟨Nat.le_refl _, .inl ⟨rfl, rfl, rfl⟩⟩
            simp only [List.take_nil, List.drop_nil] at e'
            exact this q e' hq
        · obtain ⟨rw_, hr1, hr2⟩ := St.rc_row g2
          have hlen : ((xs.take h.toNat).drop l.toNat).length = (h - l).toNat := by simp; omega
          have := hK ((xs.take h.toNat).drop l.toNat) (some ⟨i, off + l.toNat * r.sz, .none⟩) (c - l.toNat) ⟨by rw [hlen]; omega, .inr ⟨i, _, z, cs, rfl, g1, g2, g3, ?_, ?_⟩⟩
          · rw [hlen] at this
            unfold kslice
            dsimp only
            rw [hu]
            dsimp only
            cases hie : E.info e with
            | none => rw [hie] at hi'; cases hi'
            | some y =>
              obtain ⟨y1, y2, y3⟩ := y
              rw [hie] at hi'
              simp only [Option.map_some, Option.some.injEq] at hi'
              subst hi'
              have hrow : s.row? i = some rw_ := by unfold St.row?; rw [hr1]
              rw [hrow]
              dsimp only
              rw [if_pos (by rw [hr2]; exact g3), kbound_bnd hlo, kbound_bnd hhi, if_pos h0, if_pos h1, if_pos (by omega)]
              exact this q e' hq
          · rw [hlen]
            have : l.toNat * r.sz + (h - l).toNat * r.sz ≤ xs.length * r.sz := by
              rw [← Nat.add_mul]; exact Nat.mul_le_mul_right _ (by omega)
            omega
          · have g6 := (g5.take h.toNat).drop l.toNat
            have e1 : ((xs.take h.toNat).drop l.toNat).length * r.sz = h.toNat * r.sz - l.toNat * r.sz := by rw [hlen, ← Nat.sub_mul]; congr 1; omega
            rw [e1]
            have : h.toNat * r.sz ≤ xs.length * r.sz := Nat.mul_le_mul_right _ (by omega)
            rw [List.take_take, Nat.min_eq_left this, ← List.drop_drop, ← List.drop_take] at *
            exact g6
      · cases e'
    · cases e'
  · cases e'
theorem Cx.get0 (C : Cx N X Z s0 s L B G) {b : Nat} {o : AObj} (h : s0.get b = some o) (hb : b < N) (hX : b ∉ X) : s.get b = some o := by rw [C.keep.get b hb hX]; exact h
theorem Cx.lt0 (C : Cx N X Z s0 s L B G) {b : Nat} (hb : b < N) : b < s.next := Nat.lt_of_lt_of_le hb C.le
theorem nums8_many : ∀ {xs : List Int} {cs : List Value}, many (rI .u8) s xs cs → nums8 cs = some xs
  | [], cs, h => by have h : cs = [] := h; subst h; rfl
  | x :: xs, cs, ⟨c, d, e, h, k⟩ => by
    have h : c = [.int .u8 x] := h
    subst e; subst h
    show nums8 (.int .u8 x :: d) = _
    unfold nums8
    rw [nums8_many k]
    rfl
theorem Rf.bstr {P : Option ρ} {xs : List Int} {A : Option Addr} {c : Nat} {K : ByteArray → Ans} (h : Sr (rI .u8) s A c xs) (hK : Rf P H Q (K (strOfNums xs))) : Rf P H Q (Go.Proofs.YtckalckfihhldaaDoorF.bstr A xs.length s K) := fun q e hq => by
  obtain ⟨hc, ⟨rfl, rfl, rfl⟩ | ⟨i, off, z, cs, rfl, g1, g2, g3, g4, g5⟩⟩ := h
  · unfold Go.Proofs.YtckalckfihhldaaDoorF.bstr
    exact hK q e hq
  · unfold Go.Proofs.YtckalckfihhldaaDoorF.bstr
    have hz : (rI .u8).sz = 1 := rfl
    rw [hz] at g4 g5
    have : s.seen i off xs.length = some ((cs.drop off).take xs.length) := by
      unfold St.seen
      rw [St.rc_cells g2]
      simp only [Option.bind_some]
      rw [if_pos (by simpa using g4)]
    dsimp only
    rw [this]
    simp only [Option.bind_some]
    rw [nums8_many (by simpa using g5)]
    exact hK q e hq
def bytesOf (b : ByteArray) : List Int := b.data.toList.map fun x => (x.toNat : Int)
theorem many_bytes (l : List UInt8) : many (rI .u8) s (l.map fun x => (x.toNat : Int)) (l.map fun x => Value.int .u8 x.toNat) := by
  induction l with
  | nil => rfl
  | cons x l ih => exact ⟨[_], _, rfl, rfl, ih⟩
theorem Ap.str {E : Env} {u : TypeId} {b : ByteArray} (hu : E.und u = some .string) : Ap E u 1 (.string b) s (rI .u8) (bytesOf b) := by
  refine ⟨_, ?_, many_bytes _⟩
  unfold appended
  rw [hu]
  simp [bytesOf]
/-! ### Calls -/
variable {ρ' : Type}
theorem Rf.ret {P : Value → St → Prop} {v : Value} {s' : St} (C : Cx s.next X Z s s' L B G) (h : P v s') : RtC s.next X Z s P (.ret v) s' := ⟨v, rfl, C.keep, C.kr, h⟩
/-- A call that leaves what was there: what it made can be added. -/
theorem Cx.call0 (C : Cx N X Z s0 s L B G) {s' : St} (hk : Kp s.next [] [] s s') (hr : Kr s.next s s') (Bs : List On) (hB : ∀ o ∈ Bs, o.holds s.next [] s') (hd : Bs.Pairwise Dj) : Cx N X Z s0 s' L (Bs ++ B) G := by
  refine C.step [] [] hk hr (by simp) (by simp) (fun p hp => .inl ⟨hp, by simp⟩) C.lnd (fun b hb => ?_) ?_ (fun g hg => .inl hg)
  · rcases List.mem_append.1 hb with h | h
    · exact .inr ((hB b h).up C.le (by simp))
    · exact .inl ⟨h, by simp⟩
  · refine List.pairwise_append.2 ⟨hd, C.bnd, fun o ho b hb x hx hx' => ?_⟩
    have h1 := ((hB o ho).foot_lt x hx).2.1
    have h2 := C.fresh b hb x hx'
    simp at h1
    omega
theorem Rf.call0 {P1 : Option ρ'} {F : ρ' → Option ρ} {P : ρ' → Value → St → Prop} {A : Ans} {K : Value → St → Ans} {Kf : List PanicEntry → St → Ans} (C : Cx N X Z s0 s L B G) (h : Rf P1 (fun _ => True) (fun r => RtC s.next [] [] s (P r)) A)
    (hK : ∀ r v s', P r v s' → (∀ Bs : List On, (∀ o ∈ Bs, o.holds s.next [] s') → Bs.Pairwise Dj → Cx N X Z s0 s' L (Bs ++ B) G) → Rf (F r) H Q (K v s')) : Rf (P1.bind F) H Q (kcall A K Kf) := fun q e hq => by
  cases P1 with
  | none => cases e
  | some r =>
    obtain ⟨o, s', ea, v, rfl, hk, hr, hP⟩ := h r rfl trivial
    rw [ea]
    exact hK r v s' hP (fun Bs hB hd => C.call0 hk hr Bs hB hd) q e hq
/-- In a region that draws. -/
theorem Rf.call0A {P1 : Option ρ'} {F : ρ' → Option ρ} {P : ρ' → Value → St → Prop} {A : Ans} {K : Value → St → Ans} {Kf : List PanicEntry → St → Ans} (C : Cx N X Z s0 s L B G) (h : Rf P1 (fun _ => True) (fun r => RtC s.next [] [] { s with lowb := s.next } (P r)) A)
    (hK : ∀ r v s', P r v s' → s.next ≤ s'.lowb → (∀ Bs : List On, (∀ o ∈ Bs, o.holds s.next [] s') → Bs.Pairwise Dj → Cx N X Z s0 { s' with lowb := min s.lowb s'.lowb } L (Bs ++ B) G) → Rf (F r) H Q (K v s')) : Rf (P1.bind F) H Q (kcall A K Kf) := fun q e hq => by
  cases P1 with
  | none => cases e
  | some r =>
    obtain ⟨o, s', ea, v, rfl, hk, hr, hP⟩ := h r rfl trivial
    rw [ea]
    exact hK r v s' hP (hk.lowb _ (Nat.le_refl _) (by simp) (Nat.le_refl _)) (fun Bs hB hd => C.lbBack (C.lb.call0 hk hr Bs hB hd)) q e hq
/-- A call that only reads. -/
theorem Rf.callP {P1 : Option ρ'} {F : ρ' → Option ρ} {P : ρ' → Value → St → Prop} {A : Ans} {K : Value → St → Ans} {Kf : List PanicEntry → St → Ans} (h : Rf P1 (fun _ => True) (fun r => RtC s.next [] [] { s with low := s.next } (P r)) A)
    (hK : ∀ r v s', P r v s' → s.next ≤ s'.low → Rf (F r) H Q (K v s')) : Rf (P1.bind F) H Q (kcall A K Kf) := fun q e hq => by
  cases P1 with
  | none => cases e
  | some r =>
    obtain ⟨o, s', ea, v, rfl, hk, hr, hP⟩ := h r rfl trivial
    rw [ea]
    exact hK r v s' hP (hk.low _ (Nat.le_refl _) (by simp) (Nat.le_refl _)) q e hq
/-- A call that needs no memory. -/
theorem Rf.callZ {P1 : Option ρ'} {F : ρ' → Option ρ} {P : ρ' → Value → St → Prop} {A : Ans} {K : Value → St → Ans} {Kf : List PanicEntry → St → Ans} (h : Rf P1 (fun _ => True) (fun r => RtC 0 [] [] St.bare (P r)) A)
    (hK : ∀ r v s', P r v s' → Rf (F r) H Q (K v s')) : Rf (P1.bind F) H Q (kcall A K Kf) := fun q e hq => by
  cases P1 with
  | none => cases e
  | some r =>
    obtain ⟨o, s', ea, v, rfl, hk, hr, hP⟩ := h r rfl trivial
    rw [ea]
    exact hK r v s' hP q e hq
/-- A call that may write the box of a pointer. -/
theorem Cx.callB (C : Cx N X Z s0 s L B G) {s' : St} {j b : Nat} {e : TypeId} {cs cs' : List Value} (hb : L[j]? = some (b, .box e cs)) (hk : Kp s.next [b] [b] s s') (hr : Kr s.next s s') (hs : s'.get b = some (.box e cs')) (Bs : List On) (hB : ∀ o ∈ Bs, o.holds s.next [b] s') (hd : Bs.Pairwise Dj) :
    Cx N X Z s0 s' (L.set j (b, .box e cs')) (Bs ++ B) G := by
  have hm : (b, AObj.box e cs) ∈ L := List.mem_of_getElem? hb
  obtain ⟨g1, g2, g3, g4⟩ := C.obj _ hm
  have := hk.next
  refine C.step [b] [b] hk hr (by simpa using g3.imp id (C.zx _)) (by simpa using g3) (fun p hp => ?_) (nodup_set C.lnd hb) (fun o ho => ?_) ?_ (fun g hg => .inl hg)
  · rcases mem_set_or hp with rfl | ⟨i, hne, hi⟩
    · exact .inr ⟨hs, by dsimp only at g2 ⊢; omega, g3, rfl⟩
    · exact .inl ⟨List.mem_of_getElem? hi, by simpa using fst_ne C.lnd hi hb hne⟩
  · rcases List.mem_append.1 ho with h | h
    · exact .inr ((hB o h).up C.le (by simpa using g3.imp id (C.zx _)))
    · refine .inl ⟨h, fun i hi => ?_⟩
      obtain ⟨_, _, q, hq⟩ := (C.own o h).foot_lt i hi
      simp only [List.mem_singleton]
      rintro rfl
      rw [g1] at hq
      cases hq
  · refine List.pairwise_append.2 ⟨hd, C.bnd, fun o ho q hq x hx hx' => ?_⟩
    obtain ⟨h0, h1, q', hq'⟩ := (hB o ho).foot_lt x hx
    have h2 := C.fresh q hq x hx'
    simp only [List.mem_singleton] at h1
    rcases h1 with h1 | rfl
    · omega
    · rw [hs] at hq'
      cases hq'
theorem Rf.callB {P1 : Option ρ'} {F : ρ' → Option ρ} {P : ρ' → Value → St → Prop} {A : Ans} {K : Value → St → Ans} {Kf : List PanicEntry → St → Ans} (j : Nat) {b : Nat} {e : TypeId} {cs : List Value} (C : Cx N X Z s0 s L B G) (hb : L[j]? = some (b, .box e cs))
    (h : Rf P1 (fun _ => True) (fun r => RtC s.next [b] [b] s (P r)) A)
    (hK : ∀ r v s', P r v s' → (∀ cs', s'.get b = some (.box e cs') → ∀ Bs : List On, (∀ o ∈ Bs, o.holds s.next [b] s') → Bs.Pairwise Dj → Cx N X Z s0 s' (L.set j (b, .box e cs')) (Bs ++ B) G) → Rf (F r) H Q (K v s')) : Rf (P1.bind F) H Q (kcall A K Kf) := fun q e hq => by
  cases P1 with
  | none => cases e
  | some r =>
    obtain ⟨o, s', ea, v, rfl, hk, hr, hP⟩ := h r rfl trivial
    rw [ea]
    exact hK r v s' hP (fun cs' hs Bs hB hd => C.callB hb hk hr hs Bs hB hd) q e hq
/-- A call that takes a slice of one's own and gives one back. -/
theorem Cx.callO (C : Cx N X Z s0 s L B G) {s' : St} {j : Nat} {o o' : On} (hb : B[j]? = some o) (hk : Kp s.next o.foot [] s s') (hr : Kr s.next s s') (ho : o'.holds s.next o.foot s') : Cx N X Z s0 s' L (B.set j o') G := by
  have hm : o ∈ B := List.mem_of_getElem? hb
  have hf := (C.own o hm).foot_lt
  refine C.step o.foot [] hk hr (fun i hi => (hf i hi).2.1) (by simp) (fun p hp => .inl ⟨hp, fun h => ?_⟩) C.lnd (fun b hb' => ?_) ?_ (fun g hg => .inl hg)
  · obtain ⟨g1, g2, g3, g4⟩ := C.obj p hp
    obtain ⟨_, _, q, hq⟩ := hf _ h
    rw [g1] at hq
    injection hq with hq
    rw [hq] at g4
    cases g4
  · rcases mem_set_or hb' with rfl | ⟨i, hne, hi⟩
    · exact .inr (ho.up C.le fun i hi => (hf i hi).2.1)
    · exact .inl ⟨List.mem_of_getElem? hi, foot_ne C.bnd hi hb hne⟩
  · refine dj_set C.bnd fun i p hne hi x hx hx' => ?_
    have h1 := (ho.foot_lt x hx').2.1
    have h2 := C.fresh p (List.mem_of_getElem? hi) x hx
    rcases h1 with h1 | h1
    · omega
    · exact foot_ne C.bnd hi hb hne x hx h1
theorem Rf.callO {P1 : Option ρ'} {F : ρ' → Option ρ} {P : ρ' → Value → St → Prop} {A : Ans} {K : Value → St → Ans} {Kf : List PanicEntry → St → Ans} (j : Nat) {o : On} (C : Cx N X Z s0 s L B G) (hb : B[j]? = some o)
    (h : Rf P1 (fun _ => True) (fun r => RtC s.next o.foot [] s (P r)) A)
    (hK : ∀ r v s', P r v s' → (∀ o' : On, o'.holds s.next o.foot s' → Cx N X Z s0 s' L (B.set j o') G) → Rf (F r) H Q (K v s')) : Rf (P1.bind F) H Q (kcall A K Kf) := fun q e hq => by
  cases P1 with
  | none => cases e
  | some r =>
    obtain ⟨o, s', ea, v, rfl, hk, hr, hP⟩ := h r rfl trivial
    rw [ea]
    exact hK r v s' hP (fun o' ho => C.callO hb hk hr ho) q e hq
theorem Rf.callOA {P1 : Option ρ'} {F : ρ' → Option ρ} {P : ρ' → Value → St → Prop} {A : Ans} {K : Value → St → Ans} {Kf : List PanicEntry → St → Ans} (j : Nat) {o : On} (C : Cx N X Z s0 s L B G) (hb : B[j]? = some o)
    (h : Rf P1 (fun _ => True) (fun r => RtC s.next o.foot [] { s with lowb := s.next } (P r)) A)
    (hK : ∀ r v s', P r v s' → s.next ≤ s'.lowb → (∀ o' : On, o'.holds s.next o.foot s' → Cx N X Z s0 { s' with lowb := min s.lowb s'.lowb } L (B.set j o') G) → Rf (F r) H Q (K v s')) : Rf (P1.bind F) H Q (kcall A K Kf) := fun q e hq => by
  cases P1 with
  | none => cases e
  | some r =>
    obtain ⟨o, s', ea, v, rfl, hk, hr, hP⟩ := h r rfl trivial
    rw [ea]
    exact hK r v s' hP (hk.lowb _ (Nat.le_refl _) (by simp) (Nat.le_refl _)) (fun o' ho => C.lbBack (C.lb.callO hb hk hr ho)) q e hq
/-- A start with boxes and slices that are handed over. -/
theorem Cx.startG (s : St) (X Z : List Nat) (L : List (Nat × AObj)) (B : List On) (hX : ∀ i ∈ X, i < s.next) (hZ : ∀ i ∈ Z, i ∈ X) (hL : ∀ p ∈ L, s.get p.1 = some p.2 ∧ p.1 < s.next ∧ p.1 ∈ Z ∧ isBx p.2 = true) (hn : (L.map (·.1)).Nodup) (hB : ∀ b ∈ B, b.holds s.next X s) (hd : B.Pairwise Dj) : Cx s.next X Z s s L B [] :=
  ⟨Kp.refl _ _ _ _, Kr.refl _ _, Nat.le_refl _, hX, hZ, fun p hp => let ⟨a, b, c, d⟩ := hL p hp; ⟨a, b, .inr c, d⟩, hB, hn, hd, by simp⟩
theorem Cx.startB {s : St} {b : Nat} {e : TypeId} {cs : List Value} (h : s.get b = some (.box e cs)) (hb : b < s.next) : Cx s.next [b] [b] s s [(b, .box e cs)] [] [] :=
  Cx.startG s _ _ _ _ (by simpa using hb) (by simp) (by simpa using ⟨h, hb, rfl⟩) (by simp) (by simp) List.Pairwise.nil
theorem Cx.startO {s : St} {o : On} (h : o.holds s.next o.foot s) : Cx s.next o.foot [] s s [] [o] [] :=
  Cx.startG s _ _ _ _ (fun i hi => (h.foot_lt i hi).1) (by simp) (by simp) (by simp) (by simpa using h) (List.pairwise_singleton _ _)
/-- What is held can be handed over. -/
theorem Cx.give (C : Cx N X Z s0 s L B G) {o : On} (h : o ∈ B) (hv : o.v = false) : o.holds s.next o.foot s := by
  rcases C.own o h with h | ⟨i, q, h1, h2, h3, h4, h5, h6, h7, h8, h9, h10, h11, h12, h13, h14⟩ | ⟨i, q, _, _, _, _, _, _, _, _, _, _, _, _, _, _, h⟩
  · exact .inl h
  · exact .inr (.inl ⟨i, q, h1, h2, h3, h4, h5, h6, h7, .inr (by simp [On.foot, h1]), h9, h10, h11, h12, .inr (by simp [On.foot, h1]), h14⟩)
  · rw [hv] at h; cases h

/-! ### Loops -/
/-- How a round ends. -/
abbrev LK {σ τ : Type} (Inv : σ → Regs → St → Prop) (Ex : τ → Go.Proofs.YtckalckfihhldaaDoorF.X → Regs → St → Prop) (r : σ ⊕ τ) (e : Go.Proofs.YtckalckfihhldaaDoorF.X) (g : Regs) (s : St) : Prop := match r with | .inl t => e = .normal ∧ Inv t g s | .inr t => Ex t e g s
theorem Rf.loop {σ τ : Type} {body : σ → Option (σ ⊕ τ)} {kb : Regs → St → Kont → Ans} {Inv : σ → Regs → St → Prop} {Ex : τ → Go.Proofs.YtckalckfihhldaaDoorF.X → Regs → St → Prop} (hex : ∀ t e g s, Ex t e g s → e ≠ .normal)
    (hb : ∀ st g s K Q, Inv st g s → Rf (body st) (fun r => ∀ e g' s', LK Inv Ex r e g' s' → Ev (K e g' s') Q) (fun _ => Q) (kb g s K))
    {F : τ → Option ρ} {K : Kont} (n : Nat) (st : σ) (g : Regs) (s : St) (h0 : Inv st g s) (hK : ∀ t e g' s', Ex t e g' s' → Rf (F t) H Q (K e g' s')) : Rf ((loopP body n st).bind F) H Q (kloop kb n g s K) := by
  induction n generalizing st g s with
  | zero => intro q e; cases e
  | succ n ih =>
    intro q e hq
    rw [kloop_succ]
    unfold loopP at e
    split at e
    · cases e
    · rename_i st' hs
      refine hb st g s _ (Q q) h0 _ hs fun e' g' s' he => ?_
      obtain ⟨rfl, hi⟩ := he
      exact ih st' g' s' hi q e hq
    · rename_i t hs
      refine hb st g s _ (Q q) h0 _ hs fun e' g' s' he => ?_
      have hne := hex t e' g' s' he
      have := hK t e' g' s' he q e hq
      cases e' with
      | normal => exact absurd rfl hne
      | exit i => exact this
      | ret => exact this
      | pan c => exact this
theorem m0 {α : Type _} {a : α} {l : List α} : a ∈ a :: l := List.mem_cons_self ..
theorem m1 {α : Type _} {a b : α} {l : List α} : a ∈ b :: a :: l := List.mem_cons_of_mem _ m0
theorem m2 {α : Type _} {a b c : α} {l : List α} : a ∈ b :: c :: a :: l := List.mem_cons_of_mem _ m1
theorem m3 {α : Type _} {a b c d : α} {l : List α} : a ∈ b :: c :: d :: a :: l := List.mem_cons_of_mem _ m2
theorem m4 {α : Type _} {a b c d e : α} {l : List α} : a ∈ b :: c :: d :: e :: a :: l := List.mem_cons_of_mem _ m3
theorem m5 {α : Type _} {a b c d e f : α} {l : List α} : a ∈ b :: c :: d :: e :: f :: a :: l := List.mem_cons_of_mem _ m4
theorem m6 {α : Type _} {a b c d e f g : α} {l : List α} : a ∈ b :: c :: d :: e :: f :: g :: a :: l := List.mem_cons_of_mem _ m5
end
end Go.Proofs.YtckalckfihhldaaDoorF
