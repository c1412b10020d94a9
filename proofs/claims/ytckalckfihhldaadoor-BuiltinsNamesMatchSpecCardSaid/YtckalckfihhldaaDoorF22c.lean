/- The abstract heap machine, part 22c: letters of strings; functions that are not run. -/
import Derived.Test.YtckalckfihhldaaDoorF22b
set_option linter.unusedVariables false
set_option linter.unusedSimpArgs false
namespace Go.Proofs.YtckalckfihhldaaDoorF
open Go

section
variable {ρ α : Type} {H : ρ → Prop} {Q : ρ → Out → St → Prop} {N : Nat} {X Z : List Nat} {s0 s : St} {L : List (Nat × AObj)} {B : List On} {G : List Fa}
theorem Cx.newS (C : Cx N X Z s0 s L B G) (b : ByteArray) (p : Nat) : Cx N X Z s0 (s.new (.siter b p)) ((s.next, .siter b p) :: L) B G := by
  refine C.step [] [] ⟨by simp, fun i h _ => by rw [St.get_new, if_neg (by omega)], fun _ _ _ h => h, fun m _ _ h => h⟩ (Kr.new _ (Nat.le_refl _) _) (by simp) (by simp) (fun p hp => ?_) ?_ (fun b hb => .inl ⟨hb, by simp⟩) C.bnd (fun g hg => .inl hg)
  · rcases List.mem_cons.1 hp with rfl | hp
    · exact .inr ⟨by rw [St.get_new, if_pos rfl], by simp, .inl C.le, rfl⟩
    · exact .inl ⟨hp, by simp⟩
  · simp only [List.map_cons, List.nodup_cons]
    refine ⟨fun hm => ?_, C.lnd⟩
    obtain ⟨p, hp, e⟩ := List.mem_map.1 hm
    have := (C.obj p hp).2.1
    omega
theorem Cx.setS (C : Cx N X Z s0 s L B G) {j i p q : Nat} {b : ByteArray} (hm : L[j]? = some (i, .siter b p)) : Cx N X Z s0 ((s.put i (.siter b q)).wrote i) (L.set j (i, .siter b q)) B G := by
  have hmem : (i, AObj.siter b p) ∈ L := List.mem_of_getElem? hm
  obtain ⟨g1, g2, g3, g4⟩ := C.obj _ hmem
  dsimp only at g1 g2 g3
  have hget : ∀ k, ((s.put i (.siter b q)).wrote i).get k = if k = i then some (.siter b q) else s.get k := fun k => by rw [St.wrote_get, St.get_put]
  refine C.step [i] [i] ⟨by simp [St.wrote], fun k _ hk => by rw [hget, if_neg (by simpa using hk)], fun m _ hm h => by simpa [St.wrote, St.put] using h, fun m _ hm h => ?_⟩ (Kr.of_get _ (by simp [St.wrote]) (fun k r hk hr => ?_) (Nat.le_refl _)) (by simpa using g3.imp id (C.zx _)) (by simpa using g3) (fun p hp => ?_) (nodup_set C.lnd hm) (fun o ho => .inl ⟨ho, fun k hk => ?_⟩) C.bnd (fun g hg => .inl hg)
  · have := hm i (by simp)
    simp only [St.wrote, St.put]
    omega
  · rw [hget, if_neg]
    · exact hr
    · rintro rfl
      rw [g1] at hr
      cases hr
  · rcases mem_set_or hp with rfl | ⟨k, hne, hk⟩
    · exact .inr ⟨by rw [hget, if_pos rfl], by simpa [St.wrote] using g2, g3, rfl⟩
    · refine .inl ⟨List.mem_of_getElem? hk, ?_⟩
      have := fst_ne C.lnd hk hm hne
      simpa using this
  · obtain ⟨_, _, q', hq'⟩ := (C.own o ho).foot_lt k hk
    simp only [List.mem_singleton]
    rintro rfl
    rw [g1] at hq'
    cases hq'
def nxP (b : ByteArray) (p : Nat) (K : Int → Int → Option ρ) (Ke : Option ρ) : Option ρ := if p < b.size then K p (Utf8.decode b p).1 else Ke
theorem Rf.rng {P : Option ρ} {b : ByteArray} {f : St → Ans} (C : Cx N X Z s0 s L B G) (h : ∀ s', Cx N X Z s0 s' ((s.next, .siter b 0) :: L) B G → Rf P H Q (f s')) : Rf P H Q (Go.Proofs.YtckalckfihhldaaDoorF.lt (s.new (.siter b 0)) f) := h _ (C.newS b 0)
theorem Rf.nxt {b : ByteArray} {i p : Nat} {P : Int → Int → Option ρ} {Pe : Option ρ} {K : Int → Int → St → Ans} {Ke : Ans} (j : Nat) (C : Cx N X Z s0 s L B G) (hm : L[j]? = some (i, .siter b p))
    (hK : ∀ x c s', Cx N X Z s0 s' (L.set j (i, .siter b (p + (Utf8.decode b p).2))) B G → Rf (P x c) H Q (K x c s')) (hE : Rf Pe H Q Ke) : Rf (nxP b p P Pe) H Q (Go.Proofs.YtckalckfihhldaaDoorF.nxt s i 0 K Ke) := fun r e hr => by
  obtain ⟨g1, -⟩ := C.obj _ (List.mem_of_getElem? hm)
  dsimp only at g1
  unfold Go.Proofs.YtckalckfihhldaaDoorF.nxt
  rw [g1]
  dsimp only
  unfold nxP at e
  by_cases hp : p < b.size
  · rw [if_pos hp] at e ⊢
    exact hK _ _ _ (C.setS hm) r e hr
  · rw [if_neg hp] at e ⊢
    exact hE r e hr
theorem nums32_many : ∀ {xs : List Int} {cs : List Value}, many (rI .i32) s xs cs → nums32 cs = some xs
  | [], cs, h => by have h : cs = [] := h; subst h; rfl
  | x :: xs, cs, ⟨c, d, e, h, k⟩ => by
    have h : c = [.int .i32 x] := h
    subst e; subst h
    show nums32 (.int .i32 x :: d) = _
    unfold nums32
    rw [nums32_many k]
    rfl
theorem Rf.rstr {P : Option ρ} {xs : List Int} {A : Option Addr} {c : Nat} {K : ByteArray → Ans} (h : Sr (rI .i32) s A c xs) (hK : Rf P H Q (K (runesBytes xs))) : Rf P H Q (Go.Proofs.YtckalckfihhldaaDoorF.rstr A xs.length s K) := fun q e hq => by
  obtain ⟨hc, ⟨rfl, rfl, rfl⟩ | ⟨i, off, z, cs, rfl, g1, g2, g3, g4, g5⟩⟩ := h
  · unfold Go.Proofs.YtckalckfihhldaaDoorF.rstr
    exact hK q e hq
  · unfold Go.Proofs.YtckalckfihhldaaDoorF.rstr
    have hz : (rI .i32).sz = 1 := rfl
    rw [hz] at g4 g5
    have : s.seen i off xs.length = some ((cs.drop off).take xs.length) := by
      unfold St.seen
      rw [St.rc_cells g2]
      simp only [Option.bind_some]
      rw [if_pos (by simpa using g4)]
    dsimp only
    rw [this]
    simp only [Option.bind_some]
    rw [nums32_many (by simpa using g5)]
    exact hK q e hq
theorem many_runes (l : List Int) : many (rI .i32) s l (l.map (Value.int .i32)) := by
  induction l with
  | nil => rfl
  | cons x l ih => exact ⟨[_], _, rfl, rfl, ih⟩
theorem Rf.pjv {β : Type} {v : β} {f : β → Option ρ} {A : Ans} (h : ∀ J, J = v → Rf (f J) H Q A) : Rf (Go.Proofs.YtckalckfihhldaaDoorF.pj v f) H Q A := h v rfl
/-- What is known of a function that is not run. -/
theorem Rf.sum {P : Option ρ} {Pv : ρ → Value → St → Prop} {E : Env} {f : FuncId} {n : Nat} {args : List Value} {e : List Value → St → Option Value} (he : E.sum f = some e) (hv : ∀ r, P = some r → ∃ v, e args s = some v ∧ Pv r v s) :
    Rf (match n with | 0 => Option.none | _ + 1 => P) (fun _ => True) (fun r => RtC s.next [] [] s (Pv r)) (acall E n f args s) := fun r h _ => by
  cases n with
  | zero => cases h
  | succ n =>
    obtain ⟨v, h1, h2⟩ := hv r h
    unfold acall
    rw [he]
    dsimp only
    rw [h1]
    exact Ev.done ⟨v, rfl, Kp.refl _ _ _ _, Kr.refl _ _, h2⟩
end
end Go.Proofs.YtckalckfihhldaaDoorF
