/- A slice of one's own is sorted: the rule for plain functions. -/
import Derived.Test.YtckalckfihhldaaDoorS4
import Derived.Test.YtckalckfihhldaaDoorF22c
set_option linter.unusedVariables false
set_option linter.unusedSimpArgs false
namespace Go.Proofs.YtckalckfihhldaaDoorF
open Go Go.RowKit
section
variable {N : Nat} {X Z : List Nat} {s0 s : St} {L : List (Nat × AObj)} {B : List On} {G : List Fa} {α ρ : Type} {H : ρ → Prop} {Q : ρ → Out → St → Prop}
/-- All cells of a slice of one's own are written. -/
theorem Cx.setAll (C : Cx N X Z s0 s L B G) (hN : s0.next = N) (hX : NoRow X s0) (hF : ∀ b ∈ B, b.r.Fl) {r : Rep α} {xs ys : List α} {A : Option Addr} {c rt j : Nat} {e : TypeId} (hb : B[j]? = some ⟨r, xs, A, c, e, true, rt⟩) {cs : List Value}
    (h0 : 0 < xs.length) (hl : ys.length = xs.length) (hy : many r s ys cs) :
    ∃ b s', A = some ⟨b, 0, none⟩ ∧ s.wr b 0 cs = some s' ∧ Cx N X Z s0 s' L (B.set j ⟨r, ys, A, c, e, true, rt⟩) [] := by
  have hm : (⟨r, xs, A, c, e, true, rt⟩ : On) ∈ B := List.mem_of_getElem? hb
  rcases C.own _ hm with ⟨_, h, _⟩ | ⟨k, q, _, _, _, _, _, _, _, _, _, _, _, _, _, h⟩ | ⟨b, q, h1, h2, h3, h4, h5, h6, h6', h7, h8, h9, h10, h11, h12, ⟨q', h13⟩, h14⟩
  · dsimp only at h; rw [h] at h0; cases h0
  · cases h
  · dsimp only at h1 h4 h5 h6 h6' h9 h11 h12 h13
    refine ⟨b, ?_⟩
    subst h1
    have hcl := hy.len
    rw [hl] at hcl
    have hgi : ∃ q2, (s.stir q.root).get b = some (.row q2) ∧ q2.mode = .own ∧ q2.elem = e ∧ q2.esz = r.sz ∧ q2.root = q.root := by
      rcases St.stir_get s q.root b with hg | ⟨q2, hg1, hg2⟩
      · exact ⟨q, by rw [hg]; exact h2, h3, h4, h5, rfl⟩
      · rw [h2] at hg1
        injection hg1 with hg1
        injection hg1 with hg1
        subst hg1
        exact ⟨_, hg2, h3, h4, h5, rfl⟩
    obtain ⟨q2, g1, g2, g3, g4, g5⟩ := hgi
    have gets : ∀ k, k ≠ b → k ≠ rt → (s.stir q.root).get k = s.get k := fun k _ hk => by rw [h11]; exact St.stir_get_ne hk
    refine ⟨((s.stir q.root).put b (.row { q2 with cs := writeAt q.cs 0 cs })).wrote (min b q.root), rfl, ?_, ?_⟩
    · unfold St.wr
      rw [h2]
      dsimp only
      rw [if_pos ⟨h3, by omega, hy.oc⟩]
      rw [g1]
    · have hrow : (((s.stir q.root).put b (.row { q2 with cs := writeAt q.cs 0 cs })).wrote (min b q.root)).get b = some (.row { q2 with cs := writeAt q.cs 0 cs }) := by
        show ((s.stir q.root).put b _).get b = _
        rw [St.get_put, if_pos rfl]
      refine C.wstep hN hX hF hb rfl (by show s.next ≤ (s.stir _).next; rw [St.stir_next]; exact Nat.le_refl _) (fun k hk hk' => ?_) ?_ (fun m h1 h2 => ?_) ?_ (fun k hk => .inl hk)
      · simp [On.foot] at hk'
        show ((s.stir q.root).put b _).get k = _
        rw [St.get_put, if_neg hk'.1, gets k hk'.1 hk'.2]
      · show (s.stir q.root).lowb = _
        rw [St.stir_lowb]
      · have a1 := h1 b (by simp [On.foot])
        have a2 := h1 rt (by simp [On.foot])
        show m ≤ min (s.stir q.root).low (min b q.root)
        rw [St.stir_low]
        omega
      · refine .inr (.inr ⟨b, _, rfl, hrow, g2, g3, g4, ?_, ?_, ?_, h8, ?_, ?_, by rw [show ({ q2 with cs := writeAt q.cs 0 cs } : Row).root = q.root from g5]; exact h11, h12, ?_, rfl⟩)
        · dsimp only
          rw [hl]
          unfold writeAt
          simp only [List.length_append, List.length_take, List.length_drop]
          omega
        · dsimp only
          rw [hl]
          have e1 : (writeAt q.cs 0 cs).take (xs.length * r.sz) = cs := by
            unfold writeAt
            rw [List.take_zero, List.nil_append, List.take_append_of_le_length (by omega), List.take_of_length_le (by omega)]
          rw [e1]
          exact hy.fl (hF _ hm)
        · show b < (s.stir q.root).next
          rw [St.stir_next]; exact h7
        · dsimp only; rw [hl]; exact h9
        · show q2.root < (s.stir q.root).next
          rw [St.stir_next, g5]; exact h10
        · show ∃ q', ((s.stir q.root).put b _).get rt = some (.row q')
          rw [St.get_put]
          split
          · exact ⟨_, rfl⟩
          · rcases St.stir_get s q.root rt with hg | ⟨q3, hg1, hg2⟩
            · exact ⟨q', by rw [hg]; exact h13⟩
            · exact ⟨_, hg2⟩
theorem many_strs (s : St) : ∀ xs : List ByteArray, many rS s xs (xs.map Value.string)
  | [] => rfl
  | x :: xs => many.cons (c := [.string x]) rS_mk (many_strs s xs)
def srP (xs : List ByteArray) (K : List ByteArray → Option ρ) : Option ρ := if 0 < xs.length ∧ xs.length < 4611686018427387904 then K (sortL xs) else none
def srtP (n : Nat) (xs : List ByteArray) (K : List ByteArray → Option ρ) : Option ρ := match n with | 0 => none | _ + 1 => srP xs K
theorem sortL_length (xs : List ByteArray) : (sortL xs).length = xs.length := by unfold sortL; rw [List.length_map, List.length_mergeSort, List.length_map]
theorem Rf.sortW {E : Env} {f : FuncId} {n : Nat} {xs : List ByteArray} {A : Option Addr} {c rt : Nat} {e : TypeId} (j : Nat) (C : Cx N X Z s0 s L B G) (hs : E.sum f = Option.none) (hw : E.sumW f = some sumSort) (hN : s0.next = N) (hX : NoRow X s0) (hF : ∀ b ∈ B, b.r.Fl)
    (hb : B[j]? = some ⟨rS, xs, A, c, e, true, rt⟩) {F : List ByteArray → Option ρ} {K : Value → St → Ans} {Kf : List PanicEntry → St → Ans}
    (hK : ∀ s', Cx N X Z s0 s' L (B.set j ⟨rS, sortL xs, A, c, e, true, rt⟩) [] → Rf (F (sortL xs)) H Q (K (.tuple #[]) s')) :
    Rf (srtP n xs F) H Q (kcall (acall E n f [.slice A xs.length c] s) K Kf) := fun q e' hq => by
  cases n with
  | zero => cases e'
  | succ n =>
    unfold srtP srP at e'
    dsimp only at e'
    split at e'
    · rename_i hc
      obtain ⟨b, s', hA, h1, C'⟩ := C.setAll hN hX hF hb hc.1 (sortL_length xs) (many_strs s (sortL xs))
      have hm : (⟨rS, xs, A, c, e, true, rt⟩ : On) ∈ B := List.mem_of_getElem? hb
      have hsr := (C.own _ hm).sr
      dsimp only at hsr
      subst hA
      have hseen : (s.seen b 0 xs.length).bind strsL = some xs := by
        obtain ⟨_, ⟨k1, _⟩ | ⟨i, off, z, cs, k1, _, k2, k3, k4, k5⟩⟩ := hsr
        · cases k1
        · injection k1 with k1
          injection k1 with k1 k1'
          subst k1; subst k1'
          have hz : rS.sz = 1 := rfl
          rw [hz, Nat.mul_one] at k4 k5
          unfold St.seen
          rw [St.rc_cells k2]
          simp only [Option.bind_some]
          rw [if_pos k4]
          simp only [Option.bind_some]
          exact strsL_many k5
      unfold acall
      rw [hs]
      dsimp only
      rw [hw]
      dsimp only
      unfold sumSort
      dsimp only
      rw [hseen]
      dsimp only
      rw [if_pos hc, h1]
      exact hK s' C' q e' hq
    · cases e'
end
end Go.Proofs.YtckalckfihhldaaDoorF
