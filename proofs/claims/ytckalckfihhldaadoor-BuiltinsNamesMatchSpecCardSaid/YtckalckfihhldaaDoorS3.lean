/- Summaries of functions that are not run: strings.Index, strings.ContainsAny. -/
import Derived.Test.YtckalckfihhldaaDoorS1
import Derived.Lib.IndexAny
set_option linter.unusedVariables false
set_option linter.unusedSimpArgs false
namespace Go.Proofs.YtckalckfihhldaaDoorF
open Go Go.RowKit
/-- The place of a text in a text. -/
def idP (b sub : ByteArray) : Option Int := match sub.data.toList with
  | [c] => some (Lib.indexByte b.data.toList c)
  | _ => if b.size < 4294967281 then some (Lib.index b.data.toList sub.data.toList) else none
def MaxOk (g : Nat) (s : St) : Prop := ∃ m : Int, Lo s g 0 ([m].map (Value.int .i64))
open Classical in
noncomputable def sumIndex (g : Nat) : List Value → St → Option Value
  | [.string b, .string sub], s => if MaxOk g s then (idP b sub).map (Value.int .i64) else none
  | _, _ => none
theorem sumIndex_ok {P : Program} {f : FuncId} {glob : List Nat} {g : Nat} (hg1 : g ∈ glob)
    (h1 : ∀ (s : ByteArray) (c : UInt8) (w : World), Calls P f #[.string s, .string ⟨#[c]⟩] w fun e w' => e = .returned (.int .i64 (Lib.indexByte s.data.toList c)) ∧ w' = w)
    (h : ∀ (s sub : ByteArray) (m : Int) (w : World), s.size < 4294967281 → w.cell? ⟨g, 0, none⟩ = some (.int .i64 m) → Calls P f #[.string s, .string sub] w fun e w' => e = .returned (.int .i64 (Lib.index s.data.toList sub.data.toList)) ∧ w' = w) : SumOk1 P glob f (sumIndex g) := by
  intro args s v hv
  unfold sumIndex at hv
  split at hv
  · rename_i b sub
    split at hv
    · rename_i hm
      unfold idP at hv
      split at hv
      · rename_i c hc
        injection hv with hv
        subst hv
        refine ⟨fun φ => .flat rfl, fun φ w Own args' hg hR ha => ?_⟩
        obtain ⟨y, y', rfl, hy, hy'⟩ := ha.inv2
        have e : sub = ⟨#[c]⟩ := by
          cases sub with
          | mk d => congr 1; exact Array.ext' hc
        rw [hy.string_inv, hy'.string_inv, e]
        refine (h1 b c w).mono ?_
        rintro e w' ⟨he, rfl⟩
        exact ⟨he, Below.refl _ w'⟩
      · split at hv
        · rename_i hs
          injection hv with hv
          subst hv
          refine ⟨fun φ => .flat rfl, fun φ w Own args' hg hR ha => ?_⟩
          obtain ⟨y, y', rfl, hy, hy'⟩ := ha.inv2
          rw [hy.string_inv, hy'.string_inv]
          obtain ⟨m, hm⟩ := hm
          obtain ⟨l, a1, a2, a3⟩ := hg g hg1
          refine (h b sub m w hs (hm.world hR a1 a2 a3 (i := 0) (x := m) rfl)).mono ?_
          rintro e w' ⟨he, rfl⟩
          exact ⟨he, Below.refl _ w'⟩
        · cases hv
    · cases hv
  · cases hv
/-- Does a text hold one of some bytes. -/
def caP (b cs : ByteArray) : Option Bool := if b.size < 4294967281 ∧ cs.size < 4294967281 ∧ (b.data.toList.all fun x => decide (x.toNat < 128)) = true ∧ (cs.data.toList.all fun x => decide (x.toNat < 128)) = true then some (Lib.containsAny b.data.toList cs.data.toList) else none
def sumContainsAny : List Value → St → Option Value
  | [.string b, .string cs], _ => (caP b cs).map Value.bool
  | _, _ => none
theorem sumContainsAny_ok {P : Program} {f : FuncId} {glob : List Nat}
    (h : ∀ (s chars : ByteArray) (w : World), s.size < 4294967281 → chars.size < 4294967281 → (∀ (j : Nat) b, s.data.toList[j]? = some b → b.toNat < 128) → (∀ (j : Nat) b, chars.data.toList[j]? = some b → b.toNat < 128) →
      Calls P f #[.string s, .string chars] w fun e w' => e = .returned (.bool (Lib.containsAny s.data.toList chars.data.toList)) ∧ Below w.heap.size w w') : SumOk1 P glob f sumContainsAny := by
  intro args s v hv
  unfold sumContainsAny at hv
  split at hv
  · rename_i b cs
    unfold caP at hv
    split at hv
    · rename_i hc
      injection hv with hv
      subst hv
      refine ⟨fun φ => .flat rfl, fun φ w Own args' hg hR ha => ?_⟩
      obtain ⟨y, y', rfl, hy, hy'⟩ := ha.inv2
      rw [hy.string_inv, hy'.string_inv]
      have asc : ∀ l : List UInt8, (l.all fun x => decide (x.toNat < 128)) = true → ∀ (j : Nat) b, l[j]? = some b → b.toNat < 128 := fun l hl j b hb => by
        have := List.all_eq_true.1 hl b (List.mem_of_getElem? hb)
        simpa using this
      exact h b cs w hc.1 hc.2.1 (asc _ hc.2.2.1) (asc _ hc.2.2.2)
    · cases hv
  · cases hv
end Go.Proofs.YtckalckfihhldaaDoorF
