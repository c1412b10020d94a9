/- What the two listed package variables of unicode/utf8 give the laws of sources; a world that holds them. -/
import Derived.Test.YtnkbddljndfpnaaDoorCards
import Derived.Test.YtnkbddljndfpnaaDoorTie
import Derived.Test.YtnkbddljndfpnaaDoorF25
import Derived.Test.YtnkbddljndfpnaaDoorT8
import Derived.Deep.DeepHandedRow
import Derived.Deep.DeepWitnessRowRef
import Derived.Lib.LaidU8T
import Derived.Stop.LaidErr
import Derived.ChangeMaps5
set_option linter.unusedVariables false
set_option linter.unusedSimpArgs false
namespace Go.Proofs.YtnkbddljndfpnaaDoorF
open Go Go.Proofs Go.ChangeShapes Go.WideShapes Go.ChangeAt Go.RowKit Go.Lib
open Go.Proofs.YtnkbddljndfpnaaDoor
namespace R0
set_option maxRecDepth 100000
theorem und3 : Tryd.prog.underlying 3 = some (.int .i64) := by kernel_rfl
theorem und4 : Tryd.prog.underlying 4 = some .bool := by kernel_rfl
theorem und9 : Tryd.prog.underlying 9 = some .string := by kernel_rfl
theorem laidOut : laidOutB Tryd.prog = true := by kernel_rfl
theorem own : ownKnob Tryd.prog.godebug = none := by kernel_rfl
def ren : Go.Shelf.Ren := ⟨fun n => n, fun | 119 => 104 | 139 => 112 | 138 => 111 | n => n, fun | 3 => 2 | 4 => 3 | n => n⟩
theorem types : U8Types Tryd.prog ren := ⟨by kernel_rfl, by kernel_rfl, by kernel_rfl, by kernel_rfl⟩
theorem extra : U8Extra Tryd.prog ren := ⟨by kernel_rfl, by kernel_rfl, by kernel_rfl, by kernel_rfl, by kernel_rfl, by kernel_rfl, by kernel_rfl⟩
theorem first_data : Rows.laid_unicode_utf8_first = firstData := by kernel_rfl
theorem accept_data : Rows.laid_unicode_utf8_acceptRanges = acceptData := by kernel_rfl
theorem tabs {W : World} {l : List (String × DataW Unit)} (h : laidMet Tryd.prog l W) (h1 : ("unicode/utf8.first", Rows.laid_unicode_utf8_first) ∈ l) (h2 : ("unicode/utf8.acceptRanges", Rows.laid_unicode_utf8_acceptRanges) ∈ l) : Utf8Tabs 2 3 W := by
  have r1 := Lib.laidMet.reads h h1
  have r2 := Lib.laidMet.reads h h2
  rw [first_data] at r1
  rw [accept_data] at r2
  exact utf8Tabs_of_readsT types extra r1 r2
theorem gT2_eq : gT2 = firstTab := by kernel_rfl
theorem gT3_eq : gT3 = acceptTab := by kernel_rfl
def glo (i : Nat) : List Value := if i = 2 then gT2.map (Value.int .u8) else if i = 3 then gT3.map (Value.int .u8) else []
theorem gT3_len : gT3.length = 32 := by kernel_rfl
theorem startW (W : World) (h : Utf8Tabs 2 3 W) : 0 < W.heap.size ∧ ∃ φ s, R φ s W noOwn ∧ GlobOk s ∧ Glob E φ := by
  have hW : 3 < W.heap.size := by
    have h0 := (h.2 0 (by omega)).1
    unfold World.cell? at h0
    rcases Nat.lt_or_ge 3 W.heap.size with h | h
    · exact h
    · simp [Array.getElem?_eq_none h] at h0
  obtain ⟨φ, s, e0, hR, hG⟩ := start_globs W glo 4 (by omega) (fun i hi j v hv => by
    unfold glo at hv
    split at hv
    · rename_i e
      subst e
      rw [gT2_eq, List.getElem?_map] at hv
      unfold firstTab at hv
      rw [List.getElem?_map] at hv
      rcases Nat.lt_or_ge j 256 with hj | hj
      · rw [List.getElem?_range hj] at hv
        injection hv with hv
        subst hv
        exact ⟨rfl, h.1 j hj⟩
      · rw [List.getElem?_eq_none (by simpa using hj)] at hv
        cases hv
    · split at hv
      · rename_i e
        subst e
        rw [List.getElem?_map] at hv
        have acc : ∀ i, i < 16 → gT3[2 * i]? = some (accLo i : Int) ∧ gT3[2 * i + 1]? = some (accHi i : Int) := by decide
        rcases Nat.lt_or_ge j 32 with hj | hj
        · obtain ⟨k, rfl | rfl⟩ : ∃ k, j = 2 * k ∨ j = 2 * k + 1 := ⟨j / 2, by omega⟩
          · rw [(acc k (by omega)).1] at hv
            injection hv with hv
            subst hv
            exact ⟨rfl, (h.2 k (by omega)).1⟩
          · rw [(acc k (by omega)).2] at hv
            injection hv with hv
            subst hv
            exact ⟨rfl, (h.2 k (by omega)).2⟩
        · rw [List.getElem?_eq_none (by rw [gT3_len]; exact hj)] at hv
          cases hv
      · simp at hv)
  refine ⟨by omega, φ, s, hR, ⟨⟨0, _, (hG 2 (by omega)).2, by omega, fun k v hv => by rw [Nat.zero_add]; exact hv⟩, ⟨0, _, (hG 3 (by omega)).2, by omega, fun k v hv => by rw [Nat.zero_add]; exact hv⟩⟩, fun b hb => ?_⟩
  have hb' : ([2, 3] : List Nat).contains b = true := hb
  have : b = 2 ∨ b = 3 := by simpa using hb'
  rcases this with rfl | rfl
  · exact ⟨_, (hG 2 (by omega)).1, rfl, rfl⟩
  · exact ⟨_, (hG 3 (by omega)).1, rfl, rfl⟩
/-- A world for the witness: the settled one, the two variables holding what their initialisers lay. -/
noncomputable def base0 (os : Os) : World := World.holding Tryd.prog os ⟨#[], #[], []⟩
noncomputable def heap1 (os : Os) := (base0 os).heap.modify 2 (fun o => match o with
  | .cells _ t frozen => .cells (gT2.map (Value.int .u8)).toArray t frozen
  | o => o)
noncomputable def heap2 (os : Os) := (heap1 os).modify 3 (fun o => match o with
  | .cells _ t frozen => .cells (gT3.map (Value.int .u8)).toArray t frozen
  | o => o)
noncomputable def laidWorld (os : Os) : World := { base0 os with heap := heap2 os }
end R0
end Go.Proofs.YtnkbddljndfpnaaDoorF
