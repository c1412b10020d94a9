/- The classes' names, and where one stands. -/
import Derived.Test.YtckalckfihhldaaDoorT3
import Derived.KernelRfl
set_option linter.unusedVariables false
set_option linter.unusedSimpArgs false
namespace Go.Proofs.YtckalckfihhldaaDoorF
open Go Go.Proofs
set_option maxRecDepth 100000
set_option maxHeartbeats 4000000

def classes : List (List UInt8) := [[111, 98, 106, 101, 99, 116], [99, 108, 97, 115, 115], [110, 105, 108, 95, 116, 121, 112, 101], [98, 111, 111, 108], [105, 110, 116], [114, 97, 116, 105, 111], [116, 101, 120, 116], [98, 121, 116, 101, 115], [116, 117, 112, 108, 101], [108, 105, 115, 116], [100, 105, 99, 116], [115, 101, 116], [114, 97, 110, 103, 101], [99, 101, 108, 108], [102, 117, 110, 99, 116, 105, 111, 110], [98, 117, 105, 108, 116, 105, 110], [109, 101, 116, 104, 111, 100], [109, 111, 100, 117, 108, 101], [112, 114, 111, 112, 101, 114, 116, 121], [115, 116, 97, 116, 105, 99], [99, 108, 97, 115, 115, 95, 109, 101, 116, 104, 111, 100], [115, 117, 112, 101, 114, 95, 116, 121, 112, 101], [105, 116, 101, 114, 97, 116, 111, 114], [103, 101, 110, 101, 114, 97, 116, 111, 114], [119, 101, 97, 107], [116, 97, 115, 107], [116, 105, 109, 101, 114], [112, 97, 115, 115, 95, 116, 121, 112, 101], [82, 97, 105, 115, 101, 100], [69, 120, 105, 116], [67, 97, 110, 99, 101, 108], [69, 114, 114, 111, 114], [84, 121, 112, 101, 69, 114, 114, 111, 114], [86, 97, 108, 117, 101, 69, 114, 114, 111, 114], [78, 97, 109, 101, 69, 114, 114, 111, 114], [85, 110, 98, 111, 117, 110, 100, 69, 114, 114, 111, 114], [65, 116, 116, 114, 105, 98, 117, 116, 101, 69, 114, 114, 111, 114], [76, 111, 111, 107, 117, 112, 69, 114, 114, 111, 114], [73, 110, 100, 101, 120, 69, 114, 114, 111, 114], [75, 101, 121, 69, 114, 114, 111, 114], [65, 114, 105, 116, 104, 109, 101, 116, 105, 99, 69, 114, 114, 111, 114], [68, 105, 118, 105, 115, 105, 111, 110, 69, 114, 114, 111, 114], [76, 105, 109, 105, 116, 69, 114, 114, 111, 114], [82, 101, 99, 117, 114, 115, 105, 111, 110, 69, 114, 114, 111, 114], [65, 115, 115, 101, 114, 116, 105, 111, 110, 69, 114, 114, 111, 114], [73, 109, 112, 111, 114, 116, 69, 114, 114, 111, 114], [83, 116, 111, 112, 69, 114, 114, 111, 114], [83, 116, 97, 116, 101, 69, 114, 114, 111, 114], [71, 114, 111, 117, 112, 69, 114, 114, 111, 114]]
theorem p31_names : (p31 3997).map (fun l => l.map fun o => o.2.1.data.toList) = some classes := by kernel_rfl
theorem p15_ok (name : List UInt8) : (name ∉ classes ∧ p15 3998 (mkB name) = some (0, false)) ∨ ∃ i : Nat, classes[i]? = some name ∧ p15 3998 (mkB name) = some ((i : Int), true) := by
  obtain ⟨os, e0⟩ : ∃ os, p31 3997 = some os := by
    have := p31_names
    cases h : p31 3997 with
    | none => rw [h] at this; cases this
    | some os => exact ⟨os, rfl⟩
  have hn : os.map (fun o => o.2.1.data.toList) = classes := by
    have := p31_names
    rw [e0] at this
    exact Option.some.inj this
  have hlen : os.length = 49 := by
    have := congrArg List.length hn
    rw [List.length_map] at this
    exact this
  have hget : ∀ i (h : i < os.length), classes[i]? = some (os[i].2.1.data.toList) := fun i h => by rw [← hn, List.getElem?_map, get_of_lt h]; rfl
  obtain ⟨t, et, q⟩ := loop_inv (body := pb15_1 3997 (mkB name) os) (fun t => ∃ i : Nat, t = (i : Int) ∧ i ≤ os.length ∧ ∀ k, k < i → classes[k]? ≠ some name) (fun t => os.length - t.toNat)
    (fun t => (∃ y, t = .inl y ∧ name ∉ classes) ∨ ∃ i : Nat, t = .inr (i : Int) ∧ classes[i]? = some name)
    (fun t ⟨i, e, h1, h2⟩ => by
      subst e
      unfold pb15_1
      by_cases hi : i < os.length
      · rw [if_pos (by simpa using hi), rd_nat (get_of_lt hi), toList_mkB, ByteArray.toList_eq]
        by_cases he : os[i].2.1.data.toList = name
        · right
          rw [if_pos (by rw [beq_iff_eq]; exact he)]
          exact ⟨_, rfl, .inr ⟨i, rfl, by rw [hget i hi, he]⟩⟩
        · left
          rw [if_neg (by rw [beq_iff_eq]; exact he)]
          refine ⟨_, rfl, ⟨i + 1, by rw [wr (by omega) (by omega)]; simp, by omega, fun k hk => ?_⟩, by rw [wr (by omega) (by omega)]; omega⟩
          rcases Nat.lt_or_ge k i with h | h
          · exact h2 k h
          · obtain rfl : k = i := by omega
            rw [hget k hi]
            exact fun h => he (Option.some.inj h)
      · right
        rw [if_neg (by simpa using hi)]
        refine ⟨_, rfl, .inl ⟨_, rfl, fun hm => ?_⟩⟩
        obtain ⟨k, hk, e⟩ := List.getElem_of_mem hm
        have hk2 : k < os.length := by
          have : classes.length = 49 := rfl
          omega
        exact h2 k (by omega) (by rw [get_of_lt hk, e])) 3997 0 ⟨0, rfl, Nat.zero_le _, fun k hk => by omega⟩ (by omega)
  rcases q with ⟨y, rfl, h⟩ | ⟨i, rfl, h⟩
  · refine .inl ⟨h, ?_⟩
    rw [p15, e0, Option.bind_some, et]
    rfl
  · refine .inr ⟨i, h, ?_⟩
    rw [p15, e0, Option.bind_some, et]
    rfl
end Go.Proofs.YtckalckfihhldaaDoorF
