/- The functions of a library module, as the code tells them. -/
import Derived.Test.YtckalckfihhldaaDoorT5
set_option linter.unusedVariables false
set_option linter.unusedSimpArgs false
namespace Go.Proofs.YtckalckfihhldaaDoorF
open Go Go.Proofs
set_option maxRecDepth 100000
set_option maxHeartbeats 4000000

def libs : List UInt8 := [99, 115, 118, 46, 114, 111, 119, 115, 32, 116, 101, 120, 116, 10, 99, 115, 118, 46, 116, 101, 120, 116, 32, 114, 111, 119, 115, 10, 100, 97, 116, 101, 46, 97, 100, 100, 95, 109, 111, 110, 116, 104, 115, 32, 110, 32, 109, 111, 110, 116, 104, 115, 10, 100, 97, 116, 101, 46, 109, 111, 109, 101, 110, 116, 32, 110, 10, 100, 97, 116, 101, 46, 115, 101, 99, 111, 110, 100, 115, 32, 109, 10, 100, 97, 116, 101, 46, 119, 101, 101, 107, 100, 97, 121, 32, 110, 10, 106, 115, 111, 110, 46, 100, 101, 99, 111, 100, 101, 32, 116, 101, 120, 116, 10, 106, 115, 111, 110, 46, 101, 110, 99, 111, 100, 101, 32, 118, 32, 105, 110, 100, 101, 110, 116, 61, 48, 10, 109, 97, 116, 104, 46, 103, 99, 100, 32, 97, 32, 98, 10, 109, 97, 116, 104, 46, 105, 115, 113, 114, 116, 32, 110, 10, 109, 97, 116, 104, 46, 110, 101, 97, 114, 101, 115, 116, 32, 120, 32, 109, 111, 115, 116, 10, 109, 97, 116, 104, 46, 112, 111, 119, 109, 111, 100, 32, 97, 32, 110, 32, 109, 10, 112, 97, 99, 107, 46, 112, 97, 99, 107, 32, 102, 111, 114, 109, 97, 116, 32, 118, 97, 108, 117, 101, 115, 10, 112, 97, 99, 107, 46, 117, 110, 112, 97, 99, 107, 32, 102, 111, 114, 109, 97, 116, 32, 100, 97, 116, 97, 10, 114, 97, 110, 100, 111, 109, 46, 98, 101, 108, 111, 119, 32, 115, 116, 97, 116, 101, 32, 110, 10, 114, 97, 110, 100, 111, 109, 46, 115, 97, 109, 112, 108, 101, 32, 115, 116, 97, 116, 101, 32, 110, 32, 107, 10, 114, 97, 110, 100, 111, 109, 46, 115, 101, 101, 100, 32, 110, 10, 114, 101, 46, 97, 108, 108, 32, 112, 97, 116, 116, 101, 114, 110, 32, 116, 101, 120, 116, 10, 114, 101, 46, 102, 105, 110, 100, 32, 112, 97, 116, 116, 101, 114, 110, 32, 116, 101, 120, 116, 32, 115, 116, 97, 114, 116, 61, 48, 10, 114, 101, 46, 102, 117, 108, 108, 32, 112, 97, 116, 116, 101, 114, 110, 32, 116, 101, 120, 116, 10, 114, 101, 46, 114, 101, 112, 108, 97, 99, 101, 32, 112, 97, 116, 116, 101, 114, 110, 32, 116, 101, 120, 116, 32, 119, 105, 116, 104, 10, 114, 101, 46, 115, 112, 108, 105, 116, 32, 112, 97, 116, 116, 101, 114, 110, 32, 116, 101, 120, 116]
def libHeads : List (List UInt8) := (cutAt 10 libs).map (headAt 32)
def under (name h : List UInt8) : Option (List UInt8) := if (name ++ [46]).isPrefixOf h then some (h.drop (name.length + 1)) else none
theorem lib_len : ∀ x ∈ cutAt 10 libs, x.length ≤ 1000 := by decide
theorem p8_ok (name : List UInt8) (hl : name.length ≤ 4611686018427387904) : p8 3999 (mkB name) = some ((libHeads.filterMap (under name)).map mkB) := by
  have hs : p22 3998 (mkB libs) (mkB [10]) = some ((cutAt 10 libs).map mkB) := split_ok libs 10 (by decide) (by decide)
  have hsz : (cutAt 10 libs).length ≤ 200 := by decide
  obtain ⟨ls, els⟩ : ∃ ls, ls = cutAt 10 libs := ⟨_, rfl⟩
  have hsl : ∀ x ∈ ls, x.length ≤ 1000 := by rw [els]; exact lib_len
  have hh : libHeads = ls.map (headAt 32) := by rw [els]; rfl
  rw [← els] at hs hsz
  have hhl : libHeads.length = ls.length := by rw [hh, List.length_map]
  have hcat : ∀ {ρ : Type} (K : ByteArray → Option ρ), catP (mkB name) (⟨#[46]⟩ : ByteArray) K = K (mkB (name ++ [46])) := fun K => by
    unfold catP
    rw [if_pos (by rw [mkB_size, show (⟨#[46]⟩ : ByteArray).size = 1 from rfl]; omega)]
    congr 1
  obtain ⟨t, et, q⟩ := loop_inv (body := pb8_1 3998 (mkB name) (ls.map mkB)) (fun t => ∃ i : Nat, t = (((libHeads.take i).filterMap (under name)).map mkB, (i : Int)) ∧ i ≤ ls.length) (fun t => ls.length - t.2.toNat)
    (fun t => t.1 = (libHeads.filterMap (under name)).map mkB)
    (fun t ⟨i, e, h1⟩ => by
      subst e
      unfold pb8_1
      by_cases hi : i < ls.length
      · left
        have hgi : libHeads[i]? = some (headAt 32 ls[i]) := by rw [hh, List.getElem?_map, get_of_lt hi]; rfl
        obtain ⟨r, er⟩ := cut_head (n := 3998) (by omega) ls[i] 32 (by have := hsl ls[i] (List.getElem_mem hi); omega)
        have htk : (libHeads.take (i + 1)).filterMap (under name) = (libHeads.take i).filterMap (under name) ++ (under name (headAt 32 ls[i])).toList := by
          rw [take_succ hgi, List.filterMap_append]
          cases h : under name (headAt 32 ls[i]) <;> simp [h]
        have hfl : ((libHeads.take i).filterMap (under name)).length ≤ i := Nat.le_trans (List.length_filterMap_le _ _) (by rw [List.length_take]; omega)
        rw [if_pos (by simpa using hi)]
        simp only [pj]
        rw [rd_nat (x := mkB ls[i]) (by rw [List.getElem?_map, get_of_lt hi]; rfl), show (⟨#[32]⟩ : ByteArray) = mkB [32] from rfl, er, Option.bind_some, hcat, p24_ok (by omega), Option.bind_some]
        refine ⟨(((libHeads.take (i + 1)).filterMap (under name)).map mkB, ((i + 1 : Nat) : Int)), ?_, ⟨i + 1, rfl, by omega⟩, by dsimp only; omega⟩
        have hw : IntKind.wrap .i64 ((i : Int) + 1) = ((i + 1 : Nat) : Int) := by rw [wr (by omega) (by omega)]; simp
        rw [htk]
        cases hp : (name ++ [46]).isPrefixOf (headAt 32 ls[i]) with
        | false =>
          have hu : under name (headAt 32 ls[i]) = none := by unfold under; rw [hp]; rfl
          rw [if_neg (by decide), hu, hw]
          simp
        | true =>
          have hu : under name (headAt 32 ls[i]) = some ((headAt 32 ls[i]).drop (name.length + 1)) := by unfold under; rw [hp]; rfl
          rw [if_pos rfl, hcat, p25_ok (by omega), hp, Option.bind_some, apP_ok (by simp; omega), hu, hw]
          simp
      · right
        obtain rfl : i = ls.length := by omega
        rw [if_neg (by simp)]
        refine ⟨_, rfl, ?_⟩
        rw [← hhl, List.take_length]) 3998 ([], 0) ⟨0, by simp, Nat.zero_le _⟩ (by dsimp only; omega)
  rw [p8]
  refine Eq.trans (b := (p22 3998 (mkB libs) (mkB [10])).bind _) rfl ?_
  rw [hs, Option.bind_some, et, Option.bind_some, q]
end Go.Proofs.YtckalckfihhldaaDoorF
