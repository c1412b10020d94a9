/- The built-in functions' names, in order. -/
import Derived.Test.YtckalckfihhldaaDoorT8
set_option linter.unusedVariables false
set_option linter.unusedSimpArgs false
namespace Go.Proofs.YtckalckfihhldaaDoorF
open Go Go.Proofs
set_option maxRecDepth 100000
set_option maxHeartbeats 4000000

theorem indexByte_mem (c : UInt8) : ∀ l : List UInt8, 0 ≤ Lib.indexByte l c ↔ c ∈ l
  | [] => by simp [Lib.indexByte]
  | d :: l => by
    have ih := indexByte_mem c l
    have hg := Lib.indexByte_ge l c
    unfold Lib.indexByte
    by_cases hd : d = c
    · rw [if_pos (by simpa using hd)]
      simp [hd]
    · rw [if_neg (by simpa using hd)]
      have e : c ∈ d :: l ↔ c ∈ l := by simp [Ne.symm hd]
      rw [e, ← ih]
      split <;> rename_i h <;> simp at h <;> constructor <;> intro _ <;> omega
theorem p18_dot {n : Nat} (hn : 3 ≤ n) (l : List UInt8) (c : UInt8) : p18 n (mkB l) (mkB [c]) = some (decide (c ∈ l)) := by
  obtain ⟨n, rfl⟩ : ∃ m, n = m + 3 := ⟨n - 3, by omega⟩
  have e : p32 (n + 2) (mkB l) (mkB [c]) = some (Lib.indexByte l c) := rfl
  rw [p18, e, Option.bind_some]
  exact congrArg some (decide_eq_decide.2 (indexByte_mem c l))
def blts : List (List UInt8) := sigHeads.filter fun x => decide (x ∉ classes) && decide ((46 : UInt8) ∉ x)
theorem p12_ok : p12 3999 = some (sortL (blts.map mkB)) := by
  have hs : p22 3998 (mkB sigs) (mkB [10]) = some ((cutAt 10 sigs).map mkB) := split_ok sigs 10 (by decide) (by decide)
  have hsz : (cutAt 10 sigs).length ≤ 200 := by decide
  have hpos : 0 < blts.length := by decide +kernel
  obtain ⟨ls, els⟩ : ∃ ls, ls = cutAt 10 sigs := ⟨_, rfl⟩
  have hsl : ∀ x ∈ ls, x.length ≤ 1000 := by rw [els]; exact sig_len
  have hh : sigHeads = ls.map (headAt 32) := by rw [els]; rfl
  rw [← els] at hs hsz
  have hhl : sigHeads.length = ls.length := by rw [hh, List.length_map]
  have hle : blts.length ≤ 200 := Nat.le_trans (List.length_filter_le _ _) (by omega)
  obtain ⟨t, et, q⟩ := loop_inv (body := pb12_1 3998 (ls.map mkB)) (fun t => ∃ i : Nat, t = (((sigHeads.take i).filter fun x => decide (x ∉ classes) && decide ((46 : UInt8) ∉ x)).map mkB, (i : Int)) ∧ i ≤ ls.length) (fun t => ls.length - t.2.toNat)
    (fun t => t.1 = blts.map mkB)
    (fun t ⟨i, e, h1⟩ => by
      subst e
      unfold pb12_1
      by_cases hi : i < ls.length
      · left
        have hgi : sigHeads[i]? = some (headAt 32 ls[i]) := by rw [hh, List.getElem?_map, get_of_lt hi]; rfl
        obtain ⟨r, er⟩ := cut_head (n := 3998) (by omega) ls[i] 32 (by have := hsl ls[i] (List.getElem_mem hi); omega)
        have hw : IntKind.wrap .i64 ((i : Int) + 1) = ((i + 1 : Nat) : Int) := by rw [wr (by omega) (by omega)]; simp
        have hfl : ((sigHeads.take i).filter fun x => decide (x ∉ classes) && decide ((46 : UInt8) ∉ x)).length ≤ i := Nat.le_trans (List.length_filter_le _ _) (by rw [List.length_take]; omega)
        have fin : ∀ b : Bool, (decide (headAt 32 ls[i] ∉ classes) && decide ((46 : UInt8) ∉ headAt 32 ls[i])) = b →
            ((sigHeads.take (i + 1)).filter fun x => decide (x ∉ classes) && decide ((46 : UInt8) ∉ x)).map mkB = ((sigHeads.take i).filter fun x => decide (x ∉ classes) && decide ((46 : UInt8) ∉ x)).map mkB ++ (if b then [mkB (headAt 32 ls[i])] else []) := fun b hb => by
          rw [take_succ hgi, List.filter_append, List.map_append, List.filter_cons, hb]
          cases b <;> rfl
        refine ⟨(((sigHeads.take (i + 1)).filter fun x => decide (x ∉ classes) && decide ((46 : UInt8) ∉ x)).map mkB, ((i + 1 : Nat) : Int)), ?_, ⟨i + 1, rfl, by omega⟩, by dsimp only; omega⟩
        rw [if_pos (by simpa using hi)]
        simp only [pj]
        rw [rd_nat (x := mkB ls[i]) (by rw [List.getElem?_map, get_of_lt hi]; rfl), show (⟨#[32]⟩ : ByteArray) = mkB [32] from rfl, er, Option.bind_some]
        dsimp only
        rcases p15_ok (headAt 32 ls[i]) with ⟨hc, ec⟩ | ⟨k, hk, ec⟩
        · rw [ec, Option.bind_some, if_pos (show (!(((0 : Int), false) : Int × Bool).2) = true from rfl), show (⟨#[46]⟩ : ByteArray) = mkB [46] from rfl, p18_dot (by omega), Option.bind_some]
          by_cases hd : (46 : UInt8) ∈ headAt 32 ls[i]
          · rw [if_neg (by simp [hd]), fin false (by simp [hd]), hw]
            simp
          · rw [if_pos (by simp [hd]), apP_ok (by rw [List.length_map]; simp only [List.length_cons, List.length_nil]; omega), fin true (by simp [hd, hc]), hw]
            rfl
        · rw [ec, Option.bind_some, if_neg (by simp), if_neg (by simp), fin false (by simp [List.mem_of_getElem? hk]), hw]
          simp
      · right
        obtain rfl : i = ls.length := by omega
        rw [if_neg (by simp)]
        refine ⟨_, rfl, ?_⟩
        rw [← hhl, List.take_length]
        rfl) 3998 ([], 0) ⟨0, by simp, Nat.zero_le _⟩ (by dsimp only; omega)
  rw [p12]
  refine Eq.trans (b := (p22 3998 (mkB sigs) (mkB [10])).bind _) rfl ?_
  rw [hs, Option.bind_some, et, Option.bind_some, q]
  show srP _ _ = _
  unfold srP
  rw [if_pos ⟨by rw [List.length_map]; exact hpos, by rw [List.length_map]; omega⟩]
theorem p13_blts : p13 3999 (sortL (blts.map mkB)) = some true := by
  have hl : blts.length ≤ 200 := by decide +kernel
  exact p13_ok _ (by rw [List.length_map]; omega) (by rw [List.length_map]; omega)
theorem p14_blts (name : List UInt8) : p14 3999 (sortL (blts.map mkB)) (mkB name) = some (decide (name ∈ blts)) := by
  have hl : blts.length ≤ 200 := by decide +kernel
  rw [p14_ok _ _ (by rw [sortL_length, List.length_map]; omega) (by rw [sortL_length, List.length_map]; omega), decide_eq_decide.2 ((sortL_mem _ _).trans mem_mkB)]
end Go.Proofs.YtckalckfihhldaaDoorF
