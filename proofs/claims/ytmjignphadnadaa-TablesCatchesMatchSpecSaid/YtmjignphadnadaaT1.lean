/- Plain laws of the tables, 1: faults. -/
import Derived.Test.YtmjignphadnadaaP1
import Derived.Test.YtmjignphadnadaaF23
set_option linter.unusedVariables false
set_option linter.unusedSimpArgs false
namespace Go.Proofs.YtmjignphadnadaaF
open Go Go.Proofs

theorem s28 {n : Nat} (hn : 0 < n) (a b : Int) : p28 n a b = some (a, b) := by
  obtain ⟨n, rfl⟩ : ∃ m, n = m + 1 := ⟨n - 1, by omega⟩; rfl
theorem s10 {n : Nat} (hn : 0 < n) (a b : Int) : p10 n a b = some (a, b) := by
  obtain ⟨n, rfl⟩ : ∃ m, n = m + 1 := ⟨n - 1, by omega⟩; rfl
theorem s33 {n : Nat} (hn : 0 < n) (a b c : Int) : p33 n a b c = some (decide (b ≤ a ∧ a ≤ c)) := by
  obtain ⟨n, rfl⟩ : ∃ m, n = m + 1 := ⟨n - 1, by omega⟩
  rw [p33]; unfold pj
  by_cases h1 : b ≤ a <;> simp [h1]

/-- What is wrong with mark i. -/
def mkf (l : List (Int × Int)) (i : Nat) : Int :=
  let x := l.getD i (0, 0)
  if x.1 < 0 ∨ x.1 ≥ 60000 ∨ x.2 < 1 ∨ x.2 > 16000 then 4 else if (i = 0 ∧ x.1 ≠ 0) ∨ (0 < i ∧ x.1 ≤ (l.getD (i - 1) (0, 0)).1) then 11 else 0
def chkM (l : List (Int × Int)) : Int × Int := if l.length > 60000 then (2, -1) else firstBad (mkf l) l.length
theorem getD_some {α : Type} {l : List α} {i : Nat} (d : α) (h : i < l.length) : l[i]? = some (l.getD i d) := by
  simp [h]
theorem s27 {n : Nat} (l : List (Int × Int)) (hn : 60010 ≤ n) : p27 n l = some (chkM l) := by
  obtain ⟨n, rfl⟩ : ∃ m, n = m + 1 := ⟨n - 1, by omega⟩
  rw [p27, chkM]
  by_cases h0 : l.length > 60000
  · rw [if_pos (by simp; omega), s28 (by omega), if_pos h0]; rfl
  · rw [if_neg (by simp; omega), if_neg h0]
    rw [loop_bad (f := mkf l) (n := l.length) (mkt := fun c i => (c, i)) (by omega) ?_ ?_ ?_]
    · by_cases hf : (firstBad (mkf l) l.length).1 = 0
      · simp only [hf, if_true, Option.bind_some]
        rcases first_or (fun i => mkf l i ≠ 0) l.length with h1 | ⟨j, h1, h2, h3⟩
        · rw [firstBad_none (fun i hi => by simpa using h1 i hi)]
        · rw [firstBad_some h1 h2 (fun i hi => by simpa using h3 i hi)] at hf; exact absurd hf h2
      · simp only [hf, if_false, Option.bind_some]
    · intro i hi hf
      have hx := getD_some (0, 0) hi
      unfold mkf at hf
      generalize l.getD i (0, 0) = x at hx hf
      unfold pb27_1
      rw [if_pos (by simp; omega), rd_nat hx]
      simp only [pj]
      dsimp only at hf
      split at hf
      · cases hf
      · rename_i g1
        split at hf
        · cases hf
        · rename_i g2
          simp only [decide_eq_true_eq, if_neg (show ¬ x.1 < 0 by omega), if_neg (show ¬ x.1 ≥ 60000 by omega), if_neg (show ¬ x.2 < 1 by omega), if_neg (show ¬ x.2 > 16000 by omega)]
          rw [wr (x := (i : Int) + 1) (by omega) (by omega)]
          by_cases hi0 : i = 0
          · subst hi0
            have : x.1 = 0 := by omega
            simp [this]
          · have hp := getD_some (0, 0) (show i - 1 < l.length by omega)
            have hw : IntKind.wrap .i64 ((i : Int) - 1) = ((i - 1 : Nat) : Int) := by rw [wr (by omega) (by omega)]; omega
            rw [hw, rd_nat hp]
            have g3 : ¬ x.1 ≤ (l.getD (i - 1) (0, 0)).1 := by omega
            simp [hi0, show (0 : Int) < i by omega]
            have g4 : (l[i - 1]?.getD (0, 0)).1 < x.1 := by simpa using g3
            intro _ h; omega
    · intro i hi hf
      have hx := getD_some (0, 0) hi
      unfold mkf at hf ⊢
      generalize l.getD i (0, 0) = x at hx hf
      unfold pb27_1
      rw [if_pos (by simp; omega), rd_nat hx]
      simp only [pj, s28 (show 0 < n by omega)]
      dsimp only at hf ⊢
      by_cases g1 : x.1 < 0 ∨ x.1 ≥ 60000 ∨ x.2 < 1 ∨ x.2 > 16000
      · rw [if_pos g1]
        by_cases a1 : x.1 < 0
        · simp [a1]
        · by_cases a2 : x.1 ≥ 60000
          · simp [a1, a2]
          · by_cases a3 : x.2 < 1
            · simp [a1, a2, a3]
            · have a4 : x.2 > 16000 := by omega
              simp [a1, a2, a3, a4]
      · rw [if_neg g1] at hf ⊢
        have g2 : (i = 0 ∧ x.1 ≠ 0) ∨ (0 < i ∧ x.1 ≤ (l.getD (i - 1) (0, 0)).1) := by
          by_cases h : (i = 0 ∧ x.1 ≠ 0) ∨ (0 < i ∧ x.1 ≤ (l.getD (i - 1) (0, 0)).1)
          · exact h
          · rw [if_neg h] at hf; exact absurd rfl hf
        rw [if_pos g2]
        simp only [decide_eq_true_eq, if_neg (show ¬ x.1 < 0 by omega), if_neg (show ¬ x.1 ≥ 60000 by omega), if_neg (show ¬ x.2 < 1 by omega), if_neg (show ¬ x.2 > 16000 by omega)]
        rcases g2 with ⟨rfl, hz⟩ | ⟨hi0, hle⟩
        · simp [hz]
        · have hp := getD_some (0, 0) (show i - 1 < l.length by omega)
          have hw : IntKind.wrap .i64 ((i : Int) - 1) = ((i - 1 : Nat) : Int) := by rw [wr (by omega) (by omega)]; omega
          rw [hw, rd_nat hp]
          have g3 : x.1 ≤ (l[i - 1]?.getD (0, 0)).1 := by simpa using hle
          simp [show i ≠ 0 by omega, show (0 : Int) < i by omega, g3]
    · unfold pb27_1
      rw [if_neg (by simp)]
theorem s9 {n : Nat} (l : List (Int × Int)) (hn : 60010 ≤ n) : p9 n l = some (chkM l) := by
  obtain ⟨n, rfl⟩ : ∃ m, n = m + 1 := ⟨n - 1, by omega⟩
  rw [p9, chkM]
  by_cases h0 : l.length > 60000
  · rw [if_pos (by simp; omega), s10 (by omega), if_pos h0]; rfl
  · rw [if_neg (by simp; omega), if_neg h0]
    let st : Nat → Int × Int := fun i => (if i = 0 then -1 else (l.getD (i - 1) (0, 0)).1, (i : Int))
    have good : ∀ i, i < l.length → mkf l i = 0 → pb9_1 n l (st i) = some (.inl (st (i + 1))) := by
      intro i hi hf
      have hx := getD_some (0, 0) hi
      have he : st (i + 1) = ((l.getD i (0, 0)).1, ((i + 1 : Nat) : Int)) := by simp [st]
      rw [he]
      unfold mkf at hf
      generalize l.getD i (0, 0) = x at hx hf
      unfold pb9_1
      dsimp only [st] at hf ⊢
      rw [if_pos (by simp; omega), rd_nat hx]
      simp only [pj, s33 (show 0 < n by omega), Option.bind_some]
      split at hf
      · cases hf
      · rename_i g1
        split at hf
        · cases hf
        · rename_i g2
          have b1 : decide (0 ≤ x.1 ∧ x.1 ≤ 59999) = true := by simp; omega
          have b2 : decide (1 ≤ x.2 ∧ x.2 ≤ 16000) = true := by simp; omega
          rw [b1, b2, wr (x := (i : Int) + 1) (by omega) (by omega)]
          by_cases hi0 : i = 0
          · subst hi0
            have : x.1 = 0 := by omega
            simp [this]
          · have g3 : ¬ x.1 ≤ (l.getD (i - 1) (0, 0)).1 := by omega
            have g4 : (l[i - 1]?.getD (0, 0)).1 < x.1 := by simpa using g3
            simp [hi0]
            intro h; omega
    have bad : ∀ i, i < l.length → mkf l i ≠ 0 → pb9_1 n l (st i) = some (.inr (.inr (mkf l i, (i : Int)))) := by
      intro i hi hf
      have hx := getD_some (0, 0) hi
      unfold mkf at hf ⊢
      generalize l.getD i (0, 0) = x at hx hf
      unfold pb9_1
      dsimp only [st] at hf ⊢
      rw [if_pos (by simp; omega), rd_nat hx]
      simp only [pj, s33 (show 0 < n by omega), s10 (show 0 < n by omega), Option.bind_some]
      by_cases g1 : x.1 < 0 ∨ x.1 ≥ 60000 ∨ x.2 < 1 ∨ x.2 > 16000
      · rw [if_pos g1]
        by_cases a1 : 0 ≤ x.1 ∧ x.1 ≤ 59999
        · have b2 : decide (1 ≤ x.2 ∧ x.2 ≤ 16000) = false := by simp; omega
          simp [a1, b2]
        · have b1 : decide (0 ≤ x.1 ∧ x.1 ≤ 59999) = false := by simp; omega
          simp [b1]
      · rw [if_neg g1] at hf ⊢
        have g2 : (i = 0 ∧ x.1 ≠ 0) ∨ (0 < i ∧ x.1 ≤ (l.getD (i - 1) (0, 0)).1) := by
          by_cases h : (i = 0 ∧ x.1 ≠ 0) ∨ (0 < i ∧ x.1 ≤ (l.getD (i - 1) (0, 0)).1)
          · exact h
          · rw [if_neg h] at hf; exact absurd rfl hf
        rw [if_pos g2]
        have b1 : decide (0 ≤ x.1 ∧ x.1 ≤ 59999) = true := by simp; omega
        have b2 : decide (1 ≤ x.2 ∧ x.2 ≤ 16000) = true := by simp; omega
        rw [b1, b2]
        rcases g2 with ⟨rfl, hz⟩ | ⟨hi0, hle⟩
        · have h1 : ¬ x.1 ≤ -1 := by omega
          have h2 : 0 < x.1 := by omega
          simp [h1, h2]
        · have g3 : x.1 ≤ (l[i - 1]?.getD (0, 0)).1 := by simpa using hle
          simp [show i ≠ 0 by omega, g3]
    have done : pb9_1 n l (st l.length) = some (.inr (.inl (st l.length))) := by
      unfold pb9_1
      rw [if_neg (by simp [st])]
    rcases first_or (fun i => mkf l i ≠ 0) l.length with h1 | ⟨j, h1, h2, h3⟩
    · rw [firstBad_none (fun i hi => by simpa using h1 i hi)]
      rw [loop_to st l.length n _ (by omega) (fun i hi => good i hi (by simpa using h1 i hi)) done (by simp [st])]
      rfl
    · rw [firstBad_some h1 h2 (fun i hi => by simpa using h3 i hi)]
      rw [loop_to st j n _ (by omega) (fun i hi => good i (by omega) (by simpa using h3 i hi)) (bad j h1 h2) (by simp [st])]
      rfl
end Go.Proofs.YtmjignphadnadaaF
