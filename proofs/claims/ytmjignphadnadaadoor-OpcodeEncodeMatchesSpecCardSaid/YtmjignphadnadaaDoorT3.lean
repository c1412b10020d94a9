/- Plain laws of the opcodes, 3: the reference encodes; what was encoded is decoded. -/
import Derived.Test.YtmjignphadnadaaDoorT2
set_option linter.unusedVariables false
set_option linter.unusedSimpArgs false
namespace Go.Proofs.YtmjignphadnadaaDoorF
open Go Go.Proofs

theorem sS1 {n : Nat} (x : Int) (h0 : 0 ≤ x) (h1 : x ≤ 16000) (hn : 5 ≤ n) : p24 n x = some (sept 1 x) := sS 1 x h0 (by omega) (by omega) (by omega) (by omega)
theorem l10s (n : Nat) (i : Nat) (o a b y : Int) (k : Nat) (out : List Int) (hn : 10 ≤ n) (ho : 0 ≤ o ∧ o < 80) (hk : k < 2) (hy : [a, b][k]? = some y) (hl : out.length ≤ 1000000) :
    pb10_2 n (i : Int) (o, a, b) (cO, out, (k : Int)) = some (if 0 ≤ y ∧ y ≤ 16000 ∧ ((k : Int) < kk o ∨ y = 0) then .inl (cO, out ++ (if (k : Int) < kk o then sept 1 y else []), ((k + 1 : Nat) : Int)) else .inr (.inr (4, (i : Int)))) := by
  obtain ⟨e, e1, e2⟩ := kk_ops ho.1 ho.2
  have hs := sept_length 1 y
  unfold pb10_2
  rw [if_pos (by simp; omega)]
  simp only [pj]
  rw [rd_nat hy, rd_int ho.1 e1, s23 _ _ _ (by omega), e2]
  simp only [Option.bind_some, s22 4 _ (show 0 < n by omega)]
  rw [wr (x := (k : Int) + 1) (by omega) (by omega)]
  by_cases h : 0 ≤ y ∧ y ≤ 16000
  · rw [if_neg (by simpa using h)]
    by_cases hu : (k : Int) < kk o
    · rw [if_neg (by simpa using hu), if_neg (by simp), if_pos (by simpa using hu), sS1 y h.1 h.2 (by omega)]
      simp only [Option.bind_some]
      rw [apP_ok (by omega), if_pos ⟨h.1, h.2, .inl hu⟩, if_pos hu]
      rfl
    · rw [if_pos (by simpa using hu)]
      by_cases hy0 : y = 0
      · rw [if_neg (by simpa using hy0), if_neg (by simpa using hu), if_pos ⟨h.1, h.2, .inr hy0⟩, if_neg hu, List.append_nil]
        rfl
      · rw [if_pos (by simpa using hy0), if_neg (fun hh => hh.2.2.elim hu hy0)]
  · rw [if_pos (by simp; omega), if_pos trivial, if_neg (fun hh => h ⟨hh.1, hh.2.1⟩)]
theorem l10e (n : Nat) (i : Nat) (x : Ins) (out : List Int) : pb10_2 n (i : Int) x (cO, out, ((2 : Nat) : Int)) = some (.inr (.inl (cO, out, 2))) := by
  unfold pb10_2
  rw [if_neg (by simp)]
  rfl
theorem l10_2 (n : Nat) (i : Nat) (o a b : Int) (out : List Int) (hn : 10 ≤ n) (ho : 0 ≤ o ∧ o < 80) (hl : out.length ≤ 100000 * 5) :
    loopP (pb10_2 n (i : Int) (o, a, b)) n (cO, out, 0) = some (if a < 0 ∨ b < 0 ∨ a > 16000 ∨ b > 16000 ∨ (kk o < 2 ∧ b ≠ 0) ∨ (kk o < 1 ∧ a ≠ 0) then .inr (4, (i : Int)) else .inl (cO, out ++ (if kk o ≥ 1 then sept 1 a else []) ++ (if kk o ≥ 2 then sept 1 b else []), 2)) := by
  obtain ⟨n', rfl⟩ : ∃ m, n = m + 3 := ⟨n - 3, by omega⟩
  have hkc := kk_cases o
  have ha := sept_length 1 a
  have st0 := l10s (n' + 3) i o a b a 0 out hn ho (by omega) rfl (by omega)
  have e00 : ((0 : Nat) : Int) = 0 := rfl
  rw [e00] at st0
  unfold loopP
  rw [st0]
  by_cases h1 : 0 ≤ a ∧ a ≤ 16000 ∧ ((0 : Int) < kk o ∨ a = 0)
  · rw [if_pos h1]
    dsimp only
    unfold loopP
    have hl2 : (out ++ (if (0 : Int) < kk o then sept 1 a else [])).length ≤ 1000000 := by
      split
      · rw [List.length_append]; omega
      · simp; omega
    rw [l10s (n' + 3) i o a b b 1 (out ++ (if (0 : Int) < kk o then sept 1 a else [])) hn ho (by omega) rfl hl2]
    by_cases h2 : 0 ≤ b ∧ b ≤ 16000 ∧ (((1 : Nat) : Int) < kk o ∨ b = 0)
    · rw [if_pos h2]
      dsimp only
      unfold loopP
      have hg : ¬ (a < 0 ∨ b < 0 ∨ a > 16000 ∨ b > 16000 ∨ (kk o < 2 ∧ b ≠ 0) ∨ (kk o < 1 ∧ a ≠ 0)) := by omega
      rw [l10e, if_neg hg]
      have e1 : ((0 : Int) < kk o) = (kk o ≥ 1) := by apply propext; omega
      have e2 : (((1 : Nat) : Int) < kk o) = (kk o ≥ 2) := by apply propext; omega
      simp only [e1, e2]
    · rw [if_neg h2]
      dsimp only
      rw [if_pos (by omega)]
  · rw [if_neg h1]
    dsimp only
    rw [if_pos (by omega)]
theorem cO_len : cO.length = 80 := by simp [cO, cW_len]
theorem s10 {n : Nat} (l : List Ins) (hn : 60030 ≤ n) : p10 n l = some (encR l) := by
  obtain ⟨n, rfl⟩ : ∃ m, n = m + 1 := ⟨n - 1, by omega⟩
  rw [p10]
  unfold encR
  by_cases h0 : l.length > 60000
  · rw [if_pos (by simp; omega), if_pos h0, s22 _ _ (by omega)]
    rfl
  · rw [if_neg (by simp; omega), if_neg h0, s4 (by omega)]
    simp only [Option.bind_some]
    have hk80 : IntKind.wrap .i64 (((cO.length : Nat) : Int) - 1) = 79 := by rw [cO_len, wr (by omega) (by omega)]; rfl
    rw [loop_badS (f := insF l) (n := l.length) (S := fun i => (cO, (l.take i).flatMap insB, (i : Int))) (mk := fun c i => (c, i)) (e := (cO, l.flatMap insB, (l.length : Int))) (by omega) ?_ ?_ ?_ (by simp)]
    · by_cases hf : (firstBad (insF l) l.length).1 = 0
      · simp [hf]
      · simp [hf]
    · intro i hi hok
      have hx := get_of_lt hi
      have hf := hok i (Nat.le_refl _)
      rw [insF_get hx] at hf
      rw [flat_take hx]
      have hfl := flat_len (l.take i)
      have hlt := List.length_take_le i l
      generalize l[i] = x at hx hf
      obtain ⟨o, a, b⟩ := x
      dsimp only at hf
      split at hf
      · cases hf
      · rename_i ho
        split at hf
        · cases hf
        · rename_i hr
          unfold pb10_1
          rw [if_pos (by simp; omega), rd_nat hx]
          dsimp only
          rw [hk80, s23 _ _ _ (by omega)]
          simp only [Option.bind_some]
          rw [if_neg (by simp; omega), wr8 (x := o) (by omega) (by omega), apP_ok (by rw [List.length_singleton]; omega), l10_2 n i o a b _ (by omega) (by omega) (by rw [List.length_append, List.length_singleton]; omega), if_neg hr]
          simp only [Option.bind_some]
          rw [wr (x := (i : Int) + 1) (by omega) (by omega)]
          simp [insB]
    · intro i hi hne hok
      have hx := get_of_lt hi
      rw [insF_get hx] at hne ⊢
      have hfl := flat_len (l.take i)
      have hlt := List.length_take_le i l
      generalize l[i] = x at hx hne
      obtain ⟨o, a, b⟩ := x
      dsimp only at hne ⊢
      unfold pb10_1
      rw [if_pos (by simp; omega), rd_nat hx]
      dsimp only
      rw [hk80, s23 _ _ _ (by omega)]
      simp only [Option.bind_some]
      by_cases ho : o < 0 ∨ o ≥ 80
      · rw [if_pos ho, if_pos (by simp; omega), s22 _ _ (by omega)]
        rfl
      · rw [if_neg ho] at hne ⊢
        rw [if_neg (by simp; omega), wr8 (x := o) (by omega) (by omega), apP_ok (by rw [List.length_singleton]; omega), l10_2 n i o a b _ (by omega) (by omega) (by rw [List.length_append, List.length_singleton]; omega)]
        split at hne
        · rename_i hr
          rw [if_pos hr, if_pos hr]
          rfl
        · exact absurd rfl hne
    · intro _
      unfold pb10_1
      rw [if_neg (by simp), List.take_length]
end Go.Proofs.YtmjignphadnadaaDoorF
