/- Plain laws of the tables, 7: catches; numbers in groups. -/
import Derived.Test.YtmjignphadnadaaT5
set_option linter.unusedVariables false
set_option linter.unusedSimpArgs false
namespace Go.Proofs.YtmjignphadnadaaF
open Go Go.Proofs

abbrev Ct := Int × Int × Int × Int
/-- What is wrong with catch i. -/
def ctf (l : List Ct) (i : Nat) : Int :=
  let x := l.getD i (0, 0, 0, 0)
  if x.1 < 0 ∨ x.1 ≥ x.2.1 ∨ x.2.1 > 60000 ∨ x.2.2.1 < 0 ∨ x.2.2.1 ≥ 60000 ∨ x.2.2.2 < 0 ∨ x.2.2.2 > 5000 then 4 else 0
def chkC (l : List Ct) : Int × Int := if l.length > 60000 then (2, -1) else firstBad (ctf l) l.length
theorem fault_of {f : Nat → Int} {n : Nat} (h : (firstBad f n).1 = 0) : firstBad f n = (0, 0) := by
  rcases first_or (fun i => f i ≠ 0) n with h1 | ⟨j, h1, h2, h3⟩
  · exact firstBad_none (fun i hi => by simpa using h1 i hi)
  · rw [firstBad_some h1 h2 (fun i hi => by simpa using h3 i hi)] at h
    exact absurd h h2
theorem chkC_ne {l : List Ct} (h : chkC l ≠ (0, 0)) : (chkC l).1 ≠ 0 := by
  unfold chkC at h ⊢
  split
  · decide
  · rename_i hl
    rw [if_neg hl] at h
    exact fun h0 => h (fault_of h0)
theorem s39 {n : Nat} (l : List Ct) (hn : 60010 ≤ n) : p39 n l = some (chkC l) := by
  obtain ⟨n, rfl⟩ : ∃ m, n = m + 1 := ⟨n - 1, by omega⟩
  rw [p39, chkC]
  by_cases h0 : l.length > 60000
  · rw [if_pos (by simp; omega), s28 (by omega), if_pos h0]; rfl
  · rw [if_neg (by simp; omega), if_neg h0]
    rw [loop_bad (f := ctf l) (n := l.length) (mkt := fun c i => (c, i)) (by omega) ?_ ?_ ?_]
    · by_cases hf : (firstBad (ctf l) l.length).1 = 0
      · simp only [hf, if_true, Option.bind_some]
        rw [fault_of hf]
      · simp only [hf, if_false, Option.bind_some]
    · intro i hi hf
      have hx := getD_some (0, 0, 0, 0) hi
      unfold ctf at hf
      generalize l.getD i (0, 0, 0, 0) = x at hx hf
      obtain ⟨a, b, c, d⟩ := x
      unfold pb39_1
      rw [if_pos (by simp; omega), rd_nat hx]
      simp only [pj]
      dsimp only at hf ⊢
      split at hf
      · cases hf
      · rename_i g
        rw [wr (x := (i : Int) + 1) (by omega) (by omega)]
        simp [show ¬ a < 0 by omega, show ¬ b ≤ a by omega, show ¬ b > 60000 by omega, show ¬ c < 0 by omega, show ¬ c ≥ 60000 by omega, show ¬ d < 0 by omega, show ¬ d > 5000 by omega]
    · intro i hi hf
      have hx := getD_some (0, 0, 0, 0) hi
      unfold ctf at hf ⊢
      generalize l.getD i (0, 0, 0, 0) = x at hx hf
      obtain ⟨a, b, c, d⟩ := x
      unfold pb39_1
      rw [if_pos (by simp; omega), rd_nat hx]
      simp only [pj, s28 (show 0 < n by omega)]
      dsimp only at hf ⊢
      split at hf
      · rename_i g
        rw [if_pos g]
        by_cases g1 : a < 0
        · simp [g1]
        by_cases g2 : b ≤ a
        · simp [g1, g2]
        by_cases g3 : b > 60000
        · simp [g1, g2, g3]
        by_cases g4 : c < 0
        · simp [g1, g2, g3, g4]
        by_cases g5 : c ≥ 60000
        · simp [g1, g2, g3, g4, g5]
        by_cases g6 : d < 0
        · simp [g1, g2, g3, g4, g5, g6]
        have g7 : d > 5000 := by omega
        simp [g1, g2, g3, g4, g5, g6, g7]
      · exact absurd rfl hf
    · unfold pb39_1
      rw [if_neg (by simp)]
theorem s19 {n : Nat} (l : List Ct) (hn : 60010 ≤ n) : p19 n l = some (chkC l) := by
  obtain ⟨n, rfl⟩ : ∃ m, n = m + 1 := ⟨n - 1, by omega⟩
  rw [p19, chkC]
  by_cases h0 : l.length > 60000
  · rw [if_pos (by simp; omega), s10 (by omega), if_pos h0]; rfl
  · rw [if_neg (by simp; omega), if_neg h0]
    rw [loop_bad (f := ctf l) (n := l.length) (mkt := fun c i => (c, i)) (by omega) ?_ ?_ ?_]
    · by_cases hf : (firstBad (ctf l) l.length).1 = 0
      · simp only [hf, if_true, Option.bind_some]
        rw [fault_of hf]
      · simp only [hf, if_false, Option.bind_some]
    · intro i hi hf
      have hx := getD_some (0, 0, 0, 0) hi
      unfold ctf at hf
      generalize l.getD i (0, 0, 0, 0) = x at hx hf
      obtain ⟨a, b, c, d⟩ := x
      unfold pb19_1
      rw [if_pos (by simp; omega), rd_nat hx]
      simp only [pj, s33 (show 0 < n by omega), Option.bind_some]
      dsimp only at hf ⊢
      split at hf
      · cases hf
      · rename_i g
        have b1 : decide (0 ≤ c ∧ c ≤ 59999) = true := by simp; omega
        have b2 : decide (0 ≤ d ∧ d ≤ 5000) = true := by simp; omega
        rw [wr (x := (i : Int) + 1) (by omega) (by omega), b1, b2]
        simp [show ¬ a < 0 by omega, show ¬ b ≤ a by omega, show ¬ b > 60000 by omega]
    · intro i hi hf
      have hx := getD_some (0, 0, 0, 0) hi
      unfold ctf at hf ⊢
      generalize l.getD i (0, 0, 0, 0) = x at hx hf
      obtain ⟨a, b, c, d⟩ := x
      unfold pb19_1
      rw [if_pos (by simp; omega), rd_nat hx]
      simp only [pj, s10 (show 0 < n by omega), s33 (show 0 < n by omega), Option.bind_some]
      dsimp only at hf ⊢
      split at hf
      · rename_i g
        rw [if_pos g]
        by_cases g1 : a < 0
        · simp [g1]
        by_cases g2 : b ≤ a
        · simp [g1, g2]
        by_cases g3 : b > 60000
        · simp [g1, g2, g3]
        by_cases g4 : 0 ≤ c ∧ c ≤ 59999
        · have b2 : decide (0 ≤ d ∧ d ≤ 5000) = false := by simp; omega
          simp [g1, g2, g3, g4, b2]
        · have b1 : decide (0 ≤ c ∧ c ≤ 59999) = false := by simp; omega
          simp [g1, g2, g3, b1]
      · exact absurd rfl hf
    · unfold pb19_1
      rw [if_neg (by simp)]
theorem chkC_ok {l : List Ct} (h : chkC l = (0, 0)) : l.length ≤ 60000 ∧ ∀ (i : Nat) x, l[i]? = some x → 0 ≤ x.1 ∧ x.1 < x.2.1 ∧ x.2.1 ≤ 60000 ∧ 0 ≤ x.2.2.1 ∧ x.2.2.1 < 60000 ∧ 0 ≤ x.2.2.2 ∧ x.2.2.2 ≤ 5000 := by
  have hlen : l.length ≤ 60000 := by
    refine Nat.le_of_not_lt fun h' => ?_
    unfold chkC at h
    rw [if_pos (by omega)] at h
    cases h
  refine ⟨hlen, fun i x hx => ?_⟩
  unfold chkC at h
  rw [if_neg (by omega)] at h
  have hi := (List.getElem?_eq_some_iff.1 hx).1
  have hf := firstBad_ok (by rw [h]) i hi
  unfold ctf at hf
  rw [List.getD_eq_getElem?_getD, hx] at hf
  simp only [Option.getD_some] at hf
  split at hf
  · cases hf
  · omega
theorem s20 {n : Nat} (a b : List Ct) (hl : a.length + 3 < n) (hb : a.length ≤ 1000000000000) : p20 n a b = some (decide (a = b)) := by
  obtain ⟨n, rfl⟩ : ∃ m, n = m + 1 := ⟨n - 1, by omega⟩
  rw [p20]
  by_cases hlen : a.length = b.length
  · have hloop := eq_loop (body := pb20_1 n a b) a b n hlen (by omega) (fun i x y hx hy => by
      have hi := (List.getElem?_eq_some_iff.1 hx).1
      unfold pb20_1
      rw [if_pos (by simp; omega), rd_nat hx, rd_nat hy, wr (x := (i : Int) + 1) (by omega) (by omega)]
      obtain ⟨x1, x2, x3, x4⟩ := x
      obtain ⟨y1, y2, y3, y4⟩ := y
      by_cases h1 : x1 = y1
      · by_cases h2 : x2 = y2
        · by_cases h3 : x3 = y3
          · by_cases h4 : x4 = y4
            · simp [h1, h2, h3, h4]
            · simp [h1, h2, h3, h4]
          · simp [h1, h2, h3]
        · simp [h1, h2]
      · simp [h1]) (by
      unfold pb20_1
      rw [if_neg (by simp)])
    rw [if_neg (by simp; omega), hloop]
    by_cases h : a = b <;> simp [h]
  · rw [if_pos (by simp; omega)]
    have : a ≠ b := by rintro rfl; exact hlen rfl
    simp [this]
/-- The bytes of catches. -/
def packC : Int → List Ct → List Int
  | _, [] => []
  | a, x :: r => sept 2 (foldI (x.1 - a)) ++ sept 2 (x.2.1 - x.1) ++ sept 2 (foldI (x.2.2.1 - x.2.1)) ++ sept 2 x.2.2.2 ++ packC x.1 r
def packCStep (t : List Int × Int) (x : Ct) : List Int × Int := (t.1 ++ sept 2 (foldI (x.1 - t.2)) ++ sept 2 (x.2.1 - x.1) ++ sept 2 (foldI (x.2.2.1 - x.2.1)) ++ sept 2 x.2.2.2, x.1)
theorem packCStep_fold (l : List Ct) : ∀ b a, (l.foldl packCStep (b, a)).1 = b ++ packC a l := by
  induction l with
  | nil => intro b a; simp [packC]
  | cons p l ih =>
    intro b a
    rw [List.foldl_cons, show packCStep (b, a) p = (b ++ sept 2 (foldI (p.1 - a)) ++ sept 2 (p.2.1 - p.1) ++ sept 2 (foldI (p.2.2.1 - p.2.1)) ++ sept 2 p.2.2.2, p.1) from rfl, ih]
    simp [packC]
theorem packCStep_len (l : List Ct) : ∀ b a, (l.foldl packCStep (b, a)).1.length ≤ b.length + 12 * l.length := by
  induction l with
  | nil => intro b a; simp
  | cons p l ih =>
    intro b a
    rw [List.foldl_cons, show packCStep (b, a) p = (b ++ sept 2 (foldI (p.1 - a)) ++ sept 2 (p.2.1 - p.1) ++ sept 2 (foldI (p.2.2.1 - p.2.1)) ++ sept 2 p.2.2.2, p.1) from rfl]
    have := ih (b ++ sept 2 (foldI (p.1 - a)) ++ sept 2 (p.2.1 - p.1) ++ sept 2 (foldI (p.2.2.1 - p.2.1)) ++ sept 2 p.2.2.2) p.1
    have h1 := sept_length 2 (foldI (p.1 - a))
    have h2 := sept_length 2 (p.2.1 - p.1)
    have h3 := sept_length 2 (foldI (p.2.2.1 - p.2.1))
    have h4 := sept_length 2 p.2.2.2
    simp only [List.length_append, List.length_cons] at this ⊢
    omega
theorem packCStep_last {l : List Ct} (hc : chkC l = (0, 0)) (i : Nat) (hi : i < l.length) (b : List Int) : 0 ≤ ((l.take i).foldl packCStep (b, 0)).2 ∧ ((l.take i).foldl packCStep (b, 0)).2 < 60000 := by
  by_cases h0 : i = 0
  · subst h0; simp
  · obtain ⟨j, rfl⟩ : ∃ j, i = j + 1 := ⟨i - 1, by omega⟩
    have hy := get_of_lt (show j < l.length by omega)
    have g2 := (chkC_ok hc).2 j _ hy
    rw [fold_take hy]
    simp only [packCStep]
    omega
theorem l21_2 (n : Nat) (x : Ct) (r125 r141 : Int) (b : List Int) (hn : 10 ≤ n) (h1 : 0 ≤ r125 ∧ r125 < 2097152) (h2 : 0 ≤ x.2.1 - x.1 ∧ x.2.1 - x.1 < 2097152) (h3 : 0 ≤ r141 ∧ r141 < 2097152) (h4 : 0 ≤ x.2.2.2 ∧ x.2.2.2 < 2097152) (hb : b.length ≤ 1000000000) :
    loopP (pb21_2 n x r125 r141) n (b, 0) = some (b ++ sept 2 r125 ++ sept 2 (x.2.1 - x.1) ++ sept 2 r141 ++ sept 2 x.2.2.2, 4) := by
  have a1 := sept_length 2 r125
  have a2 := sept_length 2 (x.2.1 - x.1)
  have a3 := sept_length 2 r141
  let L := [r125, x.2.1 - x.1, r141, x.2.2.2]
  have hb1 : ∀ (i : Nat) (c : List Int) (y : Int), i < 4 → L[i]? = some y → 0 ≤ y → y < 2097152 → c.length ≤ 2000000000 → pb21_2 n x r125 r141 (c, (i : Int)) = some (.inl (c ++ sept 2 y, ((i + 1 : Nat) : Int))) := by
    intro i c y hi hy hy0 hy1 hcl
    unfold pb21_2
    dsimp only
    rw [wr (x := x.2.1 - x.1) (by omega) (by omega), if_pos (by simp; omega), rd_nat hy, s31 c y hy0 hy1 (by omega) (by omega)]
    simp only [Option.bind_some]
    rw [wr (x := (i : Int) + 1) (by omega) (by omega)]
    rfl
  obtain ⟨n, rfl⟩ : ∃ m, n = m + 5 := ⟨n - 5, by omega⟩
  unfold loopP
  rw [show ((b, (0 : Int)) : List Int × Int) = (b, ((0 : Nat) : Int)) from rfl, hb1 0 b r125 (by omega) rfl h1.1 h1.2 (by omega)]
  dsimp only
  unfold loopP
  rw [hb1 1 _ (x.2.1 - x.1) (by omega) rfl h2.1 h2.2 (by simp; omega)]
  dsimp only
  unfold loopP
  rw [hb1 2 _ r141 (by omega) rfl h3.1 h3.2 (by simp; omega)]
  dsimp only
  unfold loopP
  rw [hb1 3 _ x.2.2.2 (by omega) rfl h4.1 h4.2 (by simp; omega)]
  dsimp only
  unfold loopP
  have : pb21_2 (n + 5) x r125 r141 (b ++ sept 2 r125 ++ sept 2 (x.2.1 - x.1) ++ sept 2 r141 ++ sept 2 x.2.2.2, ((3 + 1 : Nat) : Int)) = some (.inr (b ++ sept 2 r125 ++ sept 2 (x.2.1 - x.1) ++ sept 2 r141 ++ sept 2 x.2.2.2, 4)) := by
    unfold pb21_2
    rw [if_neg (by simp)]
    rfl
  rw [this]
theorem s21 {n : Nat} (l : List Ct) (hn : 60030 ≤ n) : p21 n l = some (if chkC l = (0, 0) then (packC 0 l, (0, 0)) else ([], chkC l)) := by
  obtain ⟨n, rfl⟩ : ∃ m, n = m + 1 := ⟨n - 1, by omega⟩
  rw [p21, s39 l (by omega)]
  simp only [Option.bind_some]
  by_cases h0 : chkC l = (0, 0)
  · obtain ⟨hlen, hok⟩ := chkC_ok h0
    let st : Nat → List Int × Int × Int := fun i => let t := (l.take i).foldl packCStep ([], 0); (t.1, t.2, (i : Int))
    rw [if_pos h0, h0, if_neg (by simp), loop_to st l.length n (st l.length) (by omega) ?_ ?_ (by simp [st])]
    · simp only [Option.bind_some, st, List.take_length, packCStep_fold, List.nil_append]
    · intro i hi
      have hx := get_of_lt hi
      have g := hok i _ hx
      have pl := packCStep_last h0 i hi []
      have ln := packCStep_len (l.take i) [] 0
      have lt := List.length_take_le i l
      have e : st (i + 1) = (let t := packCStep ((l.take i).foldl packCStep ([], 0)) l[i]; (t.1, t.2, ((i + 1 : Nat) : Int))) := by simp only [st]; rw [fold_take hx]
      rw [e]
      simp only [st]
      generalize (l.take i).foldl packCStep ([], 0) = t at pl ln
      generalize l[i] = x at hx g pl
      obtain ⟨b, a⟩ := t
      simp only [List.length_nil] at ln pl
      unfold pb21_1
      rw [if_pos (by simp; omega)]
      dsimp only at pl ln ⊢
      have f1 := foldI_bound (x := x.1 - a) (by omega)
      have f2 := foldI_bound (x := x.2.2.1 - x.2.1) (by omega)
      rw [rd_nat hx, wr (x := x.1 - a) (by omega) (by omega), s32 _ (by omega) (by omega)]
      simp only [Option.bind_some]
      rw [wr (x := x.2.2.1 - x.2.1) (by omega) (by omega), s32 _ (by omega) (by omega)]
      simp only [Option.bind_some]
      rw [l21_2 n x _ _ b (by omega) f1 (by omega) f2 (by omega) (by omega)]
      simp only [Option.bind_some]
      rw [wr (x := (i : Int) + 1) (by omega) (by omega)]
      rfl
    · unfold pb21_1
      simp only [st]
      rw [if_neg (by simp)]
  · rw [if_neg h0, if_pos (ne00 h0)]
end Go.Proofs.YtmjignphadnadaaF
