/- Plain laws of the tables, 8: numbers in groups; catches unpacked. -/
import Derived.Test.YtmjignphadnadaaT7
set_option linter.unusedVariables false
set_option linter.unusedSimpArgs false
namespace Go.Proofs.YtmjignphadnadaaF
open Go Go.Proofs

/-- The reference reads a number: as 'numL' does; else some code that is not 0. -/
theorem l38 (n : Nat) (b : List Int) (hb : byteL b) (hl : b.length ≤ 1000000000000) : ∀ (j m at_ : Nat) (w acc : Int), j ≤ 3 → j < m → 0 < w → w * 128 ^ j ≤ 2097152 → (w = 1 ↔ j = 3) → 0 ≤ acc → acc < w →
    ∃ v c a, loopP (pb38_1 n b) m ((at_ : Int), acc, w, ((3 - j : Nat) : Int)) = some (v, c, a) ∧ ((numL j w acc (b.drop at_)).2.1 = true → c = 0 ∧ v = (numL j w acc (b.drop at_)).1 ∧ a = ((at_ + (numL j w acc (b.drop at_)).2.2 : Nat) : Int)) ∧ ((numL j w acc (b.drop at_)).2.1 = false → c ≠ 0)
  | 0, m, at_, w, acc, h0, h1, h2, h3, h4, h5, h6 => by
    obtain ⟨m, rfl⟩ : ∃ k, m = k + 1 := ⟨m - 1, by omega⟩
    have body : ∃ c, c ≠ 0 ∧ pb38_1 n b ((at_ : Int), acc, w, ((3 - 0 : Nat) : Int)) = some (.inr (0, c, (at_ : Int))) := by
      unfold pb38_1
      by_cases h : at_ < b.length
      · rw [if_neg (by simp; omega), if_pos (by simp)]
        exact ⟨16, by decide, rfl⟩
      · rw [if_pos (by simp; omega)]
        exact ⟨15, by decide, rfl⟩
    obtain ⟨c, hc, hbd⟩ := body
    refine ⟨0, c, (at_ : Int), ?_, by simp [numL], fun _ => hc⟩
    unfold loopP
    rw [hbd]
  | j + 1, m, at_, w, acc, h0, h1, h2, h3, h4, h5, h6 => by
    obtain ⟨m, rfl⟩ : ∃ k, m = k + 1 := ⟨m - 1, by omega⟩
    by_cases hlt : at_ < b.length
    · have hx := get_of_lt hlt
      have hxb := hb _ (List.mem_of_getElem? hx)
      rw [drop_cons hx]
      generalize b[at_] = x at hx hxb
      have e0 : IntKind.wrap .i64 x = x := wr (by omega) (by omega)
      have hp := one_le_pow j
      have hw : w ≤ 16384 := by
        have : w * 128 ≤ w * 128 ^ (j + 1) := Int.mul_le_mul_of_nonneg_left (by rw [Int.pow_succ]; omega) (by omega)
        omega
      have hm0 : 0 ≤ x % 128 * w := Int.mul_nonneg (by omega) (by omega)
      have hm1 : x % 128 * w ≤ 127 * w := Int.mul_le_mul_of_nonneg_right (by omega) (by omega)
      have e1 : x.tmod 128 = x % 128 := Int.tmod_eq_emod_of_nonneg hxb.1
      have e5 : IntKind.wrap .i64 ((at_ : Int) + 1) = ((at_ + 1 : Nat) : Int) := by rw [wr (by omega) (by omega)]; omega
      have e3 : ¬ (((3 - (j + 1) : Nat) : Int) == 3) = true := by simp; omega
      by_cases h128 : x < 128
      · have e6 : x % 128 = x := by omega
        rw [e6] at hm0 hm1
        simp only [numL]
        rw [if_pos h128]
        by_cases hz : x = 0 ∧ 0 < ((3 - (j + 1) : Nat) : Int)
        · have hbody : pb38_1 n b ((at_ : Int), acc, w, ((3 - (j + 1) : Nat) : Int)) = some (.inr (0, 16, ((at_ + 1 : Nat) : Int))) := by
            unfold pb38_1
            rw [if_neg (by simp; omega), if_neg e3, rd_nat hx, e0, remP_ok (by omega), e1]
            simp only [pj]
            rw [e5, if_pos (by simpa using h128)]
            simp [hz.1]
            omega
          refine ⟨0, 16, ((at_ + 1 : Nat) : Int), ?_, ?_, fun _ => by decide⟩
          · unfold loopP
            rw [hbody]
          · intro h
            simp only [decide_eq_true_eq] at h
            have hw1 : w ≠ 1 := by
              intro h7
              have := h4.1 h7
              omega
            omega
        · have hbody : pb38_1 n b ((at_ : Int), acc, w, ((3 - (j + 1) : Nat) : Int)) = some (.inr (acc + x * w, 0, ((at_ + 1 : Nat) : Int))) := by
            unfold pb38_1
            rw [if_neg (by simp; omega), if_neg e3, rd_nat hx, e0, remP_ok (by omega), e1, e6]
            simp only [pj]
            rw [e5, if_pos (by simpa using h128), wr (x := x * w) (by omega) (by omega), wr (x := acc + x * w) (by omega) (by omega)]
            by_cases hx0 : x = 0
            · have : ¬ 0 < ((3 - (j + 1) : Nat) : Int) := fun h => hz ⟨hx0, h⟩
              rw [if_pos (by simpa using hx0), if_neg (by simp; omega)]
            · rw [if_neg (by simpa using hx0), if_neg (by simp)]
          refine ⟨acc + x * w, 0, ((at_ + 1 : Nat) : Int), ?_, fun _ => ⟨rfl, rfl, rfl⟩, ?_⟩
          · unfold loopP
            rw [hbody]
          · intro h
            simp only [decide_eq_false_iff_not] at h
            have : ¬ w = 1 := fun h7 => h (.inr h7)
            have : ¬ j + 1 = 3 := fun h7 => this (h4.2 h7)
            have : ¬ 0 < x := fun h7 => h (.inl h7)
            exact absurd ⟨by omega, by omega⟩ hz
      · have e6 : x % 128 = x - 128 := by omega
        have hw3 : w * 128 * 128 ^ j ≤ 2097152 := by
          have : w * 128 * 128 ^ j = w * 128 ^ (j + 1) := by rw [Int.pow_succ, Int.mul_assoc, Int.mul_comm 128]
          omega
        have hw4 : w * 128 = 1 ↔ j = 3 := by omega
        obtain ⟨v, c, a, g1, g2, g3⟩ := l38 n b hb hl j m (at_ + 1) (w * 128) (acc + x % 128 * w) (by omega) (by omega) (by omega) hw3 hw4 (by omega) (by omega)
        refine ⟨v, c, a, ?_, ?_, ?_⟩
        · unfold loopP
          have hbody : pb38_1 n b ((at_ : Int), acc, w, ((3 - (j + 1) : Nat) : Int)) = some (.inl (((at_ + 1 : Nat) : Int), acc + x % 128 * w, w * 128, ((3 - j : Nat) : Int))) := by
            unfold pb38_1
            rw [if_neg (by simp; omega), if_neg e3, rd_nat hx, e0, remP_ok (by omega), e1]
            simp only [pj]
            rw [e5, if_neg (by simpa using h128), wr (x := x % 128 * w) (by omega) (by omega), wr (x := acc + x % 128 * w) (by omega) (by omega), wr (x := w * 128) (by omega) (by omega), wr (x := ((3 - (j + 1) : Nat) : Int) + 1) (by omega) (by omega)]
            have : ((3 - (j + 1) : Nat) : Int) + 1 = ((3 - j : Nat) : Int) := by omega
            rw [this]
          rw [hbody]
          exact g1
        · rw [e6] at g2
          simp only [numL]
          rw [if_neg h128]
          intro h
          obtain ⟨k1, k2, k3⟩ := g2 h
          exact ⟨k1, k2, by rw [k3]; dsimp only; omega⟩
        · rw [e6] at g3
          simp only [numL]
          rw [if_neg h128]
          exact g3
    · rw [List.drop_eq_nil_of_le (by omega)]
      have hbody : pb38_1 n b ((at_ : Int), acc, w, ((3 - (j + 1) : Nat) : Int)) = some (.inr (0, 15, (at_ : Int))) := by
        unfold pb38_1
        rw [if_pos (by simp; omega)]
      refine ⟨0, 15, (at_ : Int), ?_, by simp [numL], fun _ => by decide⟩
      unfold loopP
      rw [hbody]
theorem s38 {n : Nat} (b : List Int) (at_ : Nat) (hb : byteL b) (hl : b.length ≤ 1000000000000) (hn : 6 ≤ n) :
    ∃ v c a, p38 n b (at_ : Int) = some (v, c, a) ∧ ((numAt b at_).2.1 = true → c = 0 ∧ v = (numAt b at_).1 ∧ a = ((at_ + (numAt b at_).2.2 : Nat) : Int)) ∧ ((numAt b at_).2.1 = false → c ≠ 0) := by
  obtain ⟨n, rfl⟩ : ∃ m, n = m + 1 := ⟨n - 1, by omega⟩
  obtain ⟨v, c, a, g1, g2, g3⟩ := l38 n b hb hl 3 n at_ 1 0 (by omega) (by omega) (by omega) (by decide) (by simp) (by omega) (by omega)
  refine ⟨v, c, a, ?_, g2, g3⟩
  rw [p38]
  rw [show ((3 - 3 : Nat) : Int) = 0 from rfl] at g1
  rw [g1]
  rfl
/-- So many numbers one after the other: the numbers, the place behind them. -/
def grpAt (b : List Int) : Nat → Nat → Option (List Int × Nat)
  | 0, at_ => some ([], at_)
  | c + 1, at_ => if (numAt b at_).2.1 = true then match grpAt b c (at_ + (numAt b at_).2.2) with
    | some (l, e) => some ((numAt b at_).1 :: l, e)
    | none => none
    else none
theorem numAt_le (b : List Int) (at_ : Nat) (h : at_ ≤ b.length) : at_ + (numAt b at_).2.2 ≤ b.length := by
  have c1 := numL_cnt 3 1 0 (b.drop at_)
  rw [List.length_drop] at c1
  have : (numAt b at_).2.2 = (numL 3 1 0 (b.drop at_)).2.2 := rfl
  omega
theorem numAt_ok {b : List Int} {at_ : Nat} (hb : byteL b) (h : at_ ≤ b.length) (hk : (numAt b at_).2.1 = true) : 0 ≤ (numAt b at_).1 ∧ (numAt b at_).1 < 2097152 ∧ 0 < (numAt b at_).2.2 ∧ b.drop at_ = sept 2 (numAt b at_).1 ++ b.drop (at_ + (numAt b at_).2.2) := by
  have e := numAt_dec b at_ h
  rw [if_pos hk] at e
  obtain ⟨v1, v2, v3⟩ := dec_some (fun x hx => hb x (List.mem_of_mem_drop hx)) e
  refine ⟨v1, v2, ?_, v3⟩
  have h1 := congrArg List.length v3
  have h2 := sept_pos 2 (numAt b at_).1
  have h3 := numAt_le b at_ h
  simp at h1
  omega
theorem grpAt_le {b : List Int} : ∀ {c at_ : Nat} {l : List Int} {e : Nat}, at_ ≤ b.length → grpAt b c at_ = some (l, e) → at_ ≤ e ∧ e ≤ b.length ∧ l.length = c
  | 0, at_, l, e, h, hg => by simp [grpAt] at hg; obtain ⟨rfl, rfl⟩ := hg; exact ⟨Nat.le_refl _, h, rfl⟩
  | c + 1, at_, l, e, h, hg => by
    simp only [grpAt] at hg
    split at hg
    · split at hg
      · rename_i l' e' h'
        simp at hg
        obtain ⟨rfl, rfl⟩ := hg
        have := grpAt_le (numAt_le b at_ h) h'
        simp
        omega
      · cases hg
    · cases hg
theorem grpAt_pos {b : List Int} (hb : byteL b) {c at_ : Nat} {l : List Int} {e : Nat} (h : at_ ≤ b.length) (hg : grpAt b (c + 1) at_ = some (l, e)) : at_ < e := by
  simp only [grpAt] at hg
  split at hg
  · rename_i hk
    split at hg
    · rename_i l' e' h'
      simp at hg
      obtain ⟨rfl, rfl⟩ := hg
      have h1 := grpAt_le (numAt_le b at_ h) h'
      have h2 := numAt_ok hb h hk
      omega
    · cases hg
  · cases hg
theorem grpAt_bound {b : List Int} (hb : byteL b) : ∀ {c at_ : Nat} {l : List Int} {e : Nat}, at_ ≤ b.length → grpAt b c at_ = some (l, e) → ∀ x ∈ l, 0 ≤ x ∧ x < 2097152
  | 0, at_, l, e, h, hg, x, hx => by simp [grpAt] at hg; obtain ⟨rfl, rfl⟩ := hg; cases hx
  | c + 1, at_, l, e, h, hg, x, hx => by
    simp only [grpAt] at hg
    split at hg
    · rename_i hk
      split at hg
      · rename_i l' e' h'
        simp at hg
        obtain ⟨rfl, rfl⟩ := hg
        rcases List.mem_cons.1 hx with rfl | hx
        · have h2 := numAt_ok hb h hk
          exact ⟨h2.1, h2.2.1⟩
        · exact grpAt_bound hb (numAt_le b at_ h) h' x hx
      · cases hg
    · cases hg
/-- Groups of c numbers; where the first begins that is damaged. -/
def groupsF (b : List Int) (c : Nat) : Nat → Nat → List (List Int) ⊕ Nat
  | 0, _ => .inl []
  | f + 1, at_ => if at_ = b.length then .inl [] else match grpAt b c at_ with
    | none => .inr at_
    | some (l, e) => match groupsF b c f e with
      | .inl gs => .inl (l :: gs)
      | .inr x => .inr x
theorem l16_2 (n : Nat) (b : List Int) (hb : byteL b) (hl : b.length ≤ 1000000000000) (hn : 10 ≤ n) (C : Nat) (hC : C ≤ 4) : ∀ (d m at_ : Nat) (acc : List Int), d ≤ C → acc.length = C - d → d < m → at_ ≤ b.length →
    ∃ t, loopP (pb16_2 n b (C : Int)) m ((at_ : Int), acc, ((C - d : Nat) : Int)) = some t ∧ match grpAt b d at_ with
      | some (l, e) => t = .inl ((e : Int), acc ++ l, (C : Int))
      | none => t = .inr ()
  | 0, m, at_, acc, h1, h2, h3, h4 => by
    obtain ⟨m, rfl⟩ : ∃ k, m = k + 1 := ⟨m - 1, by omega⟩
    refine ⟨.inl ((at_ : Int), acc, (C : Int)), ?_, by simp [grpAt]⟩
    unfold loopP pb16_2
    rw [if_neg (by simp)]
    simp
  | d + 1, m, at_, acc, h1, h2, h3, h4 => by
    obtain ⟨m, rfl⟩ : ∃ k, m = k + 1 := ⟨m - 1, by omega⟩
    obtain ⟨v, c, a, g1, g2, g3⟩ := s38 (n := n) b at_ hb hl (by omega)
    simp only [grpAt]
    by_cases hk : (numAt b at_).2.1 = true
    · obtain ⟨rfl, rfl, rfl⟩ := g2 hk
      rw [if_pos hk]
      have hbody : pb16_2 n b (C : Int) ((at_ : Int), acc, ((C - (d + 1) : Nat) : Int)) = some (.inl (((at_ + (numAt b at_).2.2 : Nat) : Int), acc ++ [(numAt b at_).1], ((C - d : Nat) : Int))) := by
        unfold pb16_2
        rw [if_pos (by simp; omega)]
        dsimp only
        rw [g1]
        simp only [Option.bind_some]
        rw [if_neg (by decide), apP_ok (by simp; omega), wr (by omega) (by omega)]
        have : ((C - (d + 1) : Nat) : Int) + 1 = ((C - d : Nat) : Int) := by omega
        rw [this]
      obtain ⟨t, t1, t2⟩ := l16_2 n b hb hl hn C hC d m (at_ + (numAt b at_).2.2) (acc ++ [(numAt b at_).1]) (by omega) (by simp; omega) (by omega) (numAt_le b at_ h4)
      refine ⟨t, ?_, ?_⟩
      · unfold loopP
        rw [hbody]
        exact t1
      · revert t2
        cases grpAt b d (at_ + (numAt b at_).2.2) with
        | none => exact id
        | some q =>
          obtain ⟨l, e⟩ := q
          intro h
          rw [h]
          simp
    · rw [if_neg hk]
      have hc := g3 (by simpa using hk)
      refine ⟨.inr (), ?_, rfl⟩
      unfold loopP
      have hbody : pb16_2 n b (C : Int) ((at_ : Int), acc, ((C - (d + 1) : Nat) : Int)) = some (.inr (.inr ())) := by
        unfold pb16_2
        rw [if_pos (by simp; omega)]
        dsimp only
        rw [g1]
        simp only [Option.bind_some]
        rw [if_pos (by simpa using hc)]
      rw [hbody]
theorem l16 (n : Nat) (b : List Int) (hb : byteL b) (hl : b.length ≤ 1000000000) (hn : 10 ≤ n) (C : Nat) (hC : C + 1 ≤ 4) : ∀ (f m at_ : Nat) (acc : List (List Int)), b.length - at_ ≤ f → f < m → at_ ≤ b.length → acc.length ≤ at_ →
    ∃ t, loopP (pb16_1 n b ((C + 1 : Nat) : Int)) m (acc, (at_ : Int)) = some t ∧ match groupsF b (C + 1) f at_ with
      | .inl gs => ∃ u, t = .inl u ∧ u.1 = acc ++ gs
      | .inr e => t = .inr (e : Int)
  | 0, m, at_, acc, h1, h2, h3, h4 => by
    obtain ⟨m, rfl⟩ : ∃ k, m = k + 1 := ⟨m - 1, by omega⟩
    refine ⟨.inl (acc, (at_ : Int)), ?_, by simp [groupsF]⟩
    unfold loopP pb16_1
    rw [if_neg (by simp; omega)]
  | f + 1, m, at_, acc, h1, h2, h3, h4 => by
    obtain ⟨m, rfl⟩ : ∃ k, m = k + 1 := ⟨m - 1, by omega⟩
    simp only [groupsF]
    by_cases hat : at_ = b.length
    · rw [if_pos hat]
      refine ⟨.inl (acc, (at_ : Int)), ?_, by simp⟩
      unfold loopP pb16_1
      rw [if_neg (by simp; omega)]
    · rw [if_neg hat]
      obtain ⟨t2, q1, q2⟩ := l16_2 n b hb (by omega) hn (C + 1) hC (C + 1) n at_ [] (Nat.le_refl _) (by simp) (by omega) h3
      rw [Nat.sub_self, show ((0 : Nat) : Int) = 0 from rfl] at q1
      cases hg : grpAt b (C + 1) at_ with
      | none =>
        rw [hg] at q2
        subst q2
        refine ⟨.inr (at_ : Int), ?_, rfl⟩
        unfold loopP
        have hbody : pb16_1 n b ((C + 1 : Nat) : Int) (acc, (at_ : Int)) = some (.inr (.inr (at_ : Int))) := by
          unfold pb16_1
          rw [if_pos (by simp; omega)]
          dsimp only
          rw [q1]
          rfl
        rw [hbody]
      | some q =>
        obtain ⟨l, e⟩ := q
        rw [hg] at q2
        subst q2
        have hle := grpAt_le h3 hg
        have hpos := grpAt_pos hb h3 hg
        have hbody : pb16_1 n b ((C + 1 : Nat) : Int) (acc, (at_ : Int)) = some (.inl (acc ++ [l], (e : Int))) := by
          unfold pb16_1
          rw [if_pos (by simp; omega)]
          dsimp only
          rw [q1]
          simp only [Option.bind_some, List.nil_append]
          rw [apP_ok (by simp; omega)]
        obtain ⟨t, t1, t2⟩ := l16 n b hb hl hn C hC f m e (acc ++ [l]) (by omega) (by omega) (by omega) (by simp; omega)
        refine ⟨t, ?_, ?_⟩
        · unfold loopP
          rw [hbody]
          exact t1
        · dsimp only
          revert t2
          cases groupsF b (C + 1) f e with
          | inl gs =>
            rintro ⟨u, hu1, hu2⟩
            exact ⟨u, hu1, by rw [hu2]; simp⟩
          | inr x => exact id
theorem s16 {n : Nat} (b : List Int) (C : Nat) (hC : C + 1 ≤ 4) (hb : byteL b) (hl : b.length ≤ 1000000000) (hn : b.length + 20 ≤ n) : p16 n b ((C + 1 : Nat) : Int) = some (match groupsF b (C + 1) b.length 0 with | .inl gs => (gs, -1) | .inr e => ([], (e : Int))) := by
  obtain ⟨n, rfl⟩ : ∃ m, n = m + 1 := ⟨n - 1, by omega⟩
  obtain ⟨t, t1, t2⟩ := l16 n b hb hl (by omega) C hC b.length n 0 [] (by omega) (by omega) (by omega) (by simp)
  rw [show ((0 : Nat) : Int) = 0 from rfl] at t1
  rw [p16, t1]
  revert t2
  cases groupsF b (C + 1) b.length 0 with
  | inl gs =>
    rintro ⟨u, rfl, hu⟩
    simp only [Option.bind_some]
    rw [hu, List.nil_append]
  | inr e =>
    rintro rfl
    rfl
/-- Pairs are groups of two. -/
theorem pairs_groups (b : List Int) : ∀ (f at_ : Nat), at_ ≤ b.length → groupsF b 2 f at_ = match pairsF f (b.drop at_) at_ with | .inl ps => .inl (ps.map fun p => [p.1, p.2]) | .inr e => .inr e
  | 0, at_, h => by simp [groupsF, pairsF]
  | f + 1, at_, h => by
    simp only [groupsF, pairsF]
    by_cases hat : at_ = b.length
    · rw [if_pos hat, if_pos (by simp; omega)]
      rfl
    · rw [if_neg hat, if_neg (by simp; omega), numAt_dec b at_ h]
      by_cases k1 : (numAt b at_).2.1 = true
      · have h1 := numAt_le b at_ h
        rw [if_pos k1]
        dsimp only
        rw [numAt_dec b _ h1]
        by_cases k2 : (numAt b (at_ + (numAt b at_).2.2)).2.1 = true
        · have h2 := numAt_le b _ h1
          rw [if_pos k2]
          simp only [grpAt]
          rw [if_pos k1, if_pos k2]
          dsimp only
          rw [pairs_groups b f _ h2]
          have eoff : at_ + ((b.drop at_).length - (b.drop (at_ + (numAt b at_).2.2 + (numAt b (at_ + (numAt b at_).2.2)).2.2)).length) = at_ + (numAt b at_).2.2 + (numAt b (at_ + (numAt b at_).2.2)).2.2 := by simp; omega
          rw [eoff]
          cases pairsF f (b.drop (at_ + (numAt b at_).2.2 + (numAt b (at_ + (numAt b at_).2.2)).2.2)) (at_ + (numAt b at_).2.2 + (numAt b (at_ + (numAt b at_).2.2)).2.2) <;> rfl
        · rw [if_neg k2]
          simp only [grpAt]
          rw [if_pos k1, if_neg k2]
      · rw [if_neg k1]
        simp only [grpAt]
        rw [if_neg k1]
end Go.Proofs.YtmjignphadnadaaF
