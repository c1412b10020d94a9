/- Plain laws of the tables, 4: reading numbers; equal lists. -/
import Derived.Test.YtmjignphadnadaaT3
set_option linter.unusedVariables false
set_option linter.unusedSimpArgs false
namespace Go.Proofs.YtmjignphadnadaaF
open Go Go.Proofs

/-- A number is read: its value, whether it is written as it should, how many bytes were read. j: how many bytes it may have; w: the weight of the next. -/
def numL : Nat → Int → Int → List Int → Int × Bool × Nat
  | 0, _, _, _ => (0, false, 0)
  | _ + 1, _, _, [] => (0, false, 0)
  | j + 1, w, acc, x :: l => if x < 128 then (acc + x * w, decide (0 < x ∨ w = 1), 1) else
      let r := numL j (w * 128) (acc + (x - 128) * w) l
      (r.1, r.2.1, r.2.2 + 1)
def byteL (l : List Int) : Prop := ∀ x ∈ l, 0 ≤ x ∧ x < 256
theorem one_le_pow (f : Nat) : (1 : Int) ≤ 128 ^ f := Int.pow_pos (by omega)
theorem numL_sept : ∀ (f : Nat) (w acc x : Int) (rest : List Int), 0 < w → 0 ≤ x → x < 128 * 128 ^ f → numL (f + 1) w acc (sept f x ++ rest) = (acc + x * w, decide (0 < x ∨ w = 1), (sept f x).length)
  | 0, w, acc, x, rest, hw, h0, h1 => by
    simp only [sept, List.cons_append, List.nil_append, numL]
    rw [if_pos (by omega)]
    rfl
  | f + 1, w, acc, x, rest, hw, h0, h1 => by
    unfold sept
    by_cases hx : x < 128
    · simp [hx, numL]
    · simp only [hx, if_false, List.cons_append, numL]
      rw [if_neg (by omega)]
      have ih := numL_sept f (w * 128) (acc + (x % 128 + 128 - 128) * w) (x / 128) rest (by omega) (by omega) (by rw [Int.pow_succ] at h1; omega)
      rw [ih]
      have e1 : acc + (x % 128 + 128 - 128) * w + x / 128 * (w * 128) = acc + x * w := by
        have : x = x % 128 + 128 * (x / 128) := by omega
        have e : x * w = (x % 128) * w + 128 * (x / 128) * w := by rw [← Int.add_mul, ← this]
        rw [e, show x % 128 + 128 - 128 = x % 128 by omega, Int.add_assoc]
        congr 2
        rw [Int.mul_comm w 128, ← Int.mul_assoc, Int.mul_comm (x / 128) 128]
      have e2 : (decide (0 < x / 128 ∨ w * 128 = 1)) = decide (0 < x ∨ w = 1) := by
        have a : 0 < x / 128 := by omega
        have b : 0 < x := by omega
        simp [a, b]
      rw [e1, e2]
      rfl
/-- What was read well was written so. -/
theorem numL_ok : ∀ (f : Nat) (w acc : Int) (l : List Int) (v : Int) (c : Nat), 0 < w → byteL l → numL (f + 1) w acc l = (v, true, c) →
    ∃ y rest, 0 ≤ y ∧ y < 128 * 128 ^ f ∧ v = acc + y * w ∧ c = (sept f y).length ∧ l = sept f y ++ rest ∧ (0 < y ∨ w = 1)
  | f, w, acc, [], v, c, hw, hb, h => by simp [numL] at h
  | f, w, acc, x :: l, v, c, hw, hb, h => by
    have hx := hb x (by simp)
    simp only [numL] at h
    split at h
    · rename_i h1
      simp only [Prod.mk.injEq, decide_eq_true_eq] at h
      obtain ⟨rfl, h2, rfl⟩ := h
      refine ⟨x, l, hx.1, ?_, rfl, ?_, ?_, h2⟩
      · have : (1 : Int) ≤ 128 ^ f := one_le_pow f
        omega
      · cases f <;> simp [sept, h1]
      · cases f <;> simp [sept, h1]
    · rename_i h1
      simp only [Prod.mk.injEq] at h
      obtain ⟨h2, h3, h4⟩ := h
      cases f with
      | zero => simp [numL] at h3
      | succ f =>
        obtain ⟨y, rest, a1, a2, a3, a4, a5, a6⟩ := numL_ok f (w * 128) (acc + (x - 128) * w) l (numL (f + 1) (w * 128) (acc + (x - 128) * w) l).1 (numL (f + 1) (w * 128) (acc + (x - 128) * w) l).2.2 (by omega) (fun z hz => hb z (by simp [hz])) (by rw [← h3])
        have hy : 0 < y := by omega
        refine ⟨(x - 128) + 128 * y, rest, by omega, by rw [Int.pow_succ]; omega, ?_, ?_, ?_, .inl (by omega)⟩
        · rw [← h2, a3, Int.add_mul, Int.add_assoc]
          congr 2
          rw [Int.mul_comm w 128, ← Int.mul_assoc, Int.mul_comm y 128]
        · rw [← h4, a4]
          simp only [sept]
          rw [if_neg (by omega), show (x - 128 + 128 * y) / 128 = y by omega]
          rfl
        · simp only [sept]
          rw [if_neg (by omega), show (x - 128 + 128 * y) / 128 = y by omega, show (x - 128 + 128 * y) % 128 + 128 = x by omega, a5]
          rfl
theorem numL_cnt : ∀ (f : Nat) (w acc : Int) (l : List Int), (numL f w acc l).2.2 ≤ f ∧ (numL f w acc l).2.2 ≤ l.length
  | 0, w, acc, l => by simp [numL]
  | f + 1, w, acc, [] => by simp [numL]
  | f + 1, w, acc, x :: l => by
    simp only [numL]
    split
    · simp
    · have ih := numL_cnt f (w * 128) (acc + (x - 128) * w) l
      simp
      omega
theorem drop_cons {α : Type} {l : List α} {i : Nat} {x : α} (h : l[i]? = some x) : l.drop i = x :: l.drop (i + 1) := by
  have hi := (List.getElem?_eq_some_iff.1 h)
  obtain ⟨h1, h2⟩ := hi
  rw [List.drop_eq_getElem_cons h1, h2]
theorem l36 (n : Nat) (b : List Int) (a0 : Int) (hb : byteL b) (hl : b.length ≤ 1000000000000) : ∀ (j m at_ s : Nat) (acc : Int), s + 7 * j = 21 → 0 ≤ acc → acc < 2 ^ s → j < m →
    ∃ t, loopP (pb36_1 n (b, a0)) m ((at_ : Int), acc, (s : Int)) = some t ∧ (match t with | .inl u => ((0 : Int), false, u.1) | .inr u => u) = ((numL j (2 ^ s) acc (b.drop at_)).1, (numL j (2 ^ s) acc (b.drop at_)).2.1, ((at_ + (numL j (2 ^ s) acc (b.drop at_)).2.2 : Nat) : Int))
  | 0, m, at_, s, acc, h1, h2, h3, hm => by
    obtain ⟨m, rfl⟩ : ∃ k, m = k + 1 := ⟨m - 1, by omega⟩
    refine ⟨.inl ((at_ : Int), acc, (s : Int)), ?_, by simp only [numL]; rfl⟩
    unfold loopP pb36_1
    rw [if_neg (show ¬ decide ((s : Int) ≤ 14) = true by rw [decide_eq_true_eq]; omega)]
  | j + 1, m, at_, s, acc, h1, h2, h3, hm => by
    obtain ⟨m, rfl⟩ : ∃ k, m = k + 1 := ⟨m - 1, by omega⟩
    by_cases hlt : at_ < b.length
    · have hx := get_of_lt hlt
      have hxb := hb _ (List.mem_of_getElem? hx)
      rw [drop_cons hx]
      generalize b[at_] = x at hx hxb
      have hs : s ≤ 14 := by omega
      have hp : (2 : Int) ^ s ≤ 16384 := by
        have h1 : (2 : Nat) ^ s ≤ 16384 := Nat.le_trans (Nat.pow_le_pow_right (by omega) hs) (by decide : 2 ^ 14 ≤ 16384)
        have h2 : ((2 ^ s : Nat) : Int) ≤ ((16384 : Nat) : Int) := Int.ofNat_le.2 h1
        rw [Int.natCast_pow] at h2
        exact h2
      have hp0 : (0 : Int) < 2 ^ s := Int.pow_pos (by omega)
      have e0 : IntKind.wrap .i64 x = x := wr (by omega) (by omega)
      have e1 : ((BitVec.ofInt (IntKind.bits .i64) x &&& BitVec.ofInt (IntKind.bits .i64) 127).toNat : Int) = x % 128 := and127 x (by omega) (by omega)
      have hm2 : x % 128 * 2 ^ s ≤ 127 * 16384 := Int.mul_le_mul (by omega) hp (by omega) (by omega)
      have hm0 : 0 ≤ x % 128 * 2 ^ s := Int.mul_nonneg (by omega) (by omega)
      have e2 : ∀ {ρ : Type} (K : Int → Option ρ), shlP .i64 (x % 128) (s : Int) K = K (x % 128 * 2 ^ s) := by
        intro ρ K
        unfold shlP
        rw [if_neg (by omega)]
        have : min (s : Int).toNat (IntKind.bits .i64) = s := by show min (s : Int).toNat 64 = s; omega
        rw [this, wr (by omega) (by omega)]
      have e3 : ((BitVec.ofInt (IntKind.bits .i64) acc ||| BitVec.ofInt (IntKind.bits .i64) (x % 128 * 2 ^ s)).toNat : Int) = acc + x % 128 * 2 ^ s := or_add acc (x % 128) s h2 h3 (by omega) (by omega)
      have e4 : IntKind.wrap .i64 (acc + x % 128 * 2 ^ s) = acc + x % 128 * 2 ^ s := wr (by omega) (by omega)
      have e5 : IntKind.wrap .i64 ((at_ : Int) + 1) = ((at_ + 1 : Nat) : Int) := by rw [wr (by omega) (by omega)]; omega
      by_cases h128 : x < 128
      · have e6 : x % 128 = x := by omega
        refine ⟨.inr (acc + x * 2 ^ s, decide (0 < x ∨ (s : Int) = 0), ((at_ + 1 : Nat) : Int)), ?_, ?_⟩
        · unfold loopP
          have : pb36_1 n (b, a0) ((at_ : Int), acc, (s : Int)) = some (.inr (.inr (acc + x * 2 ^ s, decide (0 < x ∨ (s : Int) = 0), ((at_ + 1 : Nat) : Int)))) := by
            unfold pb36_1
            rw [if_pos (by simp; omega)]
            dsimp only
            rw [if_neg (by simp; omega), rd_nat hx, e0, e1, wr (x := x % 128) (by omega) (by omega), e2, e3, e4, e5, if_pos (by simpa using h128)]
            simp only [pj]
            rw [e6]
            by_cases hx0 : 0 < x
            · rw [if_pos (by simpa using hx0)]
              simp [hx0]
            · rw [if_neg (by simpa using hx0)]
              have : ((s : Int) == 0) = decide (0 < x ∨ (s : Int) = 0) := by rw [Bool.eq_iff_iff]; simp [hx0]
              rw [this]
          rw [this]
        · simp only [numL]
          rw [if_pos h128]
          have : decide (0 < x ∨ (s : Int) = 0) = decide (0 < x ∨ (2 : Int) ^ s = 1) := by
            by_cases hs0 : s = 0
            · subst hs0; simp
            · have h4 : (2 : Int) ^ 1 ≤ 2 ^ s := by
                have : (2 : Nat) ^ 1 ≤ 2 ^ s := Nat.pow_le_pow_right (by omega) (by omega)
                exact_mod_cast this
              have h5 : ¬ (2 : Int) ^ s = 1 := by omega
              simp [hs0, h5]
          rw [this]
      · have e6 : x % 128 = x - 128 := by omega
        have hlt2 : acc + x % 128 * 2 ^ s < 2 ^ (s + 7) := by
          have : (2 : Int) ^ (s + 7) = 2 ^ s * 128 := by rw [Int.pow_add]; rfl
          rw [this]
          have h6 : x % 128 * 2 ^ s ≤ 127 * 2 ^ s := Int.mul_le_mul_of_nonneg_right (by omega) (by omega)
          omega
        obtain ⟨t, g1, g2⟩ := l36 n b a0 hb hl j m (at_ + 1) (s + 7) (acc + x % 128 * 2 ^ s) (by omega) (by omega) hlt2 (by omega)
        refine ⟨t, ?_, ?_⟩
        · unfold loopP
          have : pb36_1 n (b, a0) ((at_ : Int), acc, (s : Int)) = some (.inl (((at_ + 1 : Nat) : Int), acc + x % 128 * 2 ^ s, ((s + 7 : Nat) : Int))) := by
            unfold pb36_1
            rw [if_pos (by simp; omega)]
            dsimp only
            rw [if_neg (by simp; omega), rd_nat hx, e0, e1, wr (x := x % 128) (by omega) (by omega), e2, e3, e4, e5, if_neg (by simpa using h128), wr (x := (s : Int) + 7) (by omega) (by omega)]
            rfl
          rw [this]
          exact g1
        · rw [g2]
          simp only [numL]
          rw [if_neg h128]
          have e7 : (2 : Int) ^ (s + 7) = 2 ^ s * 128 := by rw [Int.pow_add]; rfl
          rw [e7, e6]
          simp
          omega
    · refine ⟨.inr (0, false, (at_ : Int)), ?_, ?_⟩
      · unfold loopP pb36_1
        rw [if_pos (by simp; omega)]
        dsimp only
        rw [if_pos (by simp; omega)]
      · rw [List.drop_eq_nil_of_le (by omega)]
        simp [numL]
/-- A number read at a place. -/
def numAt (b : List Int) (at_ : Nat) : Int × Bool × Nat := numL 3 1 0 (b.drop at_)
theorem s36 {n : Nat} (b : List Int) (at_ : Nat) (hb : byteL b) (hl : b.length ≤ 1000000000000) (hn : 6 ≤ n) : p36 n (b, (at_ : Int)) = some ((numAt b at_).1, (numAt b at_).2.1, (b, ((at_ + (numAt b at_).2.2 : Nat) : Int))) := by
  obtain ⟨n, rfl⟩ : ∃ m, n = m + 1 := ⟨n - 1, by omega⟩
  obtain ⟨t, g1, g2⟩ := l36 n b (at_ : Int) hb hl 3 n at_ 0 0 (by omega) (by omega) (by decide) (by omega)
  rw [p36]
  dsimp only
  rw [show ((0 : Nat) : Int) = 0 from rfl] at g1
  rw [g1]
  unfold numAt
  rw [show (2 : Int) ^ 0 = 1 from rfl] at g2
  cases t with
  | inl u =>
    simp only [Prod.mk.injEq] at g2
    simp only [Option.bind_some]
    rw [← g2.1, ← g2.2.1, ← g2.2.2]
  | inr u =>
    obtain ⟨u1, u2, u3⟩ := u
    simp only [Prod.mk.injEq] at g2
    simp only [Option.bind_some]
    rw [← g2.1, ← g2.2.1, ← g2.2.2]
/-- Equal lists. -/
theorem s12 {n : Nat} (a b : List Int) (hl : a.length + 3 < n) (hb : a.length ≤ 1000000000000) : p12 n a b = some (decide (a = b)) := by
  obtain ⟨n, rfl⟩ : ∃ m, n = m + 1 := ⟨n - 1, by omega⟩
  rw [p12]
  by_cases hlen : a.length = b.length
  · rw [if_neg (by simp; omega)]
    have body : ∀ (i : Nat) x y, a[i]? = some x → b[i]? = some y → pb12_1 n a b (i : Int) = some (if x = y then .inl ((i + 1 : Nat) : Int) else .inr (.inr ())) := by
      intro i x y hx hy
      have hi := (List.getElem?_eq_some_iff.1 hx).1
      unfold pb12_1
      rw [if_pos (by simp; omega), rd_nat hx, rd_nat hy, wr (x := (i : Int) + 1) (by omega) (by omega)]
      by_cases h : x = y
      · subst h; simp
      · simp [h]
    rcases first_or (fun i => a[i]? ≠ b[i]?) a.length with h1 | ⟨j, h1, h2, h3⟩
    · have heq : a = b := by
        refine List.ext_getElem? fun i => ?_
        by_cases hi : i < a.length
        · simpa using h1 i hi
        · rw [List.getElem?_eq_none (by omega), List.getElem?_eq_none (by omega)]
      have hloop := loop_to (body := pb12_1 n a b) (s0 := 0) (fun i => (i : Int)) a.length n (Sum.inl (a.length : Int)) (by omega) (fun i hi => by
        have hx := get_of_lt hi
        rw [body i _ _ hx (by rw [← heq]; exact hx)]
        simp) (by
        unfold pb12_1
        rw [if_neg (by simp)]) rfl
      rw [hloop]
      simp [heq]
    · have hx := get_of_lt h1
      have hy := get_of_lt (show j < b.length by omega)
      have hne : a[j] ≠ b[j]'(by omega) := by
        intro e
        rw [hx, hy, e] at h2
        exact h2 rfl
      have hloop := loop_to (body := pb12_1 n a b) (s0 := 0) (fun i => (i : Int)) j n (Sum.inr ()) (by omega) (fun i hi => by
        have hx' := get_of_lt (show i < a.length by omega)
        have := h3 i hi
        simp only [ne_eq, Decidable.not_not] at this
        rw [body i _ _ hx' (by rw [← this]; exact hx')]
        simp) (by
        rw [body j _ _ hx hy, if_neg hne]) rfl
      rw [hloop]
      have : a ≠ b := by rintro rfl; exact h2 rfl
      simp [this]
  · rw [if_pos (by simp; omega)]
    have : a ≠ b := by rintro rfl; exact hlen rfl
    simp [this]
end Go.Proofs.YtmjignphadnadaaF
