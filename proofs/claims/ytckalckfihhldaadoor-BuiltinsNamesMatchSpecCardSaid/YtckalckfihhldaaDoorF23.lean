/- The abstract heap machine, part 23: lemmas on plain functions. -/
import Derived.Test.YtckalckfihhldaaDoorF22b
import Derived.IntWalk
set_option linter.unusedVariables false
set_option linter.unusedSimpArgs false
namespace Go.Proofs.YtckalckfihhldaaDoorF
open Go

theorem wr {x : Int} (h0 : -9223372036854775808 ≤ x) (h1 : x ≤ 9223372036854775807) : IntKind.wrap .i64 x = x := IntWalk.i64_in x ⟨h0, h1⟩
theorem wr8 {x : Int} (h0 : 0 ≤ x) (h1 : x < 256) : IntKind.wrap .u8 x = x := by rw [IntKind.wrap_u8]; omega
theorem loop_from {σ τ : Type} {body : σ → Option (σ ⊕ τ)} (st : Nat → σ) (b : Nat) (t : τ) (hend : body (st b) = some (.inr t)) :
    ∀ (d a n : Nat), a + d = b → d < n → (∀ i, a ≤ i → i < b → body (st i) = some (.inl (st (i + 1)))) → loopP body n (st a) = some t
  | 0, a, n, h1, h2, h3 => by
    obtain ⟨n, rfl⟩ : ∃ m, n = m + 1 := ⟨n - 1, by omega⟩
    have : a = b := by omega
    subst this
    unfold loopP
    rw [hend]
  | d + 1, a, n, h1, h2, h3 => by
    obtain ⟨n, rfl⟩ : ∃ m, n = m + 1 := ⟨n - 1, by omega⟩
    unfold loopP
    rw [h3 a (by omega) (by omega)]
    exact loop_from st b t hend d (a + 1) n (by omega) (by omega) fun i k1 k2 => h3 i (by omega) k2
/-- A loop from 0 on. -/
theorem loop_to {σ τ : Type} {body : σ → Option (σ ⊕ τ)} (st : Nat → σ) (b n : Nat) (t : τ) (hn : b < n) (hs : ∀ i, i < b → body (st i) = some (.inl (st (i + 1)))) (hend : body (st b) = some (.inr t)) {s0 : σ} (h0 : s0 = st 0) : loopP body n s0 = some t := by
  rw [h0]
  exact loop_from st b t hend b 0 n (by omega) hn fun i _ h => hs i h
section
variable {ρ α : Type}
theorem rd_nat {xs : List α} {i : Nat} {x : α} {K : α → Option ρ} (h : xs[i]? = some x) : rd xs (i : Int) K = K x := by
  unfold rd
  rw [if_pos (by omega), Int.toNat_natCast, h]
theorem rd_int {xs : List α} {i : Int} {x : α} {K : α → Option ρ} (h0 : 0 ≤ i) (h : xs[i.toNat]? = some x) : rd xs i K = K x := by
  unfold rd
  rw [if_pos h0, h]
theorem apP_ok {bytes : Nat} {xs ys : List α} {K : List α → Option ρ} (h : (xs.length + ys.length) * bytes ≤ 140737488355328) : apP bytes xs ys K = K (xs ++ ys) := by
  unfold apP
  rw [if_pos h]
theorem remP_ok {k : IntKind} {a b : Int} {K : Int → Option ρ} (h : b ≠ 0) : remP k a b K = K (a.tmod b) := by unfold remP; rw [if_neg h]
theorem divP_ok {k : IntKind} {a b : Int} {K : Int → Option ρ} (h : b ≠ 0) : divP k a b K = K (k.wrap (a.tdiv b)) := by unfold divP; rw [if_neg h]
end
theorem first_or (P : Nat → Prop) [DecidablePred P] : ∀ n, (∀ i, i < n → ¬ P i) ∨ ∃ j, j < n ∧ P j ∧ ∀ i, i < j → ¬ P i
  | 0 => .inl fun i h => by omega
  | n + 1 => by
    rcases first_or P n with h | ⟨j, h1, h2, h3⟩
    · by_cases hp : P n
      · exact .inr ⟨n, by omega, hp, h⟩
      · exact .inl fun i hi => by
          by_cases e : i = n
          · subst e; exact hp
          · exact h i (by omega)
    · exact .inr ⟨j, by omega, h2, h3⟩
/-- The first index below n at which f is not 0, with its number. -/
def firstBad (f : Nat → Int) (n : Nat) : Int × Int := match (List.range n).find? (fun i => f i != 0) with
  | some j => (f j, j)
  | none => (0, 0)
theorem firstBad_none {f : Nat → Int} {n : Nat} (h : ∀ i, i < n → f i = 0) : firstBad f n = (0, 0) := by
  unfold firstBad
  have : (List.range n).find? (fun i => f i != 0) = none := by
    rw [List.find?_eq_none]
    intro i hi
    simp [h i (by simpa using hi)]
  rw [this]
theorem firstBad_some {f : Nat → Int} {n j : Nat} (hj : j < n) (h0 : f j ≠ 0) (h : ∀ i, i < j → f i = 0) : firstBad f n = (f j, (j : Int)) := by
  unfold firstBad
  have : (List.range n).find? (fun i => f i != 0) = some j := by
    rw [List.find?_range_eq_some]
    refine ⟨by simpa using h0, by simpa using hj, fun i hi => by simp [h i hi]⟩
  rw [this]
theorem firstBad_ok {f : Nat → Int} {n : Nat} (h : (firstBad f n).1 = 0) : ∀ i, i < n → f i = 0 := by
  rcases first_or (fun i => f i ≠ 0) n with h1 | ⟨j, h1, h2, h3⟩
  · exact fun i hi => by simpa using h1 i hi
  · rw [firstBad_some h1 h2 (fun i hi => by simpa using h3 i hi)] at h
    exact absurd h h2
theorem firstBad_congr {f g : Nat → Int} {n : Nat} (h : ∀ i, i < n → f i = g i) : firstBad f n = firstBad g n := by
  rcases first_or (fun i => f i ≠ 0) n with h1 | ⟨j, h1, h2, h3⟩
  · rw [firstBad_none (fun i hi => by simpa using h1 i hi), firstBad_none (fun i hi => by rw [← h i hi]; simpa using h1 i hi)]
  · rw [firstBad_some h1 h2 (fun i hi => by simpa using h3 i hi), firstBad_some h1 (by rw [← h j h1]; exact h2) (fun i hi => by rw [← h i (by omega)]; simpa using h3 i hi), h j h1]
/-- A loop that stops at the first bad index. -/
theorem loop_bad {τ : Type} {body : Int → Option (Int ⊕ (Int ⊕ τ))} {f : Nat → Int} {n m : Nat} {mkt : Int → Int → τ} (hm : n < m)
    (hs : ∀ i : Nat, i < n → f i = 0 → body (i : Int) = some (.inl ((i + 1 : Nat) : Int))) (hb : ∀ i : Nat, i < n → f i ≠ 0 → body (i : Int) = some (.inr (.inr (mkt (f i) i)))) (he : body (n : Int) = some (.inr (.inl (n : Int)))) :
    loopP body m 0 = some (if (firstBad f n).1 = 0 then .inl (n : Int) else .inr (mkt (firstBad f n).1 (firstBad f n).2)) := by
  rcases first_or (fun i => f i ≠ 0) n with h1 | ⟨j, h1, h2, h3⟩
  · rw [firstBad_none (fun i hi => by simpa using h1 i hi)]
    exact loop_to (fun i => (i : Int)) n m _ hm (fun i hi => hs i hi (by simpa using h1 i hi)) he rfl
  · rw [firstBad_some h1 h2 (fun i hi => by simpa using h3 i hi)]
    simp only [if_neg h2]
    exact loop_to (fun i => (i : Int)) j m _ (by omega) (fun i hi => hs i (by omega) (by simpa using h3 i hi)) (hb j h1 h2) rfl
theorem take_succ {α : Type} {l : List α} {i : Nat} {x : α} (h : l[i]? = some x) : l.take (i + 1) = l.take i ++ [x] := by
  rw [List.take_add_one, h]; rfl
theorem fold_take {α σ : Type} {l : List α} {i : Nat} {x : α} (h : l[i]? = some x) (f : σ → α → σ) (s : σ) : (l.take (i + 1)).foldl f s = f ((l.take i).foldl f s) x := by
  rw [take_succ h, List.foldl_append]; rfl
theorem get_of_lt {α : Type} {l : List α} {i : Nat} (h : i < l.length) : l[i]? = some l[i] := List.getElem?_eq_getElem h
/-- A loop over a list, from the first element on. -/
theorem loop_list {σ τ α : Type} {body : σ × Int → Option ((σ × Int) ⊕ τ)} (l : List α) (f : σ → α → σ) (s : σ) (n : Nat) (t : τ) (hn : l.length < n)
    (hs : ∀ (i : Nat) (x : α), l[i]? = some x → body ((l.take i).foldl f s, (i : Int)) = some (.inl (f ((l.take i).foldl f s) x, ((i + 1 : Nat) : Int)))) (he : body (l.foldl f s, (l.length : Int)) = some (.inr t)) : loopP body n (s, 0) = some t := by
  refine loop_to (fun i => ((l.take i).foldl f s, (i : Int))) l.length n t hn (fun i hi => ?_) ?_ (by simp)
  · have hx := get_of_lt hi
    rw [hs i _ hx, fold_take hx]
  · rw [List.take_length]
    exact he
/-- Two lists are compared element by element. -/
theorem eq_loop {α : Type} [DecidableEq α] {body : Int → Option (Int ⊕ (Int ⊕ Unit))} (a b : List α) (n : Nat) (hlen : a.length = b.length) (hn : a.length < n)
    (hb : ∀ (i : Nat) x y, a[i]? = some x → b[i]? = some y → body (i : Int) = some (if x = y then .inl ((i + 1 : Nat) : Int) else .inr (.inr ()))) (he : body (a.length : Int) = some (.inr (.inl (a.length : Int)))) :
    loopP body n 0 = some (if a = b then .inl (a.length : Int) else .inr ()) := by
  rcases first_or (fun i => a[i]? ≠ b[i]?) a.length with h1 | ⟨j, h1, h2, h3⟩
  · have heq : a = b := by
      refine List.ext_getElem? fun i => ?_
      by_cases hi : i < a.length
      · simpa using h1 i hi
      · rw [List.getElem?_eq_none (by omega), List.getElem?_eq_none (by omega)]
    rw [if_pos heq]
    refine loop_to (s0 := 0) (fun i => (i : Int)) a.length n (Sum.inl (a.length : Int)) (by omega) (fun i hi => ?_) he rfl
    have hx := get_of_lt hi
    rw [hb i _ _ hx (by rw [← heq]; exact hx)]
    simp
  · have hx := get_of_lt h1
    have hy := get_of_lt (show j < b.length by omega)
    have hne : a[j] ≠ b[j]'(by omega) := by
      intro e
      rw [hx, hy, e] at h2
      exact h2 rfl
    rw [if_neg (by rintro rfl; exact h2 rfl)]
    refine loop_to (s0 := 0) (fun i => (i : Int)) j n (Sum.inr ()) (by omega) (fun i hi => ?_) ?_ rfl
    · have hx' := get_of_lt (show i < a.length by omega)
      have := h3 i hi
      simp only [ne_eq, Decidable.not_not] at this
      rw [hb i _ _ hx' (by rw [← this]; exact hx')]
      simp
    · rw [hb j _ _ hx hy, if_neg hne]
end Go.Proofs.YtckalckfihhldaaDoorF
