/- Plain laws of the tables, 11: the law of catches. -/
import Derived.Test.YtmjignphadnadaaT9
import Derived.Test.YtmjignphadnadaaQ5
set_option linter.unusedVariables false
set_option linter.unusedSimpArgs false
namespace Go.Proofs.YtmjignphadnadaaF
open Go Go.Proofs

/-- A catch counts at an instruction. -/
abbrev cv (x : Ct) (a : Int) : Prop := x.1 ≤ a ∧ a < x.2.1
def covf (l : List Ct) (a : Int) (i : Nat) : Int := if cv (l.getD i (0, 0, 0, 0)) a then 1 else 0
def catchAt (l : List Ct) (a : Int) : Int := if (firstBad (covf l a) l.length).1 = 0 then -1 else (firstBad (covf l a) l.length).2
theorem covf_get {l : List Ct} {i : Nat} {x : Ct} (h : l[i]? = some x) (a : Int) : covf l a i = if cv x a then 1 else 0 := by
  unfold covf
  rw [List.getD_eq_getElem?_getD, h]
  rfl
theorem catchAt_cases (l : List Ct) (a : Int) : (catchAt l a = -1 ∧ ∀ (i : Nat) (x : Ct), l[i]? = some x → ¬ cv x a) ∨ ∃ (j : Nat) (x : Ct), catchAt l a = (j : Int) ∧ l[j]? = some x ∧ cv x a ∧ ∀ (i : Nat) (y : Ct), i < j → l[i]? = some y → ¬ cv y a := by
  unfold catchAt
  rcases first_or (fun i => covf l a i ≠ 0) l.length with h1 | ⟨j, h1, h2, h3⟩
  · rw [firstBad_none (fun i hi => by simpa using h1 i hi)]
    refine .inl ⟨rfl, fun i x hx hc => ?_⟩
    have := h1 i (List.getElem?_eq_some_iff.1 hx).1
    rw [covf_get hx, if_pos hc] at this
    exact this (by decide)
  · rw [firstBad_some h1 h2 (fun i hi => by simpa using h3 i hi)]
    have hx := get_of_lt h1
    refine .inr ⟨j, _, by simp [h2], hx, ?_, fun i y hi hy hc => ?_⟩
    · rw [covf_get hx] at h2
      by_cases hc : cv l[j] a
      · exact hc
      · rw [if_neg hc] at h2; exact absurd rfl h2
    · have := h3 i hi
      rw [covf_get hy, if_pos hc] at this
      exact this (by decide)
theorem catchAt_self {l : List Ct} {i : Nat} {x : Ct} (hx : l[i]? = some x) {a : Int} (hc : cv x a) : catchAt l a = (i : Int) ↔ catchAt (l.take i) a = -1 := by
  rcases catchAt_cases (l.take i) a with ⟨h1, h2⟩ | ⟨j, y, h1, h2, h3, h4⟩
  · refine ⟨fun _ => h1, fun _ => ?_⟩
    rcases catchAt_cases l a with ⟨k1, k2⟩ | ⟨j, y, k1, k2, k3, k4⟩
    · exact absurd hc (k2 i x hx)
    · rw [k1]
      rcases Nat.lt_trichotomy j i with h | h | h
      · exact absurd k3 (h2 j y (by rw [List.getElem?_take, if_pos h]; exact k2))
      · rw [h]
      · exact absurd hc (k4 i x h hx)
  · rw [h1]
    rw [List.getElem?_take] at h2
    split at h2
    · rename_i hj
      refine ⟨fun h => ?_, fun h => by omega⟩
      rcases catchAt_cases l a with ⟨k1, k2⟩ | ⟨j', y', k1, k2, k3, k4⟩
      · omega
      · have : j' = i := by omega
        subst this
        exact absurd h3 (k4 j y hj h2)
    · cases h2
theorem s24 {n : Nat} (l : List Ct) (a : Int) (hl : l.length ≤ 60000) (hn : 60010 ≤ n) : p24 n l a = some (catchAt l a) := by
  obtain ⟨n, rfl⟩ : ∃ m, n = m + 1 := ⟨n - 1, by omega⟩
  rw [p24, catchAt]
  rw [loop_bad (f := covf l a) (n := l.length) (mkt := fun _ i => i) (by omega) ?_ ?_ ?_]
  · by_cases hf : (firstBad (covf l a) l.length).1 = 0
    · simp [hf]
    · simp [hf]
  · intro i hi hf
    have hx := get_of_lt hi
    rw [covf_get hx] at hf
    unfold pb24_1
    rw [if_pos (by simp; omega), rd_nat hx, wr (x := (i : Int) + 1) (by omega) (by omega)]
    simp only [pj]
    by_cases h1 : l[i].1 ≤ a
    · by_cases h2 : a < l[i].2.1
      · rw [if_pos ⟨h1, h2⟩] at hf; cases hf
      · simp [h1, h2]
    · simp [h1]
  · intro i hi hf
    have hx := get_of_lt hi
    rw [covf_get hx] at hf
    unfold pb24_1
    rw [if_pos (by simp; omega), rd_nat hx]
    simp only [pj]
    by_cases h1 : cv l[i] a
    · simp [h1.1, h1.2]
    · rw [if_neg h1] at hf; exact absurd rfl hf
  · unfold pb24_1
    rw [if_neg (by simp)]
theorem s41 {n : Nat} (x : Ct) (a : Int) (hn : 0 < n) : p41 n x a = some (decide (cv x a)) := by
  obtain ⟨n, rfl⟩ : ∃ m, n = m + 1 := ⟨n - 1, by omega⟩
  rw [p41]
  simp only [pj]
  by_cases h1 : x.1 ≤ a <;> simp [cv, h1]
theorem s42 {n : Nat} (x : Ct) (a : Int) (hn : 0 < n) : p42 n x a = some (decide (cv x a)) := by
  obtain ⟨n, rfl⟩ : ∃ m, n = m + 1 := ⟨n - 1, by omega⟩
  rw [p42]
  simp only [pj]
  by_cases h1 : x.1 ≤ a <;> simp [cv, h1]
theorem s40_41 {n : Nat} (l : List Ct) (a : Int) (hl : l.length ≤ 60000) (hn : 60010 ≤ n) : p40_41 n l a = some (catchAt l a) := by
  obtain ⟨n, rfl⟩ : ∃ m, n = m + 1 := ⟨n - 1, by omega⟩
  rw [p40_41, catchAt]
  rw [loop_bad (f := covf l a) (n := l.length) (mkt := fun _ i => i) (by omega) ?_ ?_ ?_]
  · by_cases hf : (firstBad (covf l a) l.length).1 = 0
    · simp [hf]
    · simp [hf]
  · intro i hi hf
    have hx := get_of_lt hi
    rw [covf_get hx] at hf
    unfold pb40_41_1
    rw [if_pos (by simp; omega), rd_nat hx, wr (x := (i : Int) + 1) (by omega) (by omega), s41 _ _ (by omega)]
    by_cases h1 : cv l[i] a
    · rw [if_pos h1] at hf; cases hf
    · simp only [Option.bind_some]
      rw [if_neg (by simpa using h1)]
      rfl
  · intro i hi hf
    have hx := get_of_lt hi
    rw [covf_get hx] at hf
    unfold pb40_41_1
    rw [if_pos (by simp; omega), rd_nat hx, s41 _ _ (by omega)]
    by_cases h1 : cv l[i] a
    · simp only [Option.bind_some]
      rw [if_pos (by simpa using h1)]
    · rw [if_neg h1] at hf; exact absurd rfl hf
  · unfold pb40_41_1
    rw [if_neg (by simp)]
theorem s40_42 {n : Nat} (l : List Ct) (a : Int) (hl : l.length ≤ 60000) (hn : 60010 ≤ n) : p40_42 n l a = some (catchAt l a) := by
  obtain ⟨n, rfl⟩ : ∃ m, n = m + 1 := ⟨n - 1, by omega⟩
  rw [p40_42, catchAt]
  rw [loop_bad (f := covf l a) (n := l.length) (mkt := fun _ i => i) (by omega) ?_ ?_ ?_]
  · by_cases hf : (firstBad (covf l a) l.length).1 = 0
    · simp [hf]
    · simp [hf]
  · intro i hi hf
    have hx := get_of_lt hi
    rw [covf_get hx] at hf
    unfold pb40_42_1
    rw [if_pos (by simp; omega), rd_nat hx, wr (x := (i : Int) + 1) (by omega) (by omega), s42 _ _ (by omega)]
    by_cases h1 : cv l[i] a
    · rw [if_pos h1] at hf; cases hf
    · simp only [Option.bind_some]
      rw [if_neg (by simpa using h1)]
      rfl
  · intro i hi hf
    have hx := get_of_lt hi
    rw [covf_get hx] at hf
    unfold pb40_42_1
    rw [if_pos (by simp; omega), rd_nat hx, s42 _ _ (by omega)]
    by_cases h1 : cv l[i] a
    · simp only [Option.bind_some]
      rw [if_pos (by simpa using h1)]
    · rw [if_neg h1] at hf; exact absurd rfl hf
  · unfold pb40_42_1
    rw [if_neg (by simp)]
theorem s22 {n : Nat} (l : List Ct) (a : Int) (hn : 60020 ≤ n) : p22 n l a = some (if chkC l = (0, 0) then (catchAt l a, (0, 0)) else (0, chkC l)) := by
  obtain ⟨n, rfl⟩ : ∃ m, n = m + 1 := ⟨n - 1, by omega⟩
  rw [p22, s39 l (by omega)]
  simp only [Option.bind_some]
  by_cases h0 : chkC l = (0, 0)
  · rw [if_pos h0, h0, if_neg (by simp), s40_41 l a (chkC_ok h0).1 (by omega)]
    rfl
  · rw [if_neg h0, if_pos (ne00 h0)]
/-- Catch i counts nowhere. -/
def shadB (l : List Ct) (i : Nat) : Bool := let x := l.getD i (0, 0, 0, 0); decide (∀ d, d < (x.2.1 - x.1).toNat → catchAt (l.take i) (x.1 + d) ≠ -1)
theorem shadB_iff {l : List Ct} {i : Nat} {x : Ct} (h : l[i]? = some x) : shadB l i = true ↔ ∀ a, x.1 ≤ a → a < x.2.1 → catchAt (l.take i) a ≠ -1 := by
  unfold shadB
  rw [List.getD_eq_getElem?_getD, h]
  simp only [Option.getD_some, decide_eq_true_eq]
  constructor
  · intro hd a h1 h2
    have := hd (a - x.1).toNat (by omega)
    rwa [show x.1 + ((a - x.1).toNat : Int) = a by omega] at this
  · intro ha d hd
    exact ha _ (by omega) (by omega)
theorem slP_ok {ρ α : Type} {xs : List α} {l h : Int} {K : List α → Option ρ} (h0 : 0 ≤ l) (h1 : l ≤ h) (h2 : h ≤ xs.length) : slP xs l h K = K ((xs.take h.toNat).drop l.toNat) := by
  unfold slP
  rw [if_pos h0, if_pos h1, if_pos h2]
theorem l23_2 {l : List Ct} (hc : chkC l = (0, 0)) (n : Nat) (hn : 60010 ≤ n) {i : Nat} {x : Ct} (hx : l[i]? = some x) : ∀ (f m : Nat) (a : Int), (x.2.1 - a).toNat ≤ f → f + 2 ≤ m → x.1 ≤ a → a ≤ 60000 → (∀ c, x.1 ≤ c → c < a → c < x.2.1 → catchAt (l.take i) c ≠ -1) →
    ∃ t, loopP (pb23_2 n l i x) m (a, true) = some t ∧ (x.2.1 ≤ t ↔ shadB l i = true)
  | f, m, a, hf, hm, h0, h1, h2 => by
    obtain ⟨hlen, hok⟩ := chkC_ok hc
    have hi := (List.getElem?_eq_some_iff.1 hx).1
    obtain ⟨m, rfl⟩ : ∃ k, m = k + 2 := ⟨m - 2, by omega⟩
    by_cases ha : a < x.2.1
    · have htk : (l.take i).length ≤ 60000 := by simp; omega
      have step : pb23_2 n l i x (a, true) = (if catchAt (l.take i) a ≥ 0 then rd l (catchAt (l.take i) a) (fun x217 => some (.inl (x217.2.1, true))) else some (.inl (a, false))) := by
        unfold pb23_2
        simp only [pj, if_true]
        rw [if_pos (by simpa using ha), slP_ok (by omega) (by omega) (by omega)]
        simp only [Int.toNat_natCast, Int.toNat_zero, List.drop_zero]
        rw [s40_42 _ _ htk (by omega)]
        simp only [Option.bind_some]
        by_cases hk : catchAt (l.take i) a ≥ 0
        · rw [if_pos (by simpa using hk), if_pos hk]
          simp [hk]
        · rw [if_neg (by simpa using hk), if_neg hk]
          simp [hk]
      rcases catchAt_cases (l.take i) a with ⟨k1, k2⟩ | ⟨j, y, k1, k2, k3, k4⟩
      · refine ⟨a, ?_, ⟨fun h => by omega, fun h => ?_⟩⟩
        · unfold loopP
          rw [step, k1, if_neg (by omega)]
          dsimp only
          unfold loopP pb23_2
          simp [pj]
        · exact absurd k1 ((shadB_iff hx).1 h a h0 ha)
      · have hy : l[j]? = some y := by
          rw [List.getElem?_take] at k2
          split at k2
          · exact k2
          · cases k2
        have gy := hok j y hy
        cases f with
        | zero => omega
        | succ f =>
          obtain ⟨t, t1, t2⟩ := l23_2 hc n hn hx f (m + 1) y.2.1 (by have := k3.2; omega) (by omega) (by have := k3.2; omega) gy.2.2.1 (fun c c0 c1 c2 => by
            by_cases hca : c < a
            · exact h2 c c0 hca c2
            · rcases catchAt_cases (l.take i) c with ⟨q1, q2⟩ | ⟨j', y', q1, -⟩
              · exact absurd ⟨by have := k3.1; omega, c1⟩ (q2 j y k2)
              · omega)
          refine ⟨t, ?_, t2⟩
          unfold loopP
          rw [step, k1, if_pos (by omega), rd_nat hy]
          exact t1
    · refine ⟨a, ?_, ⟨fun _ => (shadB_iff hx).2 fun c c0 c1 => h2 c c0 (by omega) c1, fun _ => by omega⟩⟩
      unfold loopP pb23_2
      simp [pj, ha]
def shadows (l : List Ct) (n : Nat) : List Int := ((List.range n).filter (shadB l)).map fun (i : Nat) => (i : Int)
theorem shadows_succ (l : List Ct) (n : Nat) : shadows l (n + 1) = if shadB l n = true then shadows l n ++ [(n : Int)] else shadows l n := by
  unfold shadows
  rw [List.range_succ, List.filter_append]
  by_cases h : shadB l n = true
  · rw [if_pos h, List.map_append]
    simp [h]
  · rw [if_neg h]
    simp [h]
theorem shadows_length (l : List Ct) : ∀ n, (shadows l n).length ≤ n
  | 0 => by simp [shadows]
  | n + 1 => by
    have := shadows_length l n
    rw [shadows_succ]
    split
    · simp; omega
    · omega
theorem s23 {n : Nat} (l : List Ct) (hn : 60030 ≤ n) : p23 n l = some (if chkC l = (0, 0) then (shadows l l.length, (0, 0)) else ([], chkC l)) := by
  obtain ⟨n, rfl⟩ : ∃ m, n = m + 1 := ⟨n - 1, by omega⟩
  rw [p23, s39 l (by omega)]
  simp only [Option.bind_some]
  by_cases h0 : chkC l = (0, 0)
  · obtain ⟨hlen, hok⟩ := chkC_ok h0
    rw [if_pos h0, h0, if_neg (by simp), loop_to (s0 := ([], 0)) (fun i => (shadows l i, (i : Int))) l.length n (shadows l l.length, (l.length : Int)) (by omega) ?_ ?_ (by simp [shadows])]
    · rfl
    · intro i hi
      have hx := get_of_lt hi
      have g := hok i _ hx
      have sl := shadows_length l i
      unfold pb23_1
      rw [if_pos (by simp; omega), rd_nat hx]
      generalize l[i] = x at hx g
      obtain ⟨t, t1, t2⟩ := l23_2 h0 n (by omega) hx 60000 n x.1 (by omega) (by omega) (by omega) (by omega) (fun c _ _ => by omega)
      rw [t1]
      simp only [Option.bind_some]
      rw [shadows_succ, wr (x := (i : Int) + 1) (by omega) (by omega)]
      by_cases hs : shadB l i = true
      · rw [if_pos hs, if_pos (by simpa using t2.2 hs), apP_ok (by simp; omega)]
        rfl
      · rw [if_neg hs, if_neg (by simpa using fun h => hs (t2.1 h))]
        rfl
    · unfold pb23_1
      rw [if_neg (by simp)]
  · rw [if_neg h0, if_pos (ne00 h0)]
theorem s45 {n : Nat} (x : Int) (h : 0 ≤ x ∧ x ≤ 1000000000000) (hn : 0 < n) : p45_n n x = some [] := by
  obtain ⟨n, rfl⟩ : ∃ m, n = m + 1 := ⟨n - 1, by omega⟩
  have e : IntKind.wrap .i64 (x - (IntKind.wrap .i64 (0 - (0 : Nat)))) = x := by
    rw [wr (x := 0 - ((0 : Nat) : Int)) (by omega) (by omega), wr (by omega) (by omega)]
    omega
  rw [p45_n, if_neg (by simp; omega), e]
  simp only [pj]
  by_cases h0 : x > 0
  · rw [if_pos (by simpa using h0), slP_ok (by omega) (by omega) (by simp)]
    unfold mkzP
    rw [if_pos (by omega), if_pos (by omega)]
    dsimp only
    rw [slP_ok (by omega) (by omega) (by omega)]
    simp
  · rw [if_neg (by simpa using h0)]
theorem s43 {n : Nat} (ls : List (List Int)) (h1 : ls.length ≤ 1000) (h2 : ls.flatten.length ≤ 1000000000) (hn : 1010 ≤ n) : p43 n ls = some ls.flatten := by
  obtain ⟨n, rfl⟩ : ∃ m, n = m + 1 := ⟨n - 1, by omega⟩
  have hpre : ∀ i, (ls.take i).flatten.length ≤ 1000000000 := fun i => by
    have : ls.flatten = (ls.take i).flatten ++ (ls.drop i).flatten := by rw [← List.flatten_append, List.take_append_drop]
    rw [this, List.length_append] at h2
    omega
  have hstep : ∀ (i : Nat) (x : List Int), ls[i]? = some x → (ls.take (i + 1)).flatten = (ls.take i).flatten ++ x := fun i x hx => by
    rw [take_succ hx, List.flatten_append]
    simp
  rw [p43, loop_to (s0 := (0, 0)) (fun i => (((ls.take i).flatten.length : Int), (i : Int))) ls.length n ((ls.flatten.length : Int), (ls.length : Int)) (by omega) ?_ ?_ (by simp)]
  · simp only [Option.bind_some]
    rw [s45 _ (by omega) (by omega)]
    simp only [Option.bind_some]
    rw [loop_to (s0 := ([], 0)) (fun i => ((ls.take i).flatten, (i : Int))) ls.length n (ls.flatten, (ls.length : Int)) (by omega) ?_ ?_ (by simp)]
    · rfl
    · intro i hi
      have hx := get_of_lt hi
      have hp := hpre (i + 1)
      rw [hstep i _ hx, List.length_append] at hp
      unfold pb43_2
      rw [if_pos (by simp; omega), rd_nat hx, apP_ok (by dsimp only; omega), wr (x := (i : Int) + 1) (by omega) (by omega), hstep i _ hx]
      rfl
    · unfold pb43_2
      rw [if_neg (by simp), List.take_length]
  · intro i hi
    have hx := get_of_lt hi
    have hp := hpre (i + 1)
    rw [hstep i _ hx, List.length_append] at hp
    unfold pb43_1
    rw [if_pos (by simp; omega), rd_nat hx]
    dsimp only
    rw [wr (x := ((ls.take i).flatten.length : Int) + (ls[i].length : Nat)) (by omega) (by omega), wr (x := (i : Int) + 1) (by omega) (by omega), if_neg (by simp; omega), hstep i _ hx, List.length_append]
    rfl
  · unfold pb43_1
    rw [if_neg (by simp), List.take_length]
theorem s25 {n : Nat} (l : List Ct) (h0 : chkC l = (0, 0)) (hn : 60030 ≤ n) : p25 n l = some (packC 0 l) := by
  obtain ⟨n, rfl⟩ : ∃ m, n = m + 1 := ⟨n - 1, by omega⟩
  obtain ⟨hlen, hok⟩ := chkC_ok h0
  let st : Nat → List Int × Int × Int := fun i => let t := (l.take i).foldl packCStep ([], 0); (t.1, t.2, (i : Int))
  rw [p25, loop_to st l.length n (st l.length) (by omega) ?_ ?_ (by simp [st])]
  · simp only [Option.bind_some, st, List.take_length, packCStep_fold, List.nil_append]
  · intro i hi
    have hx := get_of_lt hi
    have g := hok i _ hx
    have pl := packCStep_last h0 i hi []
    have ln := packCStep_len (l.take i) [] 0
    have lt := List.length_take_le i l
    have e : st (i + 1) = (let t := packCStep ((l.take i).foldl packCStep ([], 0)) l[i]; (t.1, t.2, ((i + 1 : Nat) : Int))) := by simp only [st]; rw [fold_take hx]
    rw [e]
    simp only [st]
    generalize (l.take i).foldl packCStep ([], 0) = t at pl ln
    generalize l[i] = x at hx g pl
    obtain ⟨b, a⟩ := t
    simp only [List.length_nil] at ln pl
    have a1 := sept_length 2 (foldI (x.1 - a))
    have a2 := sept_length 2 (x.2.1 - x.1)
    have a3 := sept_length 2 (foldI (x.2.2.1 - x.2.1))
    have a4 := sept_length 2 x.2.2.2
    unfold pb25_1
    rw [if_pos (by simp; omega)]
    dsimp only at pl ln ⊢
    rw [rd_nat hx, wr (x := x.1 - a) (by omega) (by omega), s35 _ (by omega) (by omega)]
    simp only [Option.bind_some]
    rw [wr (x := x.2.1 - x.1) (by omega) (by omega), s34 2 _ (by omega) (by omega) (by omega) (by omega) (by omega)]
    simp only [Option.bind_some]
    rw [wr (x := x.2.2.1 - x.2.1) (by omega) (by omega), s35 _ (by omega) (by omega)]
    simp only [Option.bind_some]
    rw [s34 2 _ (by omega) (by omega) (by omega) (by omega) (by omega)]
    simp only [Option.bind_some]
    rw [s43 _ (by simp) (by simp; omega) (by omega), wr (x := (i : Int) + 1) (by omega) (by omega)]
    simp [packCStep]
  · unfold pb25_1
    simp only [st]
    rw [if_neg (by simp)]
theorem s44 {n : Nat} (a b : List Int) (hl : a.length + 3 < n) (hb : a.length ≤ 1000000000000) : p44 n a b = some (decide (a = b)) := by
  obtain ⟨n, rfl⟩ : ∃ m, n = m + 1 := ⟨n - 1, by omega⟩
  rw [p44]
  by_cases hlen : a.length = b.length
  · have hloop := eq_loop (body := pb44_1 n a b) a b n hlen (by omega) (fun i x y hx hy => by
      have hi := (List.getElem?_eq_some_iff.1 hx).1
      unfold pb44_1
      rw [if_pos (by simp; omega), rd_nat hx, rd_nat hy, wr (x := (i : Int) + 1) (by omega) (by omega)]
      by_cases h1 : x = y
      · simp [h1]
      · simp [h1]) (by
      unfold pb44_1
      rw [if_neg (by simp)])
    rw [if_neg (by simp; omega), hloop]
    by_cases h : a = b <;> simp [h]
  · rw [if_pos (by simp; omega)]
    have : a ≠ b := by rintro rfl; exact hlen rfl
    simp [this]
theorem s26 {n : Nat} (a b : List Int) (hl : a.length + 4 < n) (hb : a.length ≤ 1000000000000) : p26 n a b = some (decide (a = b)) := by
  obtain ⟨n, rfl⟩ : ∃ m, n = m + 1 := ⟨n - 1, by omega⟩
  rw [p26, s44 _ _ (by omega) hb]
  rfl
/-! ### What was packed is unpacked -/
theorem numAt_sept {b : List Int} {at_ : Nat} {x : Int} {rest : List Int} (h : b.drop at_ = sept 2 x ++ rest) (h0 : 0 ≤ x) (h1 : x < 2097152) : numAt b at_ = (x, true, (sept 2 x).length) := by
  unfold numAt
  rw [h, numL_sept 2 1 0 x rest (by omega) h0 (by omega)]
  simp
theorem grpAt_sept {b : List Int} : ∀ (g : List Int) {at_ : Nat} {rest : List Int}, b.drop at_ = g.flatMap (sept 2) ++ rest → (∀ x ∈ g, 0 ≤ x ∧ x < 2097152) → grpAt b g.length at_ = some (g, at_ + (g.flatMap (sept 2)).length)
  | [], at_, rest, _, _ => by simp [grpAt]
  | x :: g, at_, rest, h, hx => by
    have hb := hx x (by simp)
    rw [List.flatMap_cons, List.append_assoc] at h
    have e := numAt_sept h hb.1 hb.2
    have h2 : b.drop (at_ + (sept 2 x).length) = g.flatMap (sept 2) ++ rest := by
      rw [← List.drop_drop, h, List.drop_left]
    rw [List.length_cons, grpAt, e, if_pos rfl, grpAt_sept g h2 fun y hy => hx y (by simp [hy])]
    simp
    omega
theorem groupsF_sept {b : List Int} (c : Nat) : ∀ (gs : List (List Int)) {f at_ : Nat}, at_ ≤ b.length → b.length - at_ ≤ f → b.drop at_ = gs.flatMap (fun g => g.flatMap (sept 2)) → (∀ g ∈ gs, g.length = c + 1 ∧ ∀ x ∈ g, 0 ≤ x ∧ x < 2097152) → groupsF b (c + 1) f at_ = .inl gs
  | [], f, at_, hle, hf, h, _ => by
    have hl := congrArg List.length h
    simp at hl
    cases f with
    | zero => rfl
    | succ f =>
      simp only [groupsF]
      rw [if_pos (by omega)]
  | g :: gs, f, at_, hle, hf, h, hx => by
    obtain ⟨g1, g2⟩ := hx g (by simp)
    rw [List.flatMap_cons] at h
    have hpos : 0 < (g.flatMap (sept 2)).length := by
      match g, g1 with
      | x :: g, _ =>
        have := sept_pos 2 x
        simp
        omega
    have hl := congrArg List.length h
    rw [List.length_drop, List.length_append] at hl
    obtain ⟨f, rfl⟩ : ∃ k, f = k + 1 := ⟨f - 1, by omega⟩
    have e := grpAt_sept g h g2
    rw [g1] at e
    have h2 : b.drop (at_ + (g.flatMap (sept 2)).length) = gs.flatMap (fun g => g.flatMap (sept 2)) := by
      rw [← List.drop_drop, h, List.drop_left]
    simp only [groupsF]
    rw [if_neg (by omega), e]
    dsimp only
    rw [groupsF_sept c gs (by omega) (by omega) h2 fun y hy => hx y (by simp [hy])]
def deltasC : Int → List Ct → List (List Int)
  | _, [] => []
  | a, x :: r => [foldI (x.1 - a), x.2.1 - x.1, foldI (x.2.2.1 - x.2.1), x.2.2.2] :: deltasC x.1 r
theorem packC_deltas : ∀ (l : List Ct) (a : Int), packC a l = (deltasC a l).flatMap (fun g => g.flatMap (sept 2))
  | [], _ => rfl
  | x :: r, a => by
    simp only [packC, deltasC, List.flatMap_cons, packC_deltas r]
    simp
theorem catchesF_deltas : ∀ (l : List Ct) (a : Int), catchesF a (deltasC a l) = l
  | [], _ => rfl
  | x :: r, a => by
    simp only [deltasC, catchesF, List.getD_cons_zero, List.getD_cons_succ, unf_foldI]
    have e1 : a + (x.1 - a) = x.1 := by omega
    have e2 : x.1 + (x.2.1 - x.1) = x.2.1 := by omega
    have e3 : x.2.1 + (x.2.2.1 - x.2.1) = x.2.2.1 := by omega
    rw [e1, e2, e3, catchesF_deltas r]
theorem deltasC_good : ∀ (l : List Ct) (a : Int), 0 ≤ a → a ≤ 60000 → (∀ x ∈ l, 0 ≤ x.1 ∧ x.1 < x.2.1 ∧ x.2.1 ≤ 60000 ∧ 0 ≤ x.2.2.1 ∧ x.2.2.1 < 60000 ∧ 0 ≤ x.2.2.2 ∧ x.2.2.2 ≤ 5000) → ∀ g ∈ deltasC a l, g.length = 4 ∧ ∀ x ∈ g, 0 ≤ x ∧ x < 2097152
  | [], _, _, _, _, g, hg => by simp [deltasC] at hg
  | x :: r, a, h0, h1, h, g, hg => by
    have k := h x (by simp)
    simp only [deltasC, List.mem_cons] at hg
    rcases hg with rfl | hg
    · have f1 := foldI_bound (x := x.1 - a) (by omega)
      have f2 := foldI_bound (x := x.2.2.1 - x.2.1) (by omega)
      refine ⟨rfl, fun y hy => ?_⟩
      simp only [List.mem_cons, List.not_mem_nil, or_false] at hy
      rcases hy with rfl | rfl | rfl | rfl
      · exact f1
      · omega
      · exact f2
      · omega
    · exact deltasC_good r x.1 k.1 (by omega) (fun y hy => h y (by simp [hy])) g hg
theorem chkC_mem {l : List Ct} (h : chkC l = (0, 0)) : ∀ x ∈ l, 0 ≤ x.1 ∧ x.1 < x.2.1 ∧ x.2.1 ≤ 60000 ∧ 0 ≤ x.2.2.1 ∧ x.2.2.1 < 60000 ∧ 0 ≤ x.2.2.2 ∧ x.2.2.2 ≤ 5000 := fun x hx => by
  obtain ⟨i, hi⟩ := List.mem_iff_getElem?.1 hx
  exact (chkC_ok h).2 i x hi
theorem packC_byte {l : List Ct} (h : chkC l = (0, 0)) : byteL (packC 0 l) := by
  intro y hy
  rw [packC_deltas] at hy
  obtain ⟨g, hg, hy⟩ := List.mem_flatMap.1 hy
  obtain ⟨x, hx, hy⟩ := List.mem_flatMap.1 hy
  have := (deltasC_good l 0 (by omega) (by omega) (chkC_mem h) g hg).2 x hx
  exact sept_byte 2 x this.1 (by omega) y hy
theorem packC_length (l : List Ct) (a : Int) : (packC a l).length ≤ 12 * l.length := by
  have h := packCStep_len l [] a
  rw [packCStep_fold] at h
  simpa using h
theorem unpackC_pack {l : List Ct} (h : chkC l = (0, 0)) : unpackC (packC 0 l) = (l, (0, 0)) := by
  unfold unpackC
  rw [groupsF_sept 3 (deltasC 0 l) (by omega) (by omega) (by rw [List.drop_zero]; exact packC_deltas l 0) (deltasC_good l 0 (by omega) (by omega) (chkC_mem h))]
  dsimp only
  rw [catchesF_deltas, if_pos h]
/-! ### The law -/
theorem l5_2 {l : List Ct} (hc : chkC l = (0, 0)) (n : Nat) (hn : 60020 ≤ n) {i : Nat} {x : Ct} (hx : l[i]? = some x) : loopP (pb5_2 n l i x) n (false, x.1) = some (!shadB l i, x.2.1) := by
  obtain ⟨hlen, hok⟩ := chkC_ok hc
  have g := hok i x hx
  have hi := (List.getElem?_eq_some_iff.1 hx).1
  have e1 : (!shadB l i) = decide (∃ d, d < (x.2.1 - x.1).toNat ∧ catchAt l (x.1 + d) = (i : Int)) := by
    rw [Bool.eq_iff_iff]
    simp only [Bool.not_eq_true', decide_eq_true_eq]
    rw [← Bool.not_eq_true, shadB_iff hx]
    constructor
    · intro h
      apply Classical.byContradiction
      intro hne
      refine h fun a h1 h2 h3 => hne ⟨(a - x.1).toNat, by omega, ?_⟩
      rw [show x.1 + ((a - x.1).toNat : Int) = a by omega]
      exact (catchAt_self hx ⟨h1, h2⟩).2 h3
    · rintro ⟨d, hd, he⟩ h
      exact h (x.1 + d) (by omega) (by omega) ((catchAt_self hx ⟨by omega, by omega⟩).1 he)
  rw [e1]
  have hstep : ∀ k, k < (x.2.1 - x.1).toNat → pb5_2 n l i x (decide (∃ d, d < k ∧ catchAt l (x.1 + d) = (i : Int)), x.1 + k) = some (.inl (decide (∃ d, d < k + 1 ∧ catchAt l (x.1 + d) = (i : Int)), x.1 + ((k + 1 : Nat) : Int))) := by
    intro k hk
    unfold pb5_2
    rw [if_pos (by simp; omega)]
    simp only [pj]
    rw [wr (x := x.1 + k + 1) (by omega) (by omega)]
    have e2 : x.1 + (k : Int) + 1 = x.1 + ((k + 1 : Nat) : Int) := by omega
    rw [e2]
    by_cases h : ∃ d, d < k ∧ catchAt l (x.1 + d) = (i : Int)
    · have h' : ∃ d, d < k + 1 ∧ catchAt l (x.1 + d) = (i : Int) := by
        obtain ⟨d, hd, he⟩ := h
        exact ⟨d, by omega, he⟩
      rw [if_pos (by simpa using h)]
      simp only [h', decide_true]
    · rw [if_neg (by simpa using h), s24 l _ hlen (by omega)]
      simp only [Option.bind_some]
      have : (catchAt l (x.1 + (k : Int)) == (i : Int)) = decide (∃ d, d < k + 1 ∧ catchAt l (x.1 + d) = (i : Int)) := by
        rw [Bool.eq_iff_iff]
        simp only [beq_iff_eq, decide_eq_true_eq]
        constructor
        · exact fun h => ⟨k, by omega, h⟩
        · rintro ⟨d, hd, he⟩
          by_cases hdk : d = k
          · rw [← hdk]; exact he
          · exact absurd ⟨d, by omega, he⟩ h
      rw [this]
  refine loop_to (fun k => (decide (∃ d, d < k ∧ catchAt l (x.1 + d) = (i : Int)), x.1 + k)) (x.2.1 - x.1).toNat n _ (by omega) hstep ?_ (by simp)
  unfold pb5_2
  rw [if_neg (by simp; omega)]
  have : x.1 + ((x.2.1 - x.1).toNat : Int) = x.2.1 := by omega
  simp only [this]
theorem l5_1 {l : List Ct} (hc : chkC l = (0, 0)) (n : Nat) (hn : 60020 ≤ n) : loopP (pb5_1 n l) n ([], 0) = some (shadows l l.length, (l.length : Int)) := by
  obtain ⟨hlen, hok⟩ := chkC_ok hc
  refine loop_to (s0 := ([], 0)) (fun i => (shadows l i, (i : Int))) l.length n _ (by omega) (fun i hi => ?_) ?_ (by simp [shadows])
  · have hx := get_of_lt hi
    have sl := shadows_length l i
    unfold pb5_1
    rw [if_pos (by simp; omega), rd_nat hx]
    dsimp only
    rw [l5_2 hc n hn hx]
    simp only [Option.bind_some]
    rw [shadows_succ, wr (x := (i : Int) + 1) (by omega) (by omega)]
    by_cases hs : shadB l i = true
    · simp only [hs, Bool.not_true, Bool.not_false, if_true]
      rw [apP_ok (by simp; omega)]
      rfl
    · have hs' : shadB l i = false := by simpa using hs
      simp only [hs', Bool.not_false, Bool.not_true, if_false, Bool.false_eq_true]
      rfl
  · unfold pb5_1
    rw [if_neg (by simp)]
theorem law5 (l : List Ct) (at_ : Int) : p5 1000000 l at_ = some true := by
  obtain ⟨n, hn, e⟩ : ∃ n, 999990 ≤ n ∧ 1000000 = n + 1 := ⟨999999, by omega, rfl⟩
  rw [e, p5, s22 l at_ (by omega), s23 l (by omega), s21 l (by omega), s19 l (by omega)]
  by_cases hc : chkC l = (0, 0)
  · obtain ⟨hlen, hok⟩ := chkC_ok hc
    have hpl := packC_length l 0
    have t1 := l5_1 hc n (by omega)
    have h24 := s24 (n := n) l at_ hlen (by omega)
    have h25 := s25 (n := n) l hc (by omega)
    have h12 : p12 n (packC 0 l) (packC 0 l) = some true := by rw [s12 _ _ (by omega) (by omega)]; simp
    have h18 : p18 n (packC 0 l) = some (l, (0, 0)) := by rw [s18 _ (packC_byte hc) (by omega) (by omega), unpackC_pack hc]
    have sl := shadows_length l l.length
    have h26 : p26 n (shadows l l.length) (shadows l l.length) = some true := by rw [s26 _ _ (by omega) (by omega)]; simp
    have h20 : p20 n l l = some true := by rw [s20 _ _ (by omega) (by omega)]; simp
    rw [if_pos hc, if_pos hc, if_pos hc, hc]
    simp [pj, h24, h25, h12, t1, h18, h26, h20]
  · rw [if_neg hc, if_neg hc, if_neg hc]
    simp only [Option.bind_some]
    rw [if_pos (by simpa using chkC_ne hc)]
    simp [pj]
end Go.Proofs.YtmjignphadnadaaF
