/- Sources: lines and places of letters. -/
import Derived.Test.YtnkbddljndfpnaaDoorT3
import Derived.Test.YtnkbddljndfpnaaDoorW1
set_option linter.unusedVariables false
set_option linter.unusedSimpArgs false
namespace Go.Proofs.YtnkbddljndfpnaaDoorF
open Go Go.Proofs
set_option maxRecDepth 100000

def linesC : List (List UInt8) → List (List (List UInt8))
  | [] => [[]]
  | c :: cs => if c = [10] then [] :: linesC cs else match linesC cs with
    | x :: xs => (c :: x) :: xs
    | [] => [[c]]
theorem linesC_10 (cs : List (List UInt8)) : linesC ([10] :: cs) = [] :: linesC cs := by
  conv => lhs; unfold linesC
  rw [if_pos rfl]
theorem linesC_ne {c : List UInt8} {cs : List (List UInt8)} (hc : c ≠ [10]) {x : List (List UInt8)} {xs : List (List (List UInt8))} (e : linesC cs = x :: xs) : linesC (c :: cs) = (c :: x) :: xs := by
  conv => lhs; unfold linesC
  rw [if_neg hc, e]
theorem linesL_app {c : List UInt8} (h : 10 ∉ c) (l : List UInt8) : ∃ x xs, linesL l = x :: xs ∧ linesL (c ++ l) = (c ++ x) :: xs := by
  induction c with
  | nil =>
    cases e : linesL l with
    | nil => exact absurd e (linesL_ne l)
    | cons x xs => exact ⟨x, xs, rfl, e⟩
  | cons a c ih =>
    obtain ⟨x, xs, h1, h2⟩ := ih (fun h' => h (List.mem_cons_of_mem _ h'))
    refine ⟨x, xs, h1, ?_⟩
    rw [List.cons_append]
    unfold linesL
    rw [if_neg (fun e => h (by rw [e]; exact List.mem_cons_self ..)), h2]
    rfl
theorem linesL_chars : ∀ {cs : List (List UInt8)}, Gds cs → linesL cs.flatten = (linesC cs).map List.flatten
  | [], _ => rfl
  | c :: cs, hg => by
    have ih := linesL_chars (cs := cs) (fun x hx => hg x (by simp [hx]))
    unfold linesC
    by_cases hc : c = [10]
    · rw [if_pos hc, hc, List.flatten_cons]
      show linesL (10 :: cs.flatten) = _
      unfold linesL
      rw [if_pos rfl, ih]
      rfl
    · rw [if_neg hc, List.flatten_cons]
      obtain ⟨x, xs, h1, h2⟩ := linesL_app ((hg c (by simp)).ne10 hc) cs.flatten
      rw [h2]
      rw [h1] at ih
      cases e : linesC cs with
      | nil => rw [e] at ih; cases ih
      | cons y ys =>
        rw [e] at ih
        injection ih with i1 i2
        simp [i1, i2]
theorem linesC_split : ∀ (cs : List (List UInt8)), ∃ ln, [10] ∉ ln ∧ ((cs = ln ∧ linesC cs = [ln]) ∨ ∃ cs', cs = ln ++ [10] :: cs' ∧ linesC cs = ln :: linesC cs')
  | [] => ⟨[], by simp, .inl ⟨rfl, rfl⟩⟩
  | c :: cs => by
    by_cases hc : c = [10]
    · subst hc
      exact ⟨[], by simp, .inr ⟨cs, rfl, by simp [linesC]⟩⟩
    · obtain ⟨ln, h1, h2⟩ := linesC_split cs
      refine ⟨c :: ln, by simp [h1, Ne.symm hc], ?_⟩
      rcases h2 with ⟨e1, e2⟩ | ⟨cs', e1, e2⟩
      · left; exact ⟨by rw [e1], linesC_ne hc e2⟩
      · right; exact ⟨cs', by rw [e1]; rfl, linesC_ne hc e2⟩
theorem fold_line {ln : List (List UInt8)} (h : [10] ∉ ln) (a b : Int) : ln.foldl pstep (a, b) = (a, b + ln.length) := by
  induction ln generalizing b with
  | nil => simp
  | cons c ln ih =>
    rw [List.foldl_cons]
    have hc : c ≠ [10] := fun e => h (by rw [e]; exact List.mem_cons_self ..)
    have : pstep (a, b) c = (a, b + 1) := by unfold pstep; rw [if_neg hc]
    rw [this, ih (fun h' => h (List.mem_cons_of_mem _ h'))]
    simp
    omega
theorem lines_pre : ∀ (m : Nat) (cs : List (List UInt8)) (a : Int), cs.length ≤ m → ∀ (k : Nat) ln, (linesC cs)[k]? = some ln → ∀ j : Nat, j ≤ ln.length →
    ∃ pre post, cs = pre ++ post ∧ pre.foldl pstep (a, 1) = (a + k, (j : Int) + 1) ∧ pre.flatten.length = lineOff ((linesC cs).map List.flatten) k + (ln.take j).flatten.length := by
  intro m
  induction m with
  | zero =>
    intro cs a hm k ln hk j hj
    have : cs = [] := List.length_eq_zero_iff.1 (by omega)
    subst this
    cases k with
    | zero => simp [linesC] at hk; subst hk; exact ⟨[], [], rfl, by simp at hj; subst hj; simp, by simp [lineOff]⟩
    | succ k => simp [linesC] at hk
  | succ m ih =>
    intro cs a hm k ln hk j hj
    obtain ⟨l0, h1, h2⟩ := linesC_split cs
    cases k with
    | zero =>
      have hl : ln = l0 := by rcases h2 with ⟨_, e⟩ | ⟨_, _, e⟩ <;> rw [e] at hk <;> simpa using hk.symm
      subst hl
      have hpre : ∃ post, cs = ln.take j ++ post := by
        rcases h2 with ⟨e, _⟩ | ⟨cs', e, _⟩
        · exact ⟨ln.drop j, by rw [List.take_append_drop]; exact e⟩
        · exact ⟨ln.drop j ++ [10] :: cs', by rw [← List.append_assoc, List.take_append_drop]; exact e⟩
      obtain ⟨post, hp⟩ := hpre
      refine ⟨ln.take j, post, hp, ?_, by simp [lineOff]⟩
      rw [fold_line (fun h => h1 (List.mem_of_mem_take h))]
      simp
      omega
    | succ k =>
      rcases h2 with ⟨_, e⟩ | ⟨cs', e1, e2⟩
      · rw [e] at hk; simp at hk
      · rw [e2] at hk
        obtain ⟨pre, post, q1, q2, q3⟩ := ih cs' (a + 1) (by rw [e1] at hm; simp at hm; omega) k ln (by simpa using hk) j hj
        refine ⟨l0 ++ [10] :: pre, post, by rw [e1, q1]; simp, ?_, ?_⟩
        · rw [List.foldl_append, fold_line h1, List.foldl_cons]
          have : pstep (a, 1 + (l0.length : Int)) [10] = (a + 1, 1) := by simp [pstep]
          rw [this, q2]
          simp
          omega
        · rw [e2]
          simp only [List.flatten_append, List.flatten_cons, List.length_append, q3, lineOff, List.map_cons, List.take_succ_cons, List.sum_cons]
          simp
          omega
theorem first_split {pre : List (List UInt8)} (h : [10] ∈ pre) : ∃ p1 p2, pre = p1 ++ [10] :: p2 ∧ [10] ∉ p1 := by
  induction pre with
  | nil => cases h
  | cons c pre ih =>
    by_cases hc : c = [10]
    · exact ⟨[], pre, by rw [hc]; rfl, by simp⟩
    · obtain ⟨p1, p2, e, hn⟩ := ih (by rcases List.mem_cons.1 h with h | h; exact absurd h.symm hc; exact h)
      exact ⟨c :: p1, p2, by rw [e]; rfl, by simp [hn, Ne.symm hc]⟩
theorem pre_lines : ∀ (m : Nat) (pre post : List (List UInt8)) (a : Int), pre.length ≤ m → ∃ k ln j, (linesC (pre ++ post))[k]? = some ln ∧ j ≤ ln.length ∧ pre.foldl pstep (a, 1) = (a + (k : Nat), ((j : Nat) : Int) + 1) := by
  intro m
  induction m with
  | zero =>
    intro pre post a hm
    have : pre = [] := List.length_eq_zero_iff.1 (by omega)
    subst this
    obtain ⟨l0, h1, h2⟩ := linesC_split ([] ++ post)
    rcases h2 with ⟨_, e⟩ | ⟨_, _, e⟩ <;> exact ⟨0, l0, 0, by rw [e]; rfl, Nat.zero_le _, by simp⟩
  | succ m ih =>
    intro pre post a hm
    by_cases h10 : [10] ∈ pre
    · obtain ⟨p1, p2, e, hn⟩ := first_split h10
      obtain ⟨k, ln, j, q1, q2, q3⟩ := ih p2 post (a + 1) (by rw [e] at hm; simp at hm; omega)
      have hc : linesC (pre ++ post) = p1 :: linesC (p2 ++ post) := by
        rw [e, List.append_assoc, List.cons_append]
        clear q1 q3 ih hm e h10
        induction p1 with
        | nil => simp [linesC]
        | cons c p1 ih =>
          have hc : c ≠ [10] := fun e => hn (by rw [e]; exact List.mem_cons_self ..)
          exact linesC_ne hc (ih (fun h => hn (List.mem_cons_of_mem _ h)))
      refine ⟨k + 1, ln, j, by rw [hc]; exact q1, q2, ?_⟩
      rw [e, List.foldl_append, fold_line hn, List.foldl_cons]
      have : pstep (a, 1 + (p1.length : Int)) [10] = (a + 1, 1) := by simp [pstep]
      rw [this, q3]
      simp
      omega
    · obtain ⟨x, xs, h1⟩ : ∃ x xs, linesC (pre ++ post) = (pre ++ x) :: xs := by
        clear ih hm
        induction pre with
        | nil =>
          obtain ⟨l0, _, h2⟩ := linesC_split ([] ++ post)
          rcases h2 with ⟨_, e⟩ | ⟨_, _, e⟩ <;> exact ⟨_, _, e⟩
        | cons c pre ih =>
          have hc : c ≠ [10] := fun e => h10 (by rw [e]; exact List.mem_cons_self ..)
          obtain ⟨x, xs, h1⟩ := ih (fun h => h10 (List.mem_cons_of_mem _ h))
          exact ⟨x, xs, linesC_ne hc h1⟩
      refine ⟨0, pre ++ x, pre.length, by rw [h1]; rfl, by simp, ?_⟩
      rw [fold_line h10]
      simp
      omega
theorem line_gds {cs : List (List UInt8)} (hg : Gds cs) {k : Nat} {ln : List (List UInt8)} (h : (linesC cs)[k]? = some ln) : Gds ln := by
  have key : ∀ (cs : List (List UInt8)), Gds cs → ∀ ln ∈ linesC cs, Gds ln := by
    intro cs
    induction cs with
    | nil => intro _ ln h; simp [linesC] at h; subst h; intro c hc; cases hc
    | cons c cs ih =>
      intro hg ln h
      have ih' := ih (fun x hx => hg x (by simp [hx]))
      unfold linesC at h
      split at h
      · rcases List.mem_cons.1 h with rfl | h
        · intro c hc; cases hc
        · exact ih' ln h
      · split at h
        · rename_i x xs e
          rw [e] at ih'
          rcases List.mem_cons.1 h with rfl | h
          · intro d hd
            rcases List.mem_cons.1 hd with rfl | hd
            · exact hg _ (by simp)
            · exact ih' x (by simp) d hd
          · exact ih' ln (by simp [h])
        · simp at h; subst h
          intro d hd; simp at hd; subst hd; exact hg _ (by simp)
  exact key cs hg ln (List.mem_of_getElem? h)

/-! ### Counting -/
theorem runeCount_chars {cs : List (List UInt8)} (hg : Gds cs) : Lib.runeCount (mkB cs.flatten) = cs.length := by
  have key : ∀ (cs : List (List UInt8)) (p : List UInt8) (k : Nat), Gds cs → cs.flatten.length ≤ k → Lib.runeCountFrom (mkB (p ++ cs.flatten)) k p.length = cs.length := by
    intro cs
    induction cs with
    | nil => intro p k _ _; exact Lib.runeCountFrom_end _ _ _ (by simp)
    | cons c cs ih =>
      intro p k hg hk
      obtain ⟨r, hc, -⟩ := hg c (by simp)
      have hl := hc.len
      rw [List.flatten_cons, List.length_append] at hk
      obtain ⟨k, rfl⟩ : ∃ m, k = m + 1 := ⟨k - 1, by omega⟩
      unfold Lib.runeCountFrom
      rw [if_pos (by rw [mkB_size, List.flatten_cons]; simp; omega), decode_drop, List.drop_left, List.flatten_cons, dec_ch hc, ← List.append_assoc]
      have := ih (p ++ c) k (fun x hx => hg x (by simp [hx])) (by omega)
      rw [List.length_append] at this
      rw [this]
      simp
      omega
  have := key cs [] cs.flatten.length hg (Nat.le_refl _)
  unfold Lib.runeCount
  rw [mkB_size]
  simpa using this
theorem count_chars {cs : List (List UInt8)} (hg : Gds cs) (q : Int × Int) : (cs.foldl pstep q).1 = q.1 + (Lib.countByte cs.flatten 10 : Nat) := by
  unfold Lib.countByte
  induction cs generalizing q with
  | nil => simp
  | cons c cs ih =>
    rw [List.foldl_cons, ih (fun x hx => hg x (by simp [hx])), List.flatten_cons, List.count_append]
    unfold pstep
    by_cases hc : c = [10]
    · subst hc; simp; omega
    · rw [if_neg hc, List.count_eq_zero.2 ((hg c (by simp)).ne10 hc)]; simp
theorem last_split (pre : List (List UInt8)) : ([10] ∉ pre) ∨ ∃ p1 p2, pre = p1 ++ [10] :: p2 ∧ [10] ∉ p2 := by
  induction pre with
  | nil => left; simp
  | cons c pre ih =>
    rcases ih with h | ⟨p1, p2, e, h⟩
    · by_cases hc : c = [10]
      · right; exact ⟨[], pre, by rw [hc]; rfl, h⟩
      · left; simp [h, Ne.symm hc]
    · right; exact ⟨c :: p1, p2, by rw [e]; rfl, h⟩
theorem no10 {cs : List (List UInt8)} (hg : Gds cs) (h : [10] ∉ cs) : 10 ∉ cs.flatten := by
  intro hm
  obtain ⟨c, hc, hm⟩ := List.mem_flatten.1 hm
  exact (hg c hc).ne10 (fun e => h (by rw [← e]; exact hc)) hm
theorem get_data (l : List UInt8) (i : Nat) : (mkB l).data[i]! = l.getD i 0 := get_mkB l i
theorem lastIdx_none {l : List UInt8} (h : 10 ∉ l) : Lib.lastIndexByte (mkB l) 10 = -1 := by
  unfold Lib.lastIndexByte
  rcases Lib.lastIdx_spec (mkB l) 10 (mkB l).size with h1 | ⟨i, h1, h2, h3, h4⟩
  · exact h1.1
  · rw [mkB_size] at h1
    rw [get_data, List.getD_eq_getElem?_getD, List.getElem?_eq_getElem h1] at h3
    exfalso
    apply h
    have : l[i] = 10 := by
      apply UInt8.toNat_inj.1
      have h3' : (l[i].toNat : Int) = 10 := by simpa using h3
      show l[i].toNat = 10
      omega
    rw [← this]
    exact List.getElem_mem h1
theorem lastIdx_some {l m : List UInt8} (h : 10 ∉ m) : Lib.lastIndexByte (mkB (l ++ 10 :: m)) 10 = (l.length : Int) := by
  unfold Lib.lastIndexByte
  have hat : (l ++ 10 :: m).getD l.length 0 = 10 := by simp [List.getD_eq_getElem?_getD]
  rcases Lib.lastIdx_spec (mkB (l ++ 10 :: m)) 10 (mkB (l ++ 10 :: m)).size with h1 | ⟨i, h1, h2, h3, h4⟩
  · have := h1.2 l.length (by simp)
    rw [get_data, hat] at this
    exact absurd rfl this
  · rw [h2]
    rw [mkB_size] at h1 h4
    rcases Nat.lt_trichotomy i l.length with hi | hi | hi
    · have := h4 l.length hi (by simp)
      rw [get_data, hat] at this
      exact absurd rfl this
    · rw [hi]
    · exfalso
      rw [get_data, List.getD_eq_getElem?_getD, List.getElem?_eq_getElem h1] at h3
      have h5 : (l ++ 10 :: m)[i] = 10 := by
        apply UInt8.toNat_inj.1
        have h3' : ((l ++ 10 :: m)[i].toNat : Int) = 10 := by simpa using h3
        show (l ++ 10 :: m)[i].toNat = 10
        omega
      rw [List.getElem_append_right (by omega)] at h5
      obtain ⟨j, hj⟩ : ∃ j, i - l.length = j + 1 := ⟨i - l.length - 1, by omega⟩
      simp only [hj, List.getElem_cons_succ] at h5
      exact h (by rw [← h5]; exact List.getElem_mem _)
/-- What the position of a place is reckoned from. -/
theorem col_chars {pre : List (List UInt8)} (hg : Gds pre) : ∃ m : Nat, Lib.lastIndexByte (mkB pre.flatten) 10 + 1 = (m : Int) ∧ m ≤ pre.flatten.length ∧ (Lib.runeCount (mkB (pre.flatten.drop m)) : Int) + 1 = (place pre).2 := by
  rcases last_split pre with h | ⟨p1, p2, e, h⟩
  · refine ⟨0, by rw [lastIdx_none (no10 hg h)]; rfl, Nat.zero_le _, ?_⟩
    rw [List.drop_zero, runeCount_chars hg]
    unfold place
    rw [fold_line h]
    simp
    omega
  · have hg2 : Gds p2 := fun x hx => hg x (by rw [e]; simp [hx])
    have hf : pre.flatten = p1.flatten ++ 10 :: p2.flatten := by rw [e]; simp
    refine ⟨p1.flatten.length + 1, by rw [hf, lastIdx_some (no10 hg2 h)]; rfl, by rw [hf]; simp, ?_⟩
    have hd : pre.flatten.drop (p1.flatten.length + 1) = p2.flatten := by
      rw [hf, ← List.drop_drop, List.drop_left]
      rfl
    rw [hd, runeCount_chars hg2]
    unfold place
    rw [e, List.foldl_append, List.foldl_cons]
    generalize p1.foldl pstep (1, 1) = q
    have : pstep q [10] = (q.1 + 1, 1) := by simp [pstep]
    rw [this, fold_line h]
    simp
    omega
end Go.Proofs.YtnkbddljndfpnaaDoorF
