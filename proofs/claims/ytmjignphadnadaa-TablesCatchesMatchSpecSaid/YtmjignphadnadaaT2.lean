/- Plain laws of the tables, 2: lines. -/
import Derived.Test.YtmjignphadnadaaT1
set_option linter.unusedVariables false
set_option linter.unusedSimpArgs false
namespace Go.Proofs.YtmjignphadnadaaF
open Go Go.Proofs

theorem ne00 {c : Int × Int} (h : c ≠ (0, 0)) : (!(((c.1 : Int) == 0) && (((c.2 : Int) == 0) && true))) = true := by
  obtain ⟨a, b⟩ := c
  by_cases ha : a = 0
  · by_cases hb : b = 0
    · subst ha; subst hb; exact absurd rfl h
    · simp [hb]
  · simp [ha]
/-- The line of the last mark that is not behind 'at'. -/
def lineAt (l : List (Int × Int)) (at_ : Int) : Int := l.foldl (fun a x => if x.1 ≤ at_ then x.2 else a) 0
theorem s11 {n : Nat} (l : List (Int × Int)) (at_ : Int) (hl : l.length ≤ 60000) (hn : 60010 ≤ n) : p11 n l at_ = some (lineAt l at_) := by
  obtain ⟨n, rfl⟩ : ∃ m, n = m + 1 := ⟨n - 1, by omega⟩
  rw [p11, loop_list l (fun a x => if x.1 ≤ at_ then x.2 else a) 0 n (lineAt l at_, (l.length : Int)) (by omega) ?_ ?_]
  · rfl
  · intro i x hx
    have hi := (List.getElem?_eq_some_iff.1 hx).1
    unfold pb11_1
    rw [if_pos (by simp; omega)]
    simp only [pj]
    rw [rd_nat hx, wr (by omega) (by omega)]
    by_cases h : x.1 ≤ at_ <;> simp [h]
  · unfold pb11_1
    rw [if_neg (by simp)]
    rfl
/-- Marks that change nothing are left out. -/
def mergeS (acc : List (Int × Int)) (x : Int × Int) : List (Int × Int) := match acc.getLast? with
  | none => acc ++ [x]
  | some q => if q.2 ≠ x.2 then acc ++ [x] else acc
theorem mergeS_length (acc : List (Int × Int)) (x : Int × Int) : (mergeS acc x).length ≤ acc.length + 1 := by
  unfold mergeS
  split
  · simp
  · split <;> simp
theorem merge_length (l : List (Int × Int)) : ∀ acc, (l.foldl mergeS acc).length ≤ acc.length + l.length := by
  induction l with
  | nil => simp
  | cons x l ih =>
    intro acc
    have := ih (mergeS acc x)
    have := mergeS_length acc x
    simp only [List.foldl_cons, List.length_cons]
    omega
def mergeL (l : List (Int × Int)) : List (Int × Int) := l.foldl mergeS []
theorem s7 {n : Nat} (l : List (Int × Int)) (hn : 60020 ≤ n) : p7 n l = some (if chkM l = (0, 0) then (mergeL l, (0, 0)) else ([], chkM l)) := by
  obtain ⟨n, rfl⟩ : ∃ m, n = m + 1 := ⟨n - 1, by omega⟩
  rw [p7, s27 l (by omega)]
  simp only [Option.bind_some]
  by_cases h0 : chkM l = (0, 0)
  · have hlen : l.length ≤ 60000 := by
      refine Nat.le_of_not_lt fun h => ?_
      unfold chkM at h0
      rw [if_pos (by omega)] at h0
      cases h0
    rw [if_pos h0, h0, if_neg (by simp), loop_list l mergeS [] n (mergeL l, (l.length : Int)) (by omega) ?_ ?_]
    · rfl
    · intro i x hx
      have hi := (List.getElem?_eq_some_iff.1 hx).1
      have hml := merge_length (l.take i) []
      have htl := List.length_take_le i l
      generalize hacc : List.foldl mergeS [] (l.take i) = acc at hml
      simp at hml
      unfold pb7_1
      rw [if_pos (by simp; omega)]
      simp only [pj]
      rw [rd_nat hx, wr (x := (i : Int) + 1) (by omega) (by omega)]
      have hap : ∀ {ρ : Type} (K : List (Int × Int) → Option ρ), apP 16 acc [(x.1, x.2)] K = K (acc ++ [(x.1, x.2)]) := fun K => apP_ok (by simp; omega)
      by_cases he : acc = []
      · subst he
        simp [hap, mergeS]
      · have hlen0 : acc.length ≠ 0 := by simpa using he
        have hw : IntKind.wrap .i64 ((acc.length : Int) - 1) = ((acc.length - 1 : Nat) : Int) := by rw [wr (by omega) (by omega)]; omega
        have hq : acc[acc.length - 1]? = some (acc.getLast he) := by rw [← List.getLast?_eq_some_getLast he, List.getLast?_eq_getElem?]
        rw [if_neg (by simp; exact he), hw, rd_nat hq]
        unfold mergeS
        rw [List.getLast?_eq_some_getLast he]
        by_cases hne : (acc.getLast he).2 = x.2
        · simp [hne]
        · simp [hne, hap]
    · unfold pb7_1
      rw [if_neg (by simp)]
      rfl
  · rw [if_neg h0, if_pos (ne00 h0)]
theorem chkM_ok {l : List (Int × Int)} (h : chkM l = (0, 0)) : l.length ≤ 60000 ∧ ∀ (i : Nat) x, l[i]? = some x → 0 ≤ x.1 ∧ x.1 < 60000 ∧ 1 ≤ x.2 ∧ x.2 ≤ 16000 ∧ (i = 0 → x.1 = 0) ∧ (∀ y, 0 < i → l[i - 1]? = some y → y.1 < x.1) := by
  have hlen : l.length ≤ 60000 := by
    refine Nat.le_of_not_lt fun h' => ?_
    unfold chkM at h
    rw [if_pos (by omega)] at h
    cases h
  refine ⟨hlen, fun i x hx => ?_⟩
  unfold chkM at h
  rw [if_neg (by omega)] at h
  have hi := (List.getElem?_eq_some_iff.1 hx).1
  have hf := firstBad_ok (by rw [h]) i hi
  unfold mkf at hf
  rw [List.getD_eq_getElem?_getD, hx] at hf
  simp only [Option.getD_some] at hf
  split at hf
  · cases hf
  · rename_i g1
    split at hf
    · cases hf
    · rename_i g2
      refine ⟨by omega, by omega, by omega, by omega, fun h0 => by omega, fun y h0 hy => ?_⟩
      rw [List.getD_eq_getElem?_getD, hy] at g2
      simp only [Option.getD_some] at g2
      omega
/-- Marks without a fault come in increasing order. -/
theorem chkM_lt {l : List (Int × Int)} (h : chkM l = (0, 0)) : ∀ (d i : Nat) x y, l[i]? = some x → l[i + d + 1]? = some y → x.1 < y.1
  | 0, i, x, y, hx, hy => ((chkM_ok h).2 _ y hy).2.2.2.2.2 x (by omega) (by simpa using hx)
  | d + 1, i, x, y, hx, hy => by
    have hj := (List.getElem?_eq_some_iff.1 hy).1
    have hz := get_of_lt (show i + d + 1 < l.length by omega)
    have h1 := chkM_lt h d i x _ hx hz
    have h2 := ((chkM_ok h).2 _ y hy).2.2.2.2.2 _ (by omega) (show l[i + (d + 1) + 1 - 1]? = some l[i + d + 1] from hz)
    omega
theorem chkM_mono {l : List (Int × Int)} (h : chkM l = (0, 0)) {i j : Nat} {x y : Int × Int} (hx : l[i]? = some x) (hy : l[j]? = some y) (hij : i < j) : x.1 < y.1 := by
  have := chkM_lt h (j - i - 1) i x y hx (by rw [show i + (j - i - 1) + 1 = j by omega]; exact hy)
  exact this
theorem s30 {n : Nat} (hn : 0 < n) (x : Int × Int) (a : Int) (h : -9223372036854775808 ≤ x.1 - a) (h' : x.1 - a ≤ 9223372036854775807) : p30 n x a = some (x.1 - a) := by
  obtain ⟨n, rfl⟩ : ∃ m, n = m + 1 := ⟨n - 1, by omega⟩
  rw [p30, wr h h']
/-- How many marks lie ahead of 'at'. -/
def cntLt (l : List (Int × Int)) (at_ : Int) : Nat := (l.filter fun x => x.1 < at_).length
/-- The search among increasing marks ends at the number of those ahead. -/
theorem s29 {n : Nat} (l : List (Int × Int)) (at_ : Int) (hc : chkM l = (0, 0)) (ha : 0 ≤ at_ ∧ at_ < 60000) (hn : 60010 ≤ n) :
    ∃ k : Nat, k ≤ l.length ∧ (∀ j x, j < k → l[j]? = some x → x.1 < at_) ∧ (∀ j x, k ≤ j → l[j]? = some x → at_ ≤ x.1) ∧
      p29_30 n l at_ = some ((k : Int), match l[k]? with | some x => x.1 == at_ | none => false) := by
  obtain ⟨n, rfl⟩ : ∃ m, n = m + 1 := ⟨n - 1, by omega⟩
  obtain ⟨hlen, hok⟩ := chkM_ok hc
  have key : ∀ (d m : Nat) (i j : Nat), j - i ≤ d → d < m → i ≤ j → j ≤ l.length → (∀ k x, k < i → l[k]? = some x → x.1 < at_) → (∀ k x, j ≤ k → l[k]? = some x → at_ ≤ x.1) →
      ∃ k : Nat, k ≤ l.length ∧ (∀ j x, j < k → l[j]? = some x → x.1 < at_) ∧ (∀ j x, k ≤ j → l[j]? = some x → at_ ≤ x.1) ∧ loopP (pb29_30_1 n l at_) m ((i : Int), (j : Int)) = some ((k : Int), (k : Int)) := by
    intro d
    induction d with
    | zero =>
      intro m i j h1 h2 h3 h4 h5 h6
      obtain ⟨m, rfl⟩ : ∃ k, m = k + 1 := ⟨m - 1, by omega⟩
      have : i = j := by omega
      subst this
      refine ⟨i, h4, h5, h6, ?_⟩
      unfold loopP pb29_30_1
      simp
    | succ d ih =>
      intro m i j h1 h2 h3 h4 h5 h6
      obtain ⟨m, rfl⟩ : ∃ k, m = k + 1 := ⟨m - 1, by omega⟩
      by_cases hij : i = j
      · subst hij
        refine ⟨i, h4, h5, h6, ?_⟩
        unfold loopP pb29_30_1
        simp
      · unfold loopP
        have hmid : (i + j) / 2 < l.length := by omega
        have hx := get_of_lt hmid
        have hb := hok _ _ hx
        generalize l[(i + j) / 2] = x at hx hb
        have e1 : IntKind.wrap .u64 (IntKind.wrap .i64 ((i : Int) + j)) = (i : Int) + j := by
          rw [wr (by omega) (by omega)]
          rw [IntWalk.u64_in _ (by omega)]
        have e2 : shrP (ρ := (Int × Int) ⊕ (Int × Int)) .u64 ((i : Int) + j) 1 = fun K => K (((i + j) / 2 : Nat) : Int) := by
          funext K
          unfold shrP
          rw [if_neg (by omega)]
          congr 1
          show ((i : Int) + j).fdiv 2 = _
          rw [Int.fdiv_eq_ediv_of_nonneg _ (by omega)]
          omega
        have e3 : IntKind.wrap .i64 (((i + j) / 2 : Nat) : Int) = (((i + j) / 2 : Nat) : Int) := wr (by omega) (by omega)
        have hbody : pb29_30_1 n l at_ ((i : Int), (j : Int)) = some (.inl (if x.1 < at_ then ((((i + j) / 2 + 1 : Nat) : Int), (j : Int)) else ((i : Int), (((i + j) / 2 : Nat) : Int)))) := by
          unfold pb29_30_1
          rw [if_pos (by simp; omega)]
          dsimp only
          rw [e1, e2]
          dsimp only
          rw [e3, rd_nat hx, s30 (by omega) _ _ (by dsimp only; omega) (by dsimp only; omega)]
          simp only [Option.bind_some]
          by_cases hlt : x.1 < at_
          · rw [if_pos (by simp; omega), if_pos hlt, wr (by omega) (by omega)]
            rfl
          · rw [if_neg (by simp; omega), if_neg hlt]
        rw [hbody]
        dsimp only
        by_cases hlt : x.1 < at_
        · rw [if_pos hlt]
          refine ih m ((i + j) / 2 + 1) j (by omega) (by omega) (by omega) h4 (fun k y hk hy => ?_) h6
          by_cases hk' : k = (i + j) / 2
          · subst hk'
            rw [hx] at hy
            injection hy with hy
            subst hy
            exact hlt
          · have := chkM_mono hc hy hx (by omega)
            omega
        · rw [if_neg hlt]
          refine ih m i ((i + j) / 2) (by omega) (by omega) (by omega) (by omega) h5 (fun k y hk hy => ?_)
          by_cases hk' : k = (i + j) / 2
          · subst hk'
            rw [hx] at hy
            injection hy with hy
            subst hy
            omega
          · have := chkM_mono hc hx hy (by omega)
            omega
  obtain ⟨k, k1, k2, k3, k4⟩ := key l.length n 0 l.length (by omega) (by omega) (by omega) (by omega) (fun k x h => by omega) (fun k x h hx => by
    have := (List.getElem?_eq_some_iff.1 hx).1
    omega)
  refine ⟨k, k1, k2, k3, ?_⟩
  rw [p29_30]
  rw [show ((0 : Int), (l.length : Int)) = (((0 : Nat) : Int), (l.length : Int)) from rfl, k4]
  simp only [Option.bind_some, pj]
  by_cases hk : k < l.length
  · have hx := get_of_lt hk
    have hb := hok _ _ hx
    rw [if_pos (by simp; omega), rd_nat hx, hx, s30 (by omega) _ _ (by dsimp only; omega) (by dsimp only; omega)]
    simp only [Option.bind_some]
    congr 2
    rw [Bool.eq_iff_iff]
    simp
    omega
  · rw [if_neg (by simp; omega)]
    have : l[k]? = none := by simp; omega
    rw [this]
/-- The marks that are not behind 'at' are those up to a place. -/
theorem lineAt_split {l : List (Int × Int)} {at_ : Int} {k : Nat} {x : Int × Int} (hx : l[k]? = some x) (h1 : x.1 ≤ at_) (h2 : ∀ j y, k < j → l[j]? = some y → ¬ y.1 ≤ at_) : lineAt l at_ = x.2 := by
  have hk := (List.getElem?_eq_some_iff.1 hx).1
  have e : l = (l.take k ++ [x]) ++ l.drop (k + 1) := by
    rw [← take_succ hx, List.take_append_drop]
  unfold lineAt
  rw [e, List.foldl_append, List.foldl_append]
  simp only [List.foldl_cons, List.foldl_nil, if_pos h1]
  have : ∀ (m : List (Int × Int)) (a : Int), (∀ y ∈ m, ¬ y.1 ≤ at_) → m.foldl (fun a x => if x.1 ≤ at_ then x.2 else a) a = a := by
    intro m
    induction m with
    | nil => intros; rfl
    | cons z m ih =>
      intro a hm
      simp only [List.foldl_cons, if_neg (hm z (by simp))]
      exact ih a fun y hy => hm y (by simp [hy])
  refine this _ _ fun y hy => ?_
  obtain ⟨j, hj⟩ := List.mem_iff_getElem?.1 hy
  rw [List.getElem?_drop] at hj
  exact h2 _ y (by omega) hj
/-- The line of an instruction. -/
theorem s6_ok {n : Nat} (l : List (Int × Int)) (at_ : Int) (hc : chkM l = (0, 0)) (hn : 60030 ≤ n) :
    p6 n l at_ = some (if at_ < 0 ∨ at_ ≥ 60000 then (0, (4, -2)) else if l = [] then (0, (12, -2)) else (lineAt l at_, (0, 0))) := by
  obtain ⟨n, rfl⟩ : ∃ m, n = m + 1 := ⟨n - 1, by omega⟩
  obtain ⟨hlen, hok⟩ := chkM_ok hc
  rw [p6, s27 l (by omega), hc]
  simp only [Option.bind_some, pj]
  by_cases ha : at_ < 0 ∨ at_ ≥ 60000
  · rw [if_pos ha]
    by_cases h0 : at_ < 0
    · simp [h0, s28 (show 0 < n by omega)]
    · have : at_ ≥ 60000 := by omega
      simp [h0, this, s28 (show 0 < n by omega)]
  · rw [if_neg ha]
    have a1 : decide (at_ < 0) = false := by simp; omega
    have a2 : decide (at_ ≥ 60000) = false := by simp; omega
    rw [a1, a2]
    obtain ⟨k, k1, k2, k3, k4⟩ := s29 (n := n) l at_ hc (by omega) (by omega)
    rw [k4]
    simp only [Option.bind_some, Bool.false_eq_true, if_false]
    by_cases hk : ∃ x, l[k]? = some x ∧ x.1 = at_
    · obtain ⟨x, hx, hxa⟩ := hk
      have hne : l ≠ [] := by rintro rfl; simp at hx
      rw [hx]
      have : (x.1 == at_) = true := by simp [hxa]
      simp only [this, Bool.not_true, Bool.false_eq_true, if_false]
      rw [if_neg (by simp), rd_nat hx, if_neg hne, lineAt_split hx (by omega) (fun j y hj hy => by have := chkM_mono hc hx hy hj; omega)]
      rw [if_neg (by simp)]
    · have hb : (match l[k]? with | some x => x.1 == at_ | none => false) = false := by
        split
        · rename_i x hx
          simp
          exact fun h => hk ⟨x, hx, h⟩
        · rfl
      rw [hb]
      simp only [Bool.not_false, if_true]
      have hkl : k ≤ l.length := k1
      rw [wr (by omega) (by omega)]
      by_cases hk0 : k = 0
      · subst hk0
        have hnil : l = [] := by
          cases l with
          | nil => rfl
          | cons x l =>
            have g := hok 0 x rfl
            have g0 := k3 0 x (by omega) rfl
            have g1 := g.2.2.2.2.1 rfl
            exact absurd ⟨x, rfl, by omega⟩ hk
        rw [if_pos (show decide ((((0 : Nat) : Int) - 1) < 0) = true by decide), s28 (by omega), if_pos hnil]
        rfl
      · have hx := get_of_lt (show k - 1 < l.length by omega)
        have hne : l ≠ [] := by rintro rfl; exact hk0 (by simpa using hkl)
        have e : (k : Int) - 1 = ((k - 1 : Nat) : Int) := by omega
        have hlt : decide (((k - 1 : Nat) : Int) < 0) = false := by simp
        have h1 := k2 (k - 1) _ (by omega) hx
        have hs : lineAt l at_ = (l[k - 1]'(by omega)).2 := lineAt_split hx (by omega) fun j y hj hy => by
          have hjl := (List.getElem?_eq_some_iff.1 hy).1
          have h2 := k3 j y (by omega) hy
          by_cases hjk : j = k
          · subst hjk
            intro h3
            exact hk ⟨y, hy, by omega⟩
          · have hz := get_of_lt (show k < l.length by omega)
            have h4 := k3 k _ (by omega) hz
            have h5 := chkM_mono hc hz hy (by omega)
            omega
        rw [e, hlt]
        simp only [Bool.false_eq_true, if_false]
        rw [rd_nat hx, if_neg hne, hs, if_neg (by decide)]
theorem s6_bad {n : Nat} (l : List (Int × Int)) (at_ : Int) (hc : chkM l ≠ (0, 0)) (hn : 60030 ≤ n) : p6 n l at_ = some (0, chkM l) := by
  obtain ⟨n, rfl⟩ : ∃ m, n = m + 1 := ⟨n - 1, by omega⟩
  rw [p6, s27 l (by omega)]
  simp only [Option.bind_some]
  rw [if_pos (ne00 hc)]
end Go.Proofs.YtmjignphadnadaaF
