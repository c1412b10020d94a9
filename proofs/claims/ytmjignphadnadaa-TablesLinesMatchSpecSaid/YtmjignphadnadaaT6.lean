/- Plain laws of the tables, 6: the law of lines. -/
import Derived.Test.YtmjignphadnadaaT5
import Derived.Test.YtmjignphadnadaaQ3
set_option linter.unusedVariables false
set_option linter.unusedSimpArgs false
namespace Go.Proofs.YtmjignphadnadaaF
open Go Go.Proofs

theorem chkM_ne {l : List (Int × Int)} (h : chkM l ≠ (0, 0)) : (chkM l).1 ≠ 0 := by
  unfold chkM at h ⊢
  split
  · decide
  · rename_i hl
    rw [if_neg hl] at h
    rcases first_or (fun i => mkf l i ≠ 0) l.length with h1 | ⟨j, h1, h2, h3⟩
    · rw [firstBad_none (fun i hi => by simpa using h1 i hi)] at h
      exact absurd rfl h
    · rw [firstBad_some h1 h2 (fun i hi => by simpa using h3 i hi)]
      exact h2
theorem lineAt_snoc (l : List (Int × Int)) (x : Int × Int) (a : Int) : lineAt (l ++ [x]) a = if x.1 ≤ a then x.2 else lineAt l a := by
  unfold lineAt
  rw [List.foldl_append]
  rfl
/-- Marks next to each other have different lines. -/
def adj (m : List (Int × Int)) : Prop := ∀ (i : Nat) x y, m[i]? = some x → m[i + 1]? = some y → x.2 ≠ y.2
theorem mergeL_snoc (l : List (Int × Int)) (x : Int × Int) : mergeL (l ++ [x]) = mergeS (mergeL l) x := by
  unfold mergeL
  rw [List.foldl_append]
  rfl
theorem merge_inv {l : List (Int × Int)} (hc : chkM l = (0, 0)) : ∀ i, i ≤ l.length → (∀ a, lineAt (mergeL (l.take i)) a = lineAt (l.take i) a) ∧ (∀ y ∈ mergeL (l.take i), y ∈ l.take i) ∧ adj (mergeL (l.take i))
  | 0, _ => by
    simp only [List.take_zero]
    exact ⟨fun _ => rfl, fun y h => h, fun i x y h => by simp [mergeL] at h⟩
  | i + 1, h => by
    obtain ⟨h1, h2, h3⟩ := merge_inv hc i (by omega)
    have hx := get_of_lt (show i < l.length by omega)
    rw [take_succ hx, mergeL_snoc]
    generalize hm : mergeL (l.take i) = m at h1 h2 h3
    have hlast : ∀ q ∈ m, q.1 < (l[i]'(by omega)).1 := fun q hq => by
      obtain ⟨j, hj⟩ := List.mem_iff_getElem?.1 (h2 q hq)
      rw [List.getElem?_take] at hj
      split at hj
      · exact chkM_mono hc hj hx (by omega)
      · cases hj
    generalize l[i]'(by omega) = x at hx hlast
    have app : (m = [] ∨ ∃ q, m.getLast? = some q ∧ q.2 ≠ x.2) → (∀ a, lineAt (m ++ [x]) a = lineAt (l.take i ++ [x]) a) ∧ (∀ y ∈ m ++ [x], y ∈ l.take i ++ [x]) ∧ adj (m ++ [x]) := by
      intro hq
      refine ⟨fun a => by rw [lineAt_snoc, lineAt_snoc, h1], fun y hy => ?_, fun j u v hu hv => ?_⟩
      · rcases List.mem_append.1 hy with h | h
        · exact List.mem_append_left _ (h2 y h)
        · exact List.mem_append_right _ h
      · have hj := (List.getElem?_eq_some_iff.1 hv).1
        simp at hj
        by_cases hjm : j + 1 < m.length
        · rw [List.getElem?_append_left (by omega)] at hu hv
          exact h3 j u v hu hv
        · have e : j + 1 = m.length := by omega
          rw [List.getElem?_append_left (by omega)] at hu
          rw [List.getElem?_append_right (by omega), show j + 1 - m.length = 0 by omega] at hv
          injection hv with hv
          subst hv
          rcases hq with rfl | ⟨q, hq1, hq2⟩
          · simp at hu
          · rw [List.getLast?_eq_getElem?, ← e, show j + 1 - 1 = j by omega, hu] at hq1
            injection hq1 with hq1
            subst hq1
            exact hq2
    unfold mergeS
    split
    · rename_i hn
      exact app (.inl (List.getLast?_eq_none_iff.1 hn))
    · rename_i q hq
      by_cases he : q.2 = x.2
      · rw [if_neg (by simpa using he)]
        have hqm : q ∈ m := List.mem_of_getLast? hq
        refine ⟨fun a => ?_, fun y hy => List.mem_append_left _ (h2 y hy), h3⟩
        rw [lineAt_snoc]
        split
        · rename_i hxa
          rw [← he]
          have hml : m ≠ [] := by rintro rfl; cases hq
          have hlen : 0 < m.length := List.length_pos_iff.2 hml
          rw [List.getLast?_eq_getElem?] at hq
          exact lineAt_split hq (by have := hlast q hqm; omega) fun j y hj hy => by
            have := (List.getElem?_eq_some_iff.1 hy).1
            omega
        · exact h1 a
      · rw [if_pos (by simpa using he)]
        exact app (.inr ⟨q, hq, he⟩)
theorem mergeL_line {l : List (Int × Int)} (hc : chkM l = (0, 0)) (a : Int) : lineAt (mergeL l) a = lineAt l a := by
  have := (merge_inv hc l.length (Nat.le_refl _)).1 a
  rwa [List.take_length] at this
theorem mergeL_adj {l : List (Int × Int)} (hc : chkM l = (0, 0)) : adj (mergeL l) := by
  have := (merge_inv hc l.length (Nat.le_refl _)).2.2
  rwa [List.take_length] at this
theorem mergeL_length (l : List (Int × Int)) : (mergeL l).length ≤ l.length := by
  have := merge_length l []
  simpa [mergeL] using this

theorem l3_1 {n : Nat} (l : List (Int × Int)) (f : Int × Int) (hc : chkM l = (0, 0)) (hn : 60010 ≤ n) : loopP (pb3_1 n (mergeL l, f)) n 0 = some (.inl ((mergeL l).length : Int)) := by
  obtain ⟨hlen, -⟩ := chkM_ok hc
  have hml := mergeL_length l
  have ha := mergeL_adj hc
  generalize mergeL l = m at hml ha
  refine loop_to (s0 := 0) (fun i => (i : Int)) m.length n _ (by omega) (fun i hi => ?_) ?_ rfl
  · have hx := get_of_lt hi
    unfold pb3_1
    dsimp only
    rw [if_pos (by simp; omega), rd_nat hx]
    simp only [pj]
    rw [wr (x := (i : Int) + 1) (by omega) (by omega)]
    by_cases h0 : i = 0
    · subst h0
      simp
    · have hy := get_of_lt (show i - 1 < m.length by omega)
      have hne := ha (i - 1) _ _ hy (by rw [show i - 1 + 1 = i by omega]; exact hx)
      have hw : IntKind.wrap .i64 ((i : Int) - 1) = ((i - 1 : Nat) : Int) := by rw [wr (by omega) (by omega)]; omega
      rw [if_pos (by simp; omega), hw, rd_nat hy]
      have : (m[i].2 == m[i - 1].2) = false := by
        simp
        exact fun h => hne h.symm
      rw [this]
      simp
  · unfold pb3_1
    rw [if_neg (by simp)]
theorem l3_3 {n : Nat} (l : List (Int × Int)) (f : Int × Int) (x : Int × Int) (hc : chkM l = (0, 0)) (hx : -1000000 ≤ x.1 ∧ x.1 ≤ 1000000) (hn : 60020 ≤ n) : loopP (pb3_3 n l (mergeL l, f) x) n 0 = some (.inl 2) := by
  obtain ⟨hlen, -⟩ := chkM_ok hc
  have hml := mergeL_length l
  refine loop_to (s0 := 0) (fun i => (i : Int)) 2 n _ (by omega) (fun i hi => ?_) ?_ rfl
  · have hy := get_of_lt (l := [x.1 - 1, x.1]) (i := i) hi
    unfold pb3_3
    dsimp only
    rw [wr (x := x.1 - 1) (by omega) (by omega), if_pos (by simp; omega), rd_nat hy]
    simp only [pj]
    rw [wr (x := (i : Int) + 1) (by omega) (by omega), s11 _ _ (by omega) (by omega), s11 _ _ (by omega) (by omega), mergeL_line hc]
    simp
  · unfold pb3_3
    rw [if_neg (by simp)]
    rfl
theorem l3_2 {n : Nat} (l : List (Int × Int)) (f : Int × Int) (hc : chkM l = (0, 0)) (hn : 60020 ≤ n) : loopP (pb3_2 n l (mergeL l, f)) n 0 = some (.inl (l.length : Int)) := by
  obtain ⟨hlen, hok⟩ := chkM_ok hc
  refine loop_to (s0 := 0) (fun i => (i : Int)) l.length n _ (by omega) (fun i hi => ?_) ?_ rfl
  · have hx := get_of_lt hi
    have g := hok i _ hx
    unfold pb3_2
    rw [if_pos (by simp; omega), rd_nat hx, l3_3 l f _ hc (by omega) hn]
    simp only [Option.bind_some]
    rw [wr (x := (i : Int) + 1) (by omega) (by omega)]
    rfl
  · unfold pb3_2
    rw [if_neg (by simp)]
theorem law3 (l : List (Int × Int)) (at_ : Int) : p3 1000000 l at_ = some true := by
  obtain ⟨n, hn, e⟩ : ∃ n, 900000 ≤ n ∧ 1000000 = n + 1 := ⟨999999, by omega, rfl⟩
  rw [e, p3]
  by_cases hc : chkM l = (0, 0)
  · obtain ⟨hlen, hok⟩ := chkM_ok hc
    have hpl := packS_length l 0 0
    have hpb : byteL (packS 0 0 l) := packS_byte l 0 0 (by simpa using goodM_of hc l.length 0 0 0 (by omega) (fun _ => ⟨rfl, rfl⟩) (fun x h => by omega))
    rw [s6_ok l at_ hc (by omega), s7 l (by omega), s8 l (by omega), s9 l (by omega), if_pos hc, if_pos hc, hc]
    simp only [Option.bind_some]
    rw [if_neg (by decide)]
    simp only [pj, s10 (show 0 < n by omega), Option.bind_some]
    have t1 := l3_1 (n := n) l (0, 0) hc (by omega)
    have t2 := l3_2 (n := n) l (0, 0) hc (by omega)
    have t3 : p14 n (packS 0 0 l) = some (l, (0, 0)) := by rw [s14 _ hpb (by omega) (by omega), unpack_pack hc]
    have t4 : p15 n l l = some true := by rw [s15 _ _ (by omega) (by omega)]; simp
    have h11 := s11 (n := n) l at_ hlen (by omega)
    have h13 := s13 (n := n) l hc (by omega)
    have h12 : p12 n (packS 0 0 l) (packS 0 0 l) = some true := by rw [s12 _ _ (by omega) (by omega)]; simp
    by_cases ha : at_ < 0 ∨ at_ ≥ 60000
    · rw [if_pos ha]
      by_cases h1 : at_ < 0
      · simp [h1, h12, h13, t1, t2, t3, t4]
      · have h2 : at_ ≥ 60000 := by omega
        simp [h1, h2, h12, h13, t1, t2, t3, t4]
    · rw [if_neg ha]
      have h1 : ¬ at_ < 0 := by omega
      have h2 : ¬ at_ ≥ 60000 := by omega
      by_cases hl : l = []
      · have h3 : (l.length : Int) = 0 := by simp [hl]
        rw [if_pos hl]
        simp [h1, h2, h3, h12, h13, t1, t2, t3, t4]
      · have h3 : ¬ (l.length : Int) = 0 := by simp [hl]
        rw [if_neg hl]
        simp [h1, h2, h3, hl, h11, h12, h13, t1, t2, t3, t4]
  · rw [s6_bad l at_ hc (by omega), s7 l (by omega), s8 l (by omega), s9 l (by omega), if_neg hc, if_neg hc]
    simp only [Option.bind_some]
    rw [if_pos (by simpa using chkM_ne hc)]
    simp [pj]
end Go.Proofs.YtmjignphadnadaaF
