/- Plain laws of the tables, 9: catches unpacked; what was unpacked is packed as the same bytes. -/
import Derived.Test.YtmjignphadnadaaT8
set_option linter.unusedVariables false
set_option linter.unusedSimpArgs false
namespace Go.Proofs.YtmjignphadnadaaF
open Go Go.Proofs

theorem s17 {n : Nat} (x : Int) (h : 0 ≤ x ∧ x < 1000000000000) (hn : 0 < n) : p17 n x = some (unf x) := by
  obtain ⟨n, rfl⟩ : ∃ m, n = m + 1 := ⟨n - 1, by omega⟩
  rw [p17, remP_ok (by omega), Int.tmod_eq_emod_of_nonneg h.1]
  unfold unf
  by_cases hx : x % 2 = 1
  · rw [if_pos (by simpa using hx), if_pos hx, divP_ok (by omega), wr (x := x + 1) (by omega) (by omega), wr (x := 0 - (x + 1)) (by omega) (by omega)]
    have e : (0 - (x + 1)).tdiv 2 = -((x + 1) / 2) := by
      rw [show 0 - (x + 1) = -(x + 1) by omega, Int.neg_tdiv, Int.tdiv_eq_ediv_of_nonneg (by omega)]
    rw [e, wr (by omega) (by omega)]
  · rw [if_neg (by simpa using hx), if_neg hx, divP_ok (by omega), Int.tdiv_eq_ediv_of_nonneg h.1, wr (by omega) (by omega)]
theorem unf_bound {x : Int} (h : 0 ≤ x ∧ x < 2097152) : -2097152 ≤ unf x ∧ unf x ≤ 2097152 := by unfold unf; split <;> omega
def catchesF : Int → List (List Int) → List Ct
  | _, [] => []
  | a, g :: gs =>
    let f := a + unf (g.getD 0 0)
    let to := f + g.getD 1 0
    (f, to, to + unf (g.getD 2 0), g.getD 3 0) :: catchesF f gs
theorem l18_2 (n : Nat) (b : List Int) (hb : byteL b) (hl : b.length ≤ 1000000000) (hn : 10 ≤ n) (x13 : Int) : ∀ (d m at_ : Nat) (arr : List Int), d ≤ 4 → arr.length = 4 → d < m → at_ ≤ b.length →
    ∃ t, loopP (pb18_2 n x13) m (b, (at_ : Int), arr, ((4 - d : Nat) : Int)) = some t ∧ match grpAt b d at_ with
      | some (l, e) => t = .inl (b, (e : Int), arr.take (4 - d) ++ l, 4)
      | none => t = .inr (16, x13)
  | 0, m, at_, arr, h1, h2, h3, h4 => by
    obtain ⟨m, rfl⟩ : ∃ k, m = k + 1 := ⟨m - 1, by omega⟩
    refine ⟨.inl (b, (at_ : Int), arr, 4), ?_, ?_⟩
    · unfold loopP pb18_2
      rw [if_neg (by simp)]
      rfl
    · simp only [grpAt]
      rw [List.take_of_length_le (by omega), List.append_nil]
  | d + 1, m, at_, arr, h1, h2, h3, h4 => by
    obtain ⟨m, rfl⟩ : ∃ k, m = k + 1 := ⟨m - 1, by omega⟩
    have g := s36 (n := n) b at_ hb (by omega) (by omega)
    simp only [grpAt]
    by_cases hk : (numAt b at_).2.1 = true
    · rw [if_pos hk]
      have hi : (((4 - (d + 1) : Nat) : Int)).toNat = 4 - (d + 1) := by omega
      have hbody : pb18_2 n x13 (b, (at_ : Int), arr, ((4 - (d + 1) : Nat) : Int)) = some (.inl (b, ((at_ + (numAt b at_).2.2 : Nat) : Int), arr.set (4 - (d + 1)) (numAt b at_).1, ((4 - d : Nat) : Int))) := by
        unfold pb18_2
        rw [if_pos (by simp; omega)]
        dsimp only
        rw [g, hk]
        simp only [Option.bind_some, Bool.not_true, Bool.false_eq_true, if_false]
        unfold inb stP
        rw [if_pos (by omega), if_pos (by omega), if_pos (by omega), if_pos (by omega), hi, wr (by omega) (by omega)]
        have : ((4 - (d + 1) : Nat) : Int) + 1 = ((4 - d : Nat) : Int) := by omega
        rw [this]
      obtain ⟨t, t1, t2⟩ := l18_2 n b hb hl hn x13 d m (at_ + (numAt b at_).2.2) (arr.set (4 - (d + 1)) (numAt b at_).1) (by omega) (by simpa using h2) (by omega) (numAt_le b at_ h4)
      refine ⟨t, ?_, ?_⟩
      · unfold loopP
        rw [hbody]
        exact t1
      · have ht : (arr.set (4 - (d + 1)) (numAt b at_).1).take (4 - d) = arr.take (4 - (d + 1)) ++ [(numAt b at_).1] := by
          rw [show 4 - d = (4 - (d + 1)) + 1 by omega, take_succ (x := (numAt b at_).1) (by rw [List.getElem?_set_self (by omega)]), List.take_set_of_le (Nat.le_refl _)]
        rw [ht] at t2
        revert t2
        cases grpAt b d (at_ + (numAt b at_).2.2) with
        | none => exact id
        | some q =>
          obtain ⟨l, e⟩ := q
          intro h
          rw [h]
          simp
    · rw [if_neg hk]
      refine ⟨.inr (16, x13), ?_, rfl⟩
      unfold loopP
      have hbody : pb18_2 n x13 (b, (at_ : Int), arr, ((4 - (d + 1) : Nat) : Int)) = some (.inr (.inr (16, x13))) := by
        have hk' : (numAt b at_).2.1 = false := by simpa using hk
        unfold pb18_2
        rw [if_pos (by simp; omega)]
        dsimp only
        rw [g, hk']
        simp only [Option.bind_some, Bool.not_false, if_true, s28 (show 0 < n by omega)]
      rw [hbody]
theorem l18 (n : Nat) (b : List Int) (hb : byteL b) (hl : b.length ≤ 1000000000) (hn : 10 ≤ n) : ∀ (f m at_ : Nat) (cs : List Ct) (a : Int), b.length - at_ ≤ f → f < m → at_ ≤ b.length → cs.length ≤ at_ → -2097152 * (at_ : Int) ≤ a → a ≤ 2097152 * at_ →
    ∃ t, loopP (pb18_1 n b) m (b, (at_ : Int), cs, a) = some t ∧ match groupsF b 4 f at_ with
      | .inl gs => ∃ u, t = .inl u ∧ u.2.2.1 = cs ++ catchesF a gs
      | .inr e => t = .inr (16, (e : Int))
  | 0, m, at_, cs, a, h1, h2, h3, h4, h5, h6 => by
    obtain ⟨m, rfl⟩ : ∃ q, m = q + 1 := ⟨m - 1, by omega⟩
    refine ⟨.inl (b, (at_ : Int), cs, a), ?_, by simp [groupsF, catchesF]⟩
    unfold loopP pb18_1
    rw [if_neg (by simp; omega)]
  | f + 1, m, at_, cs, a, h1, h2, h3, h4, h5, h6 => by
    obtain ⟨m, rfl⟩ : ∃ q, m = q + 1 := ⟨m - 1, by omega⟩
    simp only [groupsF]
    by_cases hat : at_ = b.length
    · rw [if_pos hat]
      refine ⟨.inl (b, (at_ : Int), cs, a), ?_, by simp [catchesF]⟩
      unfold loopP pb18_1
      rw [if_neg (by simp; omega)]
    · rw [if_neg hat]
      obtain ⟨t2, q1, q2⟩ := l18_2 n b hb hl hn (at_ : Int) 4 n at_ [0, 0, 0, 0] (Nat.le_refl _) rfl (by omega) h3
      rw [Nat.sub_self, show ((0 : Nat) : Int) = 0 from rfl] at q1
      cases hg : grpAt b 4 at_ with
      | none =>
        rw [hg] at q2
        subst q2
        refine ⟨.inr (16, (at_ : Int)), ?_, rfl⟩
        unfold loopP
        have hbody : pb18_1 n b (b, (at_ : Int), cs, a) = some (.inr (.inr (16, (at_ : Int)))) := by
          unfold pb18_1
          rw [if_pos (by simp; omega)]
          dsimp only
          rw [q1]
          rfl
        rw [hbody]
      | some q =>
        obtain ⟨l, e⟩ := q
        rw [hg] at q2
        subst q2
        have hle := grpAt_le h3 hg
        have hpos := grpAt_pos hb h3 hg
        have hbd := grpAt_bound hb h3 hg
        obtain ⟨n0, n1, n2, n3, rfl⟩ : ∃ n0 n1 n2 n3, l = [n0, n1, n2, n3] := by
          match l, hle.2.2 with
          | [n0, n1, n2, n3], _ => exact ⟨n0, n1, n2, n3, rfl⟩
        have b0 := hbd n0 (by simp)
        have b1 := hbd n1 (by simp)
        have b2 := hbd n2 (by simp)
        have b3 := hbd n3 (by simp)
        have u0 := unf_bound b0
        have u2 := unf_bound b2
        have hbody : pb18_1 n b (b, (at_ : Int), cs, a) = some (.inl (b, (e : Int), cs ++ [(a + unf n0, a + unf n0 + n1, a + unf n0 + n1 + unf n2, n3)], a + unf n0)) := by
          unfold pb18_1
          rw [if_pos (by simp; omega)]
          dsimp only
          rw [q1]
          simp only [Option.bind_some, List.take_zero, List.nil_append]
          unfold inb
          simp only [show ((0 : Int) ≤ 0) = True by simp, show ((0 : Int) < ((4 : Nat) : Int)) = True by simp, show ((0 : Int) ≤ 1) = True by simp, show ((1 : Int) < ((4 : Nat) : Int)) = True by simp, show ((0 : Int) ≤ 2) = True by simp, show ((2 : Int) < ((4 : Nat) : Int)) = True by simp, show ((0 : Int) ≤ 3) = True by simp, show ((3 : Int) < ((4 : Nat) : Int)) = True by simp, if_true]
          rw [rd_int (x := n0) (by omega) rfl, s37 n0 (by omega) (by omega)]
          simp only [Option.bind_some]
          rw [rd_int (x := n1) (by omega) rfl, rd_int (x := n2) (by omega) rfl, s37 n2 (by omega) (by omega)]
          simp only [Option.bind_some]
          rw [rd_int (x := n3) (by omega) rfl, wr (x := a + unf n0) (by omega) (by omega), wr (x := a + unf n0 + n1) (by omega) (by omega), wr (x := a + unf n0 + n1 + unf n2) (by omega) (by omega), apP_ok (by simp; omega)]
        obtain ⟨t, t1, t2⟩ := l18 n b hb hl hn f m e (cs ++ [(a + unf n0, a + unf n0 + n1, a + unf n0 + n1 + unf n2, n3)]) (a + unf n0) (by omega) (by omega) (by omega) (by simp; omega) (by omega) (by omega)
        refine ⟨t, ?_, ?_⟩
        · unfold loopP
          rw [hbody]
          exact t1
        · dsimp only
          revert t2
          cases groupsF b 4 f e with
          | inl gs =>
            rintro ⟨u, hu1, hu2⟩
            exact ⟨u, hu1, by rw [hu2]; simp [catchesF]⟩
          | inr x => exact id
def unpackC (b : List Int) : List Ct × (Int × Int) := match groupsF b 4 b.length 0 with
  | .inr e => ([], (16, (e : Int)))
  | .inl gs => if chkC (catchesF 0 gs) = (0, 0) then (catchesF 0 gs, (0, 0)) else ([], ((chkC (catchesF 0 gs)).1, -1))
theorem s18 {n : Nat} (b : List Int) (hb : byteL b) (hl : b.length ≤ 1000000000) (hn : b.length + 60020 ≤ n) : p18 n b = some (unpackC b) := by
  obtain ⟨n, rfl⟩ : ∃ m, n = m + 1 := ⟨n - 1, by omega⟩
  obtain ⟨t, t1, t2⟩ := l18 n b hb hl (by omega) b.length n 0 [] 0 (by omega) (by omega) (by omega) (by simp) (by omega) (by omega)
  rw [p18]
  rw [show ((0 : Nat) : Int) = 0 from rfl] at t1
  rw [t1]
  unfold unpackC
  revert t2
  cases groupsF b 4 b.length 0 with
  | inr e =>
    rintro rfl
    rfl
  | inl gs =>
    rintro ⟨u, rfl, hu⟩
    simp only [Option.bind_some]
    rw [hu, List.nil_append, s39 _ (by omega)]
    simp only [Option.bind_some]
    by_cases hc : chkC (catchesF 0 gs) = (0, 0)
    · rw [if_pos hc, hc, if_neg (by decide)]
    · rw [if_neg hc, if_pos (ne00 hc), s28 (by omega)]
      rfl
/-- The bytes of groups. -/
theorem grp_bytes {b : List Int} (hb : byteL b) : ∀ {c at_ : Nat} {l : List Int} {e : Nat}, at_ ≤ b.length → grpAt b c at_ = some (l, e) → b.drop at_ = l.flatMap (sept 2) ++ b.drop e
  | 0, at_, l, e, h, hg => by simp [grpAt] at hg; obtain ⟨rfl, rfl⟩ := hg; simp
  | c + 1, at_, l, e, h, hg => by
    simp only [grpAt] at hg
    split at hg
    · rename_i hk
      split at hg
      · rename_i l' e' h'
        simp at hg
        obtain ⟨rfl, rfl⟩ := hg
        have h2 := numAt_ok hb h hk
        have ih := grp_bytes hb (numAt_le b at_ h) h'
        rw [h2.2.2.2, ih]
        simp
      · cases hg
    · cases hg
theorem groups_bytes {b : List Int} (hb : byteL b) (c : Nat) : ∀ {f at_ : Nat} {gs : List (List Int)}, at_ ≤ b.length → b.length - at_ ≤ f → groupsF b (c + 1) f at_ = .inl gs → b.drop at_ = gs.flatMap (fun l => l.flatMap (sept 2)) ∧ ∀ l ∈ gs, l.length = c + 1 ∧ ∀ x ∈ l, 0 ≤ x ∧ x < 2097152
  | 0, at_, gs, h, hf, hg => by
    simp [groupsF] at hg
    subst hg
    rw [List.drop_eq_nil_of_le (by omega)]
    simp
  | f + 1, at_, gs, h, hf, hg => by
    simp only [groupsF] at hg
    split at hg
    · rename_i hat
      injection hg with hg
      subst hg
      rw [List.drop_eq_nil_of_le (by omega)]
      simp
    · split at hg
      · cases hg
      · rename_i l e hgr
        have hle := grpAt_le h hgr
        have hpos := grpAt_pos hb h hgr
        split at hg
        · rename_i gs' hgs
          injection hg with hg
          subst hg
          obtain ⟨i1, i2⟩ := groups_bytes hb c hle.2.1 (by omega) hgs
          refine ⟨by rw [grp_bytes hb h hgr, i1]; simp, fun l' hl' => ?_⟩
          rcases List.mem_cons.1 hl' with rfl | hl'
          · exact ⟨hle.2.2, grpAt_bound hb h hgr⟩
          · exact i2 l' hl'
        · cases hg
theorem packS_marksF : ∀ (ps : List (Int × Int)) (a k : Int), (∀ p ∈ ps, 0 ≤ p.2) → packS a k (marksF a k ps) = (ps.map fun p => [p.1, p.2]).flatMap (fun l => l.flatMap (sept 2))
  | [], _, _, _ => rfl
  | p :: r, a, k, h => by
    simp only [marksF, packS]
    rw [packS_marksF r _ _ fun q hq => h q (by simp [hq])]
    have e1 : a + p.1 - a = p.1 := by omega
    have e2 : k + unf p.2 - k = unf p.2 := by omega
    rw [e1, e2, foldI_unf _ (h p (by simp))]
    simp
theorem packC_catchesF : ∀ (gs : List (List Int)) (a : Int), (∀ l ∈ gs, l.length = 4 ∧ ∀ x ∈ l, 0 ≤ x) → packC a (catchesF a gs) = gs.flatMap (fun l => l.flatMap (sept 2))
  | [], _, _ => rfl
  | g :: gs, a, h => by
    obtain ⟨h1, h2⟩ := h g (by simp)
    match g, h1 with
    | [n0, n1, n2, n3], _ =>
      simp only [catchesF, packC]
      rw [packC_catchesF gs _ fun q hq => h q (by simp [hq])]
      have e1 : a + unf n0 - a = unf n0 := by omega
      have e2 : a + unf n0 + n1 - (a + unf n0) = n1 := by omega
      have e3 : a + unf n0 + n1 + unf n2 - (a + unf n0 + n1) = unf n2 := by omega
      simp only [List.getD_cons_zero, List.getD_cons_succ]
      rw [e1, e2, e3, foldI_unf _ (h2 n0 (by simp)), foldI_unf _ (h2 n2 (by simp))]
      simp
end Go.Proofs.YtmjignphadnadaaF
