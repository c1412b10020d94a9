/- Sources: the laws of places, plain. -/
import Derived.Test.YtnkbddljndfpnaaDoorT6
set_option linter.unusedVariables false
set_option linter.unusedSimpArgs false
namespace Go.Proofs.YtnkbddljndfpnaaDoorF
open Go Go.Proofs
set_option maxRecDepth 100000

section
variable {cs : List (List UInt8)}
theorem lines_len (hg : Gds cs) : (linesL cs.flatten).length = (linesC cs).length := by rw [linesL_chars hg]; simp
theorem p20_bad {n : Nat} {l : List UInt8} (hn : l.length + 100 ≤ n) (hl : l.length ≤ 8796093022000) (h : chk l ≠ (0, 0)) (k c : Int) : p20 n (mkB l) k c = some (0, chk l) := by
  obtain ⟨n, rfl⟩ : ∃ m, n = m + 1 := ⟨n - 1, by omega⟩
  rw [p20, p12_ok (by omega), p13_ok (by omega) hl]
  simp only [Option.bind_some]
  rw [if_pos (by
      have := chk_code l
      simp only [bne_iff_ne, ne_eq]
      intro h'
      exact h (this.1 h'))]
theorem p20_ok {n : Nat} (hg : Gds cs) (hn : cs.flatten.length + 100 ≤ n) (h : chk cs.flatten = (0, 0)) (hl : cs.flatten.length ≤ 16000) {k c : Int} (k1 : -9223372036854775808 ≤ k) (k2 : k ≤ 9223372036854775807) : p20 n (mkB cs.flatten) k c = some (offF cs k c) := by
  obtain ⟨n, rfl⟩ : ∃ m, n = m + 1 := ⟨n - 1, by omega⟩
  rw [p20, p12_ok (by omega), p13_ok (by omega) (by omega)]
  simp only [Option.bind_some]
  rw [h, if_neg (by simp)]
  simp only [pj, List.length_map]
  rw [p17_ok (by omega), p17_ok (by omega), lines_len hg]
  simp only [Option.bind_some]
  unfold offF
  by_cases hk : k < 1
  · rw [if_pos hk]; simp [hk]
  rw [if_neg hk]
  have e1 : decide (k < 1) = false := by simpa using hk
  rw [e1]
  simp only [Bool.false_eq_true, if_false]
  cases hln : (linesC cs)[k.toNat - 1]? with
  | none =>
    have := List.getElem?_eq_none_iff.1 hln
    have e2 : decide (k > ((linesC cs).length : Nat)) = true := by simp; omega
    rw [e2]; rfl
  | some ln =>
    have hlt := (List.getElem?_eq_some_iff.1 hln).1
    have e2 : decide (k > ((linesC cs).length : Nat)) = false := by simp; omega
    have hgl := line_gds hg hln
    have hlo := line_len hg hln
    have hcl := chars_le hgl
    have hrd : ∀ {ρ : Type} (K : ByteArray → Option ρ), rd ((linesL cs.flatten).map mkB) (IntKind.wrap .i64 (k - 1)) K = K (mkB ln.flatten) := fun K => by
      rw [wr (by omega) (by omega)]
      refine rd_int (by omega) ?_
      rw [linesL_chars hg, List.map_map, List.getElem?_map, show (k - 1).toNat = k.toNat - 1 by omega, hln]
      rfl
    rw [e2, hrd, p39_ok hgl (by omega) (by omega)]
    simp only [Option.bind_some, List.length_map, Bool.false_eq_true, if_false]
    rw [wr (by omega) (by omega)]
    by_cases hc1 : c < 1
    · have : c < 1 ∨ (ln.length : Int) + 1 < c := .inl hc1
      rw [if_pos this]; simp [hc1]
    by_cases hc2 : (ln.length : Int) + 1 < c
    · have : c < 1 ∨ (ln.length : Int) + 1 < c := .inr hc2
      rw [if_pos this]
      have e3 : decide (c < 1) = false := by simpa using hc1
      have e4 : decide (c > (ln.length : Int) + 1) = true := by simpa using hc2
      rw [e3, e4]
      rfl
    have hc3 : ¬ (c < 1 ∨ (ln.length : Int) + 1 < c) := by omega
    rw [if_neg hc3]
    have e3 : decide (c < 1) = false := by simpa using hc1
    have e4 : decide (c > (ln.length : Int) + 1) = false := by simpa using hc2
    rw [e3, e4]
    simp only [Bool.false_eq_true, if_false]
    obtain ⟨pre, post, q1, q2, q3⟩ := lines_pre cs.length cs 1 (Nat.le_refl _) (k.toNat - 1) ln hln (c.toNat - 1) (by omega)
    have hpl : place pre = (k, c) := by
      show pre.foldl pstep (1, 1) = _
      rw [q2]
      refine Prod.ext ?_ ?_ <;> simp only <;> omega
    rw [← q3]
    have hple : pre.flatten.length ≤ cs.flatten.length := by rw [q1, List.flatten_append, List.length_append]; omega
    have hwl := wids_length cs.flatten
    obtain ⟨t, e, hq⟩ := loop_inv (body := pb20_1 n (mkB cs.flatten) k c) (fun st => ∃ i : Nat, st = (i : Int) ∧ i ≤ pre.flatten.length) (fun st => cs.flatten.length + 1 - st.toNat)
      (fun r => r = .inr ((pre.flatten.length : Nat) : Int)) (fun st ⟨i, es, hi⟩ => by
        subst es
        unfold pb20_1
        rw [if_pos (by rw [mkB_size, decide_eq_true_eq]; omega)]
        simp only [pj]
        have next : i ≠ pre.flatten.length → (∃ st', (some (Sum.inl (IntKind.wrap .i64 ((i : Int) + 1))) : Option (Int ⊕ (Int ⊕ Int))) = some (.inl st') ∧ (∃ i : Nat, st' = (i : Int) ∧ i ≤ pre.flatten.length) ∧ cs.flatten.length + 1 - st'.toNat < cs.flatten.length + 1 - (i : Int).toNat) := fun hne =>
          ⟨_, rfl, ⟨i + 1, by rw [wr (by omega) (by omega)]; simp, by omega⟩, by rw [wr (by omega) (by omega)]; omega⟩
        have at_ : ∀ pr po, cs = pr ++ po → i = pr.flatten.length → (∃ st', ((p19 n (mkB cs.flatten) (i : Int)).bind fun r194 => if (r194.1 == k) = true then (if (r194.2 == c) = true then some (.inr (.inr (i : Int))) else some (.inl (IntKind.wrap .i64 ((i : Int) + 1)))) else (if false = true then some (.inr (.inr (i : Int))) else (some (.inl (IntKind.wrap .i64 ((i : Int) + 1))) : Option (Int ⊕ (Int ⊕ Int))))) = some (.inl st') ∧ (∃ i : Nat, st' = (i : Int) ∧ i ≤ pre.flatten.length) ∧ cs.flatten.length + 1 - st'.toNat < cs.flatten.length + 1 - (i : Int).toNat) ∨
            ∃ t, ((p19 n (mkB cs.flatten) (i : Int)).bind fun r194 => if (r194.1 == k) = true then (if (r194.2 == c) = true then some (.inr (.inr (i : Int))) else some (.inl (IntKind.wrap .i64 ((i : Int) + 1)))) else (if false = true then some (.inr (.inr (i : Int))) else (some (.inl (IntKind.wrap .i64 ((i : Int) + 1))) : Option (Int ⊕ (Int ⊕ Int))))) = some (.inr t) ∧ t = .inr ((pre.flatten.length : Nat) : Int) := fun pr po ep hip => by
          rw [hip, p19_ok hg (by omega) hl ep]
          simp only [Option.bind_some, Bool.false_eq_true, if_false]
          by_cases hpe : place pr = (k, c)
          · have hpp : pr = pre := place_inj ep q1 (by rw [hpe, hpl])
            rw [hpe, hpp]
            right
            exact ⟨_, by simp, rfl⟩
          · left
            have hne : i ≠ pre.flatten.length := by
              intro h2
              apply hpe
              have hm1 := Mp.at hg (p := pr) (i := i) ⟨⟨po, ep⟩, by omega, fun p' d hp => by
                rw [hp, List.flatten_append, List.length_append, List.flatten_cons, List.flatten_nil, List.append_nil] at hip
                obtain ⟨_, hd, -⟩ := hg d (by rw [ep, hp]; simp)
                have := hd.len
                omega⟩ q1 h2
              rw [hm1]; exact hpl
            rw [← hip]
            have : (if ((place pr).1 == k) = true then (if ((place pr).2 == c) = true then some (.inr (.inr (i : Int))) else some (.inl (IntKind.wrap .i64 ((i : Int) + 1)))) else (some (.inl (IntKind.wrap .i64 ((i : Int) + 1))) : Option (Int ⊕ (Int ⊕ Int)))) = some (.inl (IntKind.wrap .i64 ((i : Int) + 1))) := by
              by_cases h1 : (place pr).1 = k
              · have h2 : ¬ (place pr).2 = c := fun h2 => hpe (Prod.ext h1 h2)
                rw [if_pos (by simpa using h1), if_neg (by simpa using h2)]
              · rw [if_neg (by simpa using h1)]
            rw [this]
            exact next hne
        by_cases hi2 : i < cs.flatten.length
        · obtain ⟨x, hx⟩ : ∃ x, (wids cs.flatten)[i]? = some x := ⟨_, get_of_lt (show i < (wids cs.flatten).length by rw [hwl]; exact hi2)⟩
          rw [if_pos (by rw [mkB_size, decide_eq_true_eq]; omega), p37_ok (by omega) hl]
          simp only [Option.bind_some]
          rw [rd_nat hx]
          rcases place_at cs i hg hi2 with ⟨pr, d, po, r1, r2, a, r3, r4, r5⟩ | ⟨a, r3, r4, r5⟩
          · rw [hx] at r5
            injection r5 with r5
            obtain ⟨_, hd, -⟩ := hg d (by rw [r1]; simp)
            have := hd.len
            rw [if_neg (show ¬ (x == 0) = true by rw [beq_iff_eq]; omega)]
            exact at_ pr _ r1 r2
          · rw [hx] at r5
            injection r5 with r5
            rw [r5, if_pos (by decide)]
            refine .inl (next ?_)
            intro h2
            cases post with
            | nil => rw [q1, List.append_nil] at hi2; omega
            | cons d post =>
              obtain ⟨b, t, e1, e2, -⟩ := (hg d (by rw [q1]; simp)).head
              have : cs.flatten[i]? = some b := by
                rw [q1, List.flatten_append, h2, List.getElem?_append_right (Nat.le_refl _), Nat.sub_self, List.flatten_cons, e1]; rfl
              rw [this] at r3
              injection r3 with r3
              rw [r3] at e2
              exact e2 r4
        · rw [if_neg (by rw [mkB_size, decide_eq_true_eq]; omega)]
          exact at_ cs [] (by simp) (by omega)) n 0 ⟨0, rfl, Nat.zero_le _⟩ (by simp only [Int.toNat_zero]; omega)
    rw [e, hq]
    rfl

/-- What a position is. -/
theorem p10_all {n : Nat} (hg : Gds cs) (hn : cs.flatten.length + 60 ≤ n) (h : chk cs.flatten = (0, 0)) (hl : cs.flatten.length ≤ 16000) (o : Int) :
    ((o < 0 ∨ (cs.flatten.length : Int) < o) ∧ p10 n (mkB cs.flatten) o = some (0, 0, (4, -2))) ∨
    (∃ i : Nat, o = i ∧ i < cs.flatten.length ∧ (wids cs.flatten)[i]? = some 0 ∧ p10 n (mkB cs.flatten) o = some (0, 0, (6, -2))) ∨
    ∃ pre post, cs = pre ++ post ∧ o = (pre.flatten.length : Nat) ∧ p10 n (mkB cs.flatten) o = some ((place pre).1, (place pre).2, (0, 0)) := by
  by_cases h1 : o < 0 ∨ (cs.flatten.length : Int) < o
  · exact .inl ⟨h1, p10_out hn h h1⟩
  · obtain ⟨i, rfl⟩ : ∃ i : Nat, o = i := ⟨o.toNat, by omega⟩
    right
    by_cases hi : i < cs.flatten.length
    · rcases place_at cs i hg hi with ⟨pr, d, po, r1, r2, a, r3, r4, r5⟩ | ⟨a, r3, r4, r5⟩
      · right
        subst r2
        exact ⟨pr, d :: po, r1, rfl, p10_at hg hn h hl r1⟩
      · left
        exact ⟨i, rfl, hi, r5, p10_mid hn h r3 r4⟩
    · right
      have : i = cs.flatten.length := by omega
      subst this
      exact ⟨cs, [], by simp, rfl, p10_at hg hn h hl (pre := cs) (post := []) (by simp)⟩
end
def eg : List (List UInt8) := [[97], [10], [98], [99]]
theorem eg_gds : Gds eg := by
  intro c hc
  simp only [eg, List.mem_cons, List.not_mem_nil, or_false] at hc
  rcases hc with rfl | rfl | rfl | rfl
  · exact ⟨97, .one 97 (by decide), by omega⟩
  · exact ⟨10, .one 10 (by decide), by omega⟩
  · exact ⟨98, .one 98 (by decide), by omega⟩
  · exact ⟨99, .one 99 (by decide), by omega⟩
theorem eg_chk : chk eg.flatten = (0, 0) := by decide
theorem eg_mkB : (⟨#[97, 10, 98, 99]⟩ : ByteArray) = mkB eg.flatten := rfl
theorem p9_ok {n : Nat} (hn : 300 ≤ n) : p9 n = some true := by
  obtain ⟨n, rfl⟩ : ∃ m, n = m + 1 := ⟨n - 1, by omega⟩
  have hlen : eg.flatten.length = 4 := rfl
  rw [p9, eg_mkB, p14_ok (by omega), if_pos eg_chk]
  simp only [Option.bind_some]
  have e1 := p10_at (n := n) eg_gds (by omega) eg_chk (by omega) (pre := [[97], [10], [98]]) (post := [[99]]) rfl
  rw [show (([[97], [10], [98]] : List (List UInt8)).flatten.length : Nat) = 3 from rfl] at e1
  rw [show ((3 : Nat) : Int) = 3 from rfl] at e1
  rw [e1, p11_ok eg_gds (by omega) eg_chk (by omega) (by omega) (by omega)]
  simp only [Option.bind_some]
  have e2 : p21 n (mkB eg.flatten) 2 2 20 = some (mkB [98, 99, 10, 32, 94], (0, 0)) := by
    obtain ⟨n, rfl⟩ : ∃ m, n = m + 1 := ⟨n - 1, by omega⟩
    have e3 : p40 n (mkB [32]) 1 = some (mkB [32]) := by
      obtain ⟨n, rfl⟩ : ∃ m, n = m + 1 := ⟨n - 1, by omega⟩
      rfl
    rw [p21, p11_ok eg_gds (by omega) eg_chk (by omega) (by omega) (by omega)]
    have hoff : offF eg 2 2 = (3, (0, 0)) := by decide
    rw [hoff]
    simp only [Option.bind_some, pj]
    rw [p36_ok (by omega) (by omega) (by omega) (by omega)]
    have h1 : findR (mkB eg.flatten) 2 = (2, mkB [98, 99], true) := by rfl
    rw [h1]
    generalize p40 n = f at e3 ⊢
    refine Eq.trans (b := (f (mkB [32]) 1).bind fun r110 => catP (mkB [98, 99, 10]) r110 (fun z115 => catP z115 (⟨#[94]⟩ : ByteArray) (fun z116 => (some ((z116, (0, 0)) : (ByteArray × (Int × Int))))))) (by kernel_rfl) ?_
    rw [e3]
    kernel_rfl
  rw [e2]
  have h2 : offF eg 2 2 = (3, (0, 0)) := by decide
  have h4 : place [[97], [10], [98]] = (2, 2) := rfl
  have h5 : (IntKind.wrap .i64 (IntKind.wrap .i64 (IntKind.wrap .i64 (0 + 0) + 0) + 0) == 0) = true := by decide
  have h6 : (((linesL eg.flatten).length : Int) == 2) = true := by decide
  simp only [Option.bind_some, pj, h2, h4]
  rw [if_pos h5, if_pos h6, if_pos (by decide), if_pos (by decide), if_pos (by decide)]
  have h7 : (⟨#[98, 99, 10, 32, 94]⟩ : ByteArray) = mkB [98, 99, 10, 32, 94] := rfl
  rw [h7]
  simp
theorem places_true : True := trivial
end Go.Proofs.YtnkbddljndfpnaaDoorF
