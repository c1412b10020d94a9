/- Sources: positions and offsets, by the reference. -/
import Derived.Test.YtnkbddljndfpnaaDoorT5
set_option linter.unusedVariables false
set_option linter.unusedSimpArgs false
namespace Go.Proofs.YtnkbddljndfpnaaDoorF
open Go Go.Proofs
set_option maxRecDepth 100000

theorem linesL_cons10 (l : List UInt8) : linesL (10 :: l) = [] :: linesL l := by
  conv => lhs; unfold linesL
  rw [if_pos rfl]
theorem linesL_cons {d : UInt8} (hd : d ≠ 10) {l x : List UInt8} {xs : List (List UInt8)} (e : linesL l = x :: xs) : linesL (d :: l) = (d :: x) :: xs := by
  conv => lhs; unfold linesL
  rw [if_neg hd, e]
theorem linesL_snoc : ∀ (x : List UInt8), ∃ A y, linesL x = A ++ [y] ∧ A.length + y.length ≤ x.length ∧ ∀ c, linesL (x ++ [c]) = if c = 10 then (A ++ [y]) ++ [[]] else A ++ [y ++ [c]]
  | [] => ⟨[], [], rfl, by simp, fun c => by by_cases h : c = 10 <;> simp [linesL, h]⟩
  | d :: x => by
    obtain ⟨A, y, h1, h0, h2⟩ := linesL_snoc x
    by_cases hd : d = 10
    · subst hd
      refine ⟨[] :: A, y, by rw [linesL_cons10, h1]; rfl, by simp; omega, fun c => ?_⟩
      rw [List.cons_append, linesL_cons10, h2 c]
      by_cases hc : c = 10
      · rw [if_pos hc, if_pos hc]; simp
      · rw [if_neg hc, if_neg hc]; simp
    · cases A with
      | nil =>
        refine ⟨[], d :: y, linesL_cons hd h1, by simp at h0 ⊢; omega, fun c => ?_⟩
        have h3 := h2 c
        rw [List.cons_append]
        by_cases hc : c = 10
        · rw [if_pos hc] at h3 ⊢; exact linesL_cons hd h3
        · rw [if_neg hc] at h3 ⊢; exact linesL_cons hd h3
      | cons a A =>
        refine ⟨(d :: a) :: A, y, linesL_cons hd h1, by simp at h0 ⊢; omega, fun c => ?_⟩
        have h3 := h2 c
        rw [List.cons_append]
        by_cases hc : c = 10
        · rw [if_pos hc] at h3 ⊢; exact linesL_cons hd h3
        · rw [if_neg hc] at h3 ⊢; exact linesL_cons hd h3
theorem p13_ok {n : Nat} {l : List UInt8} (hn : l.length + 20 ≤ n) (hl : l.length ≤ 8796093022000) : p13 n (mkB l) = some ((linesL l).map mkB) := by
  obtain ⟨n, rfl⟩ : ∃ m, n = m + 1 := ⟨n - 1, by omega⟩
  rw [p13]
  obtain ⟨t, e, hq⟩ := loop_inv (body := pb13_1 n (mkB l)) (fun st => ∃ (i : Nat) (A : List (List UInt8)) (y : List UInt8), st = (A.map mkB, mkB y, (i : Int)) ∧ i ≤ l.length ∧ linesL (l.take i) = A ++ [y]) (fun st => l.length - st.2.2.toNat)
    (fun r => ∃ A y, r.1 = A.map mkB ∧ r.2.1 = mkB y ∧ linesL l = A ++ [y]) (fun st ⟨i, A, y, e, hi, hA⟩ => by
      subst e
      unfold pb13_1
      dsimp only
      by_cases h : i < l.length
      · rw [if_pos (by rw [mkB_size]; simpa using h)]
        have hx := get_of_lt h
        have htk : l.take (i + 1) = l.take i ++ [l[i]] := take_succ hx
        obtain ⟨A', y', q1, q0, q2⟩ := linesL_snoc (l.take i)
        have hAA : A' = A ∧ y' = y := by
          rw [hA] at q1
          have := List.append_inj' q1 rfl
          exact ⟨this.1.symm, by simpa using this.2.symm⟩
        obtain ⟨rfl, rfl⟩ := hAA
        have q3 := q2 l[i]
        rw [← htk] at q3
        rw [List.length_take, Nat.min_eq_left (by omega)] at q0
        simp only [pj]
        rw [idxP_ok hx]
        by_cases hc : l[i] = 10
        · rw [if_pos hc] at q3
          rw [if_pos (by rw [hc]; rfl), apP_ok (by simp; omega), wr (by omega) (by omega)]
          refine .inl ⟨_, rfl, ⟨i + 1, A' ++ [y'], [], by simp; rfl, by omega, q3⟩, by simp; omega⟩
        · rw [if_neg hc] at q3
          have hc' : ¬ (((l[i].toNat : Int) == 10) = true) := by
            intro h'
            apply hc
            apply UInt8.toNat_inj.1
            have h'' : (l[i].toNat : Int) = 10 := by simpa using h'
            show l[i].toNat = 10
            omega
          rw [if_neg hc', wr (by omega) (by omega), show ((i : Int) + 1) = ((i + 1 : Nat) : Int) by simp, subP_ok (by omega) (by omega)]
          have hs : (l.take (i + 1)).drop i = [l[i]] := by rw [htk, List.drop_append_of_le_length (by simp; omega)]; simp
          rw [hs, catP_ok (by simp; omega)]
          exact .inl ⟨_, rfl, ⟨i + 1, A', y' ++ [l[i]], rfl, by omega, q3⟩, by simp; omega⟩
      · rw [if_neg (by rw [mkB_size]; simpa using h)]
        refine .inr ⟨_, rfl, A, y, rfl, rfl, ?_⟩
        rw [List.take_of_length_le (by omega)] at hA
        exact hA) n (([] : List ByteArray), (⟨#[]⟩ : ByteArray), 0) ⟨0, [], [], rfl, Nat.zero_le _, by simp [linesL]⟩ (by simp; omega)
  obtain ⟨A, y, h1, h2, h3⟩ := hq
  rw [e]
  simp only [Option.bind_some]
  rw [h1, h2]
  obtain ⟨A', y', q1, q0, q2⟩ := linesL_snoc l
  have hAl : A.length ≤ l.length := by
    rw [h3] at q1
    have := List.append_inj' q1 rfl
    rw [this.1]; omega
  rw [apP_ok (by simp; omega), h3]
  simp
theorem lines_count (l : List UInt8) : (linesL l).length = Lib.countByte l 10 + 1 := by
  unfold Lib.countByte
  induction l with
  | nil => rfl
  | cons c l ih =>
    unfold linesL
    by_cases h : c = 10
    · rw [if_pos h, h]; simp [ih]
    · rw [if_neg h, List.count_cons_of_ne h]
      split
      · rename_i x xs e; rw [e] at ih; simpa using ih
      · rename_i e; exact absurd e (linesL_ne l)
theorem p14_ok {n : Nat} {l : List UInt8} (hn : l.length + 60 ≤ n) : p14 n (mkB l) = some (if chk l = (0, 0) then (((linesL l).length : Int), (0, 0)) else (0, chk l)) := by
  obtain ⟨n, rfl⟩ : ∃ m, n = m + 1 := ⟨n - 1, by omega⟩
  rw [p14, p16_ok (by omega)]
  simp only [Option.bind_some]
  rw [fault_if]
  by_cases h : chk l = (0, 0)
  · have hle : Lib.countByte l 10 ≤ l.length := List.count_le_length
    have := (chk_ok h).1
    rw [if_pos h, if_pos h, p34_ok (by omega)]
    simp only [Option.bind_some]
    rw [wr (by omega) (by omega), lines_count]
    simp
  · rw [if_neg h, if_neg h]
def lineF (l : List UInt8) (k : Int) : ByteArray × (Int × Int) :=
  if chk l = (0, 0) then (if k < 1 then (⟨#[]⟩, (4, -2)) else match (linesL l)[k.toNat - 1]? with | some s => (mkB s, (0, 0)) | none => (⟨#[]⟩, (4, -2))) else (⟨#[]⟩, chk l)
theorem p15_ok {n : Nat} {l : List UInt8} (hn : l.length + 60 ≤ n) {k : Int} (k1 : -9223372036854775808 ≤ k) (k2 : k ≤ 9223372036854775807) : p15 n (mkB l) k = some (lineF l k) := by
  obtain ⟨n, rfl⟩ : ∃ m, n = m + 1 := ⟨n - 1, by omega⟩
  rw [p15, p16_ok (by omega)]
  simp only [Option.bind_some]
  rw [fault_if]
  unfold lineF
  by_cases h : chk l = (0, 0)
  · have hl := (chk_ok h).1
    rw [if_pos h, if_pos h, p36_ok (by omega) hl k1 k2]
    simp only [Option.bind_some]
    by_cases hk : k < 1
    · have hf : findR (mkB l) k = (0, ByteArray.empty, false) := by unfold findR; rw [if_neg (by omega)]
      rw [hf, if_pos hk]; rfl
    · have hf : findR (mkB l) k = match (linesL l)[k.toNat - 1]? with | some s => (((lineOff (linesL l) (k.toNat - 1) : Nat) : Int), mkB s, true) | none => (0, ByteArray.empty, false) := by unfold findR; rw [if_pos (by omega)]; rfl
      rw [hf, if_neg hk]
      cases (linesL l)[k.toNat - 1]? with
      | none => rfl
      | some s => rfl
  · rw [if_neg h, if_neg h]
theorem p18_ok {n : Nat} {l : List UInt8} (hn : l.length + 60 ≤ n) (o : Int) : p18 n (mkB l) o = some (if chk l = (0, 0) then (if o < 0 ∨ (l.length : Int) < o then (4, -2) else if (wids l)[o.toNat]? = some 0 then (6, -2) else (0, 0)) else chk l) := by
  obtain ⟨n, rfl⟩ : ∃ m, n = m + 1 := ⟨n - 1, by omega⟩
  rw [p18, p12_ok (by omega)]
  simp only [Option.bind_some]
  by_cases h : chk l = (0, 0)
  · have hl := (chk_ok h).1
    rw [if_pos h, h, if_neg (by simp)]
    simp only [pj, mkB_size]
    rw [p17_ok (by omega), p17_ok (by omega)]
    simp only [Option.bind_some]
    by_cases h0 : o < 0
    · have h2 : o < 0 ∨ (l.length : Int) < o := .inl h0
      rw [if_pos h2]; simp [h0]
    by_cases h1 : (l.length : Int) < o
    · have h2 : o < 0 ∨ (l.length : Int) < o := .inr h1
      rw [if_pos h2]; simp [h0, h1]
    have h2 : ¬ (o < 0 ∨ (l.length : Int) < o) := by omega
    rw [if_neg h2]
    have e1 : decide (o < 0) = false := by simpa using h0
    have e2 : decide (o > (l.length : Nat)) = false := by simpa using h1
    rw [e1, e2]
    simp only [Bool.false_eq_true, if_false]
    obtain ⟨i, rfl⟩ : ∃ i : Nat, o = i := ⟨o.toNat, by omega⟩
    rw [Int.toNat_natCast]
    by_cases hi : i < l.length
    · obtain ⟨x, hx⟩ : ∃ x, (wids l)[i]? = some x := ⟨_, get_of_lt (show i < (wids l).length by rw [wids_length]; exact hi)⟩
      rw [if_pos (by simpa using hi), p37_ok (by omega) hl]
      simp only [Option.bind_some]
      rw [rd_nat hx, hx]
      by_cases hz : x = 0
      · rw [hz]; simp
      · have : ¬ (x == 0) = true := by simpa using hz
        rw [if_neg this, if_neg (by simpa using hz)]
    · rw [if_neg (by simpa using hi), List.getElem?_eq_none (by rw [wids_length]; omega)]
      simp
  · rw [if_neg h, if_pos (by
      have := chk_code l
      simp only [bne_iff_ne, ne_eq]
      intro h'
      exact h (this.1 h'))]

/-! ### The letters that begin ahead of a place -/
def Mp (cs : List (List UInt8)) (i : Nat) (p : List (List UInt8)) : Prop := (∃ r, cs = p ++ r) ∧ i ≤ p.flatten.length ∧ ∀ p' c, p = p' ++ [c] → p'.flatten.length < i
theorem Mp.zero (cs : List (List UInt8)) : Mp cs 0 [] := ⟨⟨cs, rfl⟩, by simp, fun p' c h => by simp at h⟩
theorem Gds.nil_of {cs : List (List UInt8)} (hg : Gds cs) (h : cs.flatten.length = 0) : cs = [] := by
  have := chars_le hg
  exact List.length_eq_zero_iff.1 (by omega)
theorem Mp.at {cs : List (List UInt8)} (hg : Gds cs) {i : Nat} {p pre post : List (List UInt8)} (h : Mp cs i p) (e : cs = pre ++ post) (hi : i = pre.flatten.length) : p = pre := by
  obtain ⟨⟨r, e'⟩, h1, h2⟩ := h
  rcases List.append_eq_append_iff.1 (e'.symm.trans e) with ⟨a, q, -⟩ | ⟨a, q, -⟩
  · -- pre = p ++ a
    have ha : a = [] := by
      refine Gds.nil_of (fun x hx => hg x (by rw [e, q]; simp [hx])) ?_
      rw [q, List.flatten_append, List.length_append] at hi
      omega
    rw [q, ha, List.append_nil]
  · -- p = pre ++ a
    by_cases ha : a = []
    · rw [q, ha, List.append_nil]
    · exfalso
      have hd : a = a.dropLast ++ [a.getLast ha] := (List.dropLast_concat_getLast ha).symm
      have := h2 (pre ++ a.dropLast) (a.getLast ha) (by rw [q, List.append_assoc, ← hd])
      rw [List.flatten_append, List.length_append] at this
      omega
theorem Mp.next {cs : List (List UInt8)} (hg : Gds cs) {i : Nat} {pre post : List (List UInt8)} {c : List UInt8} (e : cs = pre ++ c :: post) (hi : i = pre.flatten.length) : Mp cs (i + 1) (pre ++ [c]) := by
  obtain ⟨r, hc, -⟩ := hg c (by rw [e]; simp)
  have := hc.len
  refine ⟨⟨post, by rw [e]; simp⟩, ?_, fun p' d h => ?_⟩
  · rw [List.flatten_append, List.length_append, List.flatten_cons, List.flatten_nil, List.append_nil]; omega
  · have := List.append_inj' h rfl
    rw [← this.1]; omega
theorem Mp.mid {cs : List (List UInt8)} (hg : Gds cs) {i : Nat} {p : List (List UInt8)} (h : Mp cs i p) (hi : i < cs.flatten.length) (hw : (wids cs.flatten)[i]? = some 0) : Mp cs (i + 1) p := by
  obtain ⟨⟨r, e⟩, h1, h2⟩ := h
  refine ⟨⟨r, e⟩, ?_, fun p' c hp => by have := h2 p' c hp; omega⟩
  rcases Nat.lt_or_ge i p.flatten.length with h3 | h3
  · omega
  · exfalso
    have hip : i = p.flatten.length := by omega
    cases r with
    | nil => rw [e] at hi; simp at hi; simp at hip; omega
    | cons c r =>
      rcases place_at cs i hg hi with ⟨pre, d, post, q1, q2, a, q3, q4, q5⟩ | ⟨a, q3, q4, q5⟩
      · rw [hw] at q5
        injection q5 with q5
        obtain ⟨_, hd, -⟩ := hg d (by rw [q1]; simp)
        have := hd.len
        omega
      · obtain ⟨b, t, e1, e2, -⟩ := (hg c (by rw [e]; simp)).head
        have : cs.flatten[i]? = some b := by
          rw [e, List.flatten_append, hip, List.getElem?_append_right (Nat.le_refl _), Nat.sub_self, List.flatten_cons, e1]; rfl
        rw [this] at q3
        injection q3 with q3
        rw [q3] at e2
        exact e2 q4
section
variable {cs : List (List UInt8)}
theorem p19_ok {n : Nat} (hg : Gds cs) (hn : cs.flatten.length + 60 ≤ n) (hl : cs.flatten.length ≤ 16000) {pre post : List (List UInt8)} (e : cs = pre ++ post) : p19 n (mkB cs.flatten) (pre.flatten.length : Nat) = some (place pre) := by
  obtain ⟨n, rfl⟩ : ∃ m, n = m + 1 := ⟨n - 1, by omega⟩
  have hwl := wids_length cs.flatten
  have hpl : pre.flatten.length ≤ cs.flatten.length := by rw [e]; simp
  rw [p19, p37_ok (by omega) hl]
  simp only [Option.bind_some]
  obtain ⟨t, et, hq⟩ := loop_inv (body := pb19_1 n (mkB cs.flatten) (pre.flatten.length : Nat) (wids cs.flatten)) (fun st => ∃ (i : Nat) (p : List (List UInt8)), st = ((place p).1, (place p).2, (i : Int)) ∧ i ≤ pre.flatten.length ∧ Mp cs i p) (fun st => cs.flatten.length - st.2.2.toNat)
    (fun r => (r.1, r.2.1) = place pre) (fun st ⟨i, p, es, hi, hm⟩ => by
      subst es
      unfold pb19_1
      dsimp only
      have stop : i = pre.flatten.length → ((place p).1, (place p).2) = place pre := fun h => by rw [hm.at hg e h]
      by_cases h : i < cs.flatten.length
      · have hx := get_of_lt (show i < (wids cs.flatten).length by omega)
        rw [if_pos (by rw [hwl]; simpa using h)]
        simp only [pj]
        rw [rd_nat hx]
        by_cases hge : i = pre.flatten.length
        · rw [if_pos (by simp [hge])]
          exact .inr ⟨_, rfl, stop hge⟩
        · have hpb := place_bounds p
          have hpp : p.length ≤ 16000 := by
            obtain ⟨⟨r, er⟩, -⟩ := hm
            have h5 := chars_le (cs := p) (fun x hx => hg x (by rw [er]; simp [hx]))
            have h6 : cs.flatten.length = p.flatten.length + r.flatten.length := by rw [er, List.flatten_append, List.length_append]
            omega
          rw [if_neg (show ¬ (decide ((i : Int) ≥ (pre.flatten.length : Nat)) = true) by rw [decide_eq_true_eq]; omega)]
          rcases place_at cs i hg h with ⟨pr, c, po, q1, q2, a, q3, q4, q5⟩ | ⟨a, q3, q4, q5⟩
          · rw [idxP_ok q3]
            have hpp2 := hm.at hg q1 q2
            rw [hx] at q5
            injection q5 with q5
            have hnx := Mp.next hg q1 q2
            obtain ⟨b, t, e1, e2, e3, e4⟩ := (hg c (by rw [q1]; simp)).head
            have hab : a = b := by
              have : cs.flatten[i]? = some b := by
                rw [q1, List.flatten_append, q2, List.getElem?_append_right (Nat.le_refl _), Nat.sub_self, List.flatten_cons, e1]; rfl
              rw [this] at q3; injection q3 with q3; exact q3.symm
            have hps := place_snoc pr c
            subst hpp2
            have hcl : 1 ≤ c.length := by rw [e1]; simp
            by_cases hc : c = [10]
            · have ha : a = 10 := by rw [hab]; rw [hc] at e1; injection e1 with e1; exact e1.symm
              rw [if_pos (by rw [ha]; rfl), wr (by omega) (by omega), wr (by omega) (by omega)]
              refine .inl ⟨_, rfl, ⟨i + 1, p ++ [c], ?_, by omega, hnx⟩, by dsimp only; omega⟩
              rw [hps]; unfold pstep; rw [if_pos hc]; simp
            · have ha : ¬ ((a.toNat : Int) == 10) = true := by
                intro h'
                have h'' : (a.toNat : Int) = 10 := by simpa using h'
                have h3 : b = 10 := by rw [← hab]; apply UInt8.toNat_inj.1; show a.toNat = 10; omega
                apply hc; rw [e1, h3, e4 h3]
              have hw0 : decide ((wids cs.flatten)[i] > 0) = true := by rw [q5]; simp; omega
              rw [if_neg ha, if_pos hw0, wr (by omega) (by omega), wr (by omega) (by omega)]
              refine .inl ⟨_, rfl, ⟨i + 1, p ++ [c], ?_, by omega, hnx⟩, by dsimp only; omega⟩
              rw [hps]; unfold pstep; rw [if_neg hc]; simp
          · rw [idxP_ok q3]
            have ha : ¬ ((a.toNat : Int) == 10) = true := by
              intro h'
              have h'' : (a.toNat : Int) = 10 := by simpa using h'
              omega
            have hmid := hm.mid hg h q5
            rw [hx] at q5
            injection q5 with q5
            have hw0 : ¬ decide ((wids cs.flatten)[i] > 0) = true := by rw [q5]; simp
            rw [if_neg ha, if_neg hw0, wr (by omega) (by omega)]
            exact .inl ⟨_, rfl, ⟨i + 1, p, by simp, by omega, hmid⟩, by dsimp only; omega⟩
      · rw [if_neg (by rw [hwl]; simpa using h)]
        exact .inr ⟨_, rfl, stop (by omega)⟩) n (1, 1, 0) ⟨0, [], rfl, Nat.zero_le _, Mp.zero cs⟩ (by dsimp only; omega)
  rw [et]
  simp only [Option.bind_some]
  rw [hq]
theorem p39_ok {n : Nat} (hg : Gds cs) (hn : cs.flatten.length + 60 ≤ n) (hl : cs.flatten.length ≤ 16000) : p39 n (mkB cs.flatten) = some (cs.map mkB) := by
  obtain ⟨n, rfl⟩ : ∃ m, n = m + 1 := ⟨n - 1, by omega⟩
  have hwl := wids_length cs.flatten
  rw [p39, p37_ok (by omega) hl]
  simp only [Option.bind_some]
  obtain ⟨t, et, hq⟩ := loop_inv (body := pb39_1 n (mkB cs.flatten) (wids cs.flatten)) (fun st => ∃ (i : Nat) (p : List (List UInt8)), st = (p.map mkB, (i : Int)) ∧ i ≤ cs.flatten.length ∧ Mp cs i p) (fun st => cs.flatten.length - st.2.toNat)
    (fun r => r.1 = cs.map mkB) (fun st ⟨i, p, es, hi, hm⟩ => by
      subst es
      unfold pb39_1
      dsimp only
      by_cases h : i < cs.flatten.length
      · have hx := get_of_lt (show i < (wids cs.flatten).length by omega)
        rw [if_pos (by rw [hwl]; simpa using h)]
        simp only [pj]
        rw [rd_nat hx]
        rcases place_at cs i hg h with ⟨pr, c, po, q1, q2, a, q3, q4, q5⟩ | ⟨a, q3, q4, q5⟩
        · have hpp2 := hm.at hg q1 q2
          rw [hx] at q5
          injection q5 with q5
          have hnx := Mp.next hg q1 q2
          obtain ⟨_, hc, -⟩ := hg c (by rw [q1]; simp)
          have hcl := hc.len
          have hle : i + c.length ≤ cs.flatten.length := by rw [q1, q2, List.flatten_append, List.length_append, List.flatten_cons, List.length_append]; omega
          have hprl : pr.length ≤ 16000 := by
            have := chars_le (cs := pr) (fun x hx => hg x (by rw [q1]; simp [hx]))
            omega
          rw [q5, if_pos (by simp; omega), wr (by omega) (by omega), show (i : Int) + (c.length : Int) = ((i + c.length : Nat) : Int) by simp, subP_ok (by omega) hle]
          have hs : (cs.flatten.take (i + c.length)).drop i = c := by
            rw [q1, List.flatten_append, List.flatten_cons, q2, List.take_length_add_append, List.drop_left, List.take_left]
          rw [hs, hpp2, apP_ok (by simp; omega), wr (by omega) (by omega)]
          exact .inl ⟨_, rfl, ⟨i + 1, pr ++ [c], by simp, by omega, hnx⟩, by dsimp only; omega⟩
        · have hmid := hm.mid hg h q5
          rw [hx] at q5
          injection q5 with q5
          rw [q5, if_neg (by simp), wr (by omega) (by omega)]
          exact .inl ⟨_, rfl, ⟨i + 1, p, by simp, by omega, hmid⟩, by dsimp only; omega⟩
      · rw [if_neg (by rw [hwl]; simpa using h)]
        refine .inr ⟨_, rfl, ?_⟩
        rw [hm.at hg (pre := cs) (post := []) (by simp) (by omega)]) n (([] : List ByteArray), 0) ⟨0, [], rfl, Nat.zero_le _, Mp.zero cs⟩ (by dsimp only; omega)
  rw [et]
  simp only [Option.bind_some]
  rw [hq]
end
end Go.Proofs.YtnkbddljndfpnaaDoorF
