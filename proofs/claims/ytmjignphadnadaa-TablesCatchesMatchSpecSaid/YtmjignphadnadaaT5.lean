/- Plain laws of the tables, 5: lines unpacked; the law of lines. -/
import Derived.Test.YtmjignphadnadaaT4
set_option linter.unusedVariables false
set_option linter.unusedSimpArgs false
namespace Go.Proofs.YtmjignphadnadaaF
open Go Go.Proofs

def dec (l : List Int) : Option (Int × List Int) := let r := numL 3 1 0 l; if r.2.1 = true then some (r.1, l.drop r.2.2) else none
theorem dec_sept (x : Int) (rest : List Int) (h0 : 0 ≤ x) (h1 : x < 2097152) : dec (sept 2 x ++ rest) = some (x, rest) := by
  unfold dec
  rw [numL_sept 2 1 0 x rest (by omega) h0 (by omega)]
  simp
theorem dec_some {l : List Int} {x : Int} {r : List Int} (hb : byteL l) (h : dec l = some (x, r)) : 0 ≤ x ∧ x < 2097152 ∧ l = sept 2 x ++ r := by
  unfold dec at h
  dsimp only at h
  split at h
  · rename_i h1
    simp only [Option.some.injEq, Prod.mk.injEq] at h
    obtain ⟨y, rest, a1, a2, a3, a4, a5, a6⟩ := numL_ok 2 1 0 l (numL 3 1 0 l).1 (numL 3 1 0 l).2.2 (by omega) hb (by rw [← h1])
    have e : x = y := by omega
    subst e
    refine ⟨a1, by omega, ?_⟩
    rw [← h.2, a4]
    conv => rhs; rw [a5]
    rw [List.drop_left]
    exact a5
  · cases h
/-- Numbers two by two; where the first pair begins that is damaged. -/
def pairsF : Nat → List Int → Nat → List (Int × Int) ⊕ Nat
  | 0, _, _ => .inl []
  | f + 1, l, off => if l = [] then .inl [] else match dec l with
    | none => .inr off
    | some (d, l1) => match dec l1 with
      | none => .inr off
      | some (m, l2) => match pairsF f l2 (off + (l.length - l2.length)) with
        | .inl ps => .inl ((d, m) :: ps)
        | .inr e => .inr e
def unf (n : Int) : Int := if n % 2 = 1 then -((n + 1) / 2) else n / 2
theorem unf_foldI (x : Int) : unf (foldI x) = x := by
  unfold unf foldI
  split <;> split <;> omega
theorem foldI_unf (x : Int) (h : 0 ≤ x) : foldI (unf x) = x := by
  unfold unf foldI
  split <;> split <;> omega
theorem s37 {n : Nat} (x : Int) (h : 0 ≤ x ∧ x < 1000000000000) (hn : 0 < n) : p37 n x = some (unf x) := by
  obtain ⟨n, rfl⟩ : ∃ m, n = m + 1 := ⟨n - 1, by omega⟩
  rw [p37]
  simp only [pj]
  rw [remP_ok (by omega), Int.tmod_eq_emod_of_nonneg h.1]
  unfold unf
  by_cases hx : x % 2 = 1
  · rw [if_pos (by simpa using hx), if_pos hx, divP_ok (by omega), wr (x := 0 - x) (by omega) (by omega), wr (x := 0 - x - 1) (by omega) (by omega)]
    have e : (0 - x - 1).tdiv 2 = -((x + 1) / 2) := by
      rw [show 0 - x - 1 = -(x + 1) by omega, Int.neg_tdiv, Int.tdiv_eq_ediv_of_nonneg (by omega)]
    rw [e, wr (by omega) (by omega)]
  · rw [if_neg (by simpa using hx), if_neg hx, divP_ok (by omega), Int.tdiv_eq_ediv_of_nonneg h.1, wr (by omega) (by omega)]
def marksF : Int → Int → List (Int × Int) → List (Int × Int)
  | _, _, [] => []
  | a, k, p :: r => (a + p.1, k + unf p.2) :: marksF (a + p.1) (k + unf p.2) r
theorem numAt_dec (b : List Int) (at_ : Nat) (h : at_ ≤ b.length) : dec (b.drop at_) = if (numAt b at_).2.1 = true then some ((numAt b at_).1, b.drop (at_ + (numAt b at_).2.2)) else none := by
  unfold dec numAt
  simp only [List.drop_drop]
theorem l14 (n : Nat) (b : List Int) (hb : byteL b) (hl : b.length ≤ 100000000000) (hn : 10 ≤ n) : ∀ (f m at_ : Nat) (ms : List (Int × Int)) (a k : Int), b.length - at_ ≤ f → f < m → at_ ≤ b.length → ms.length ≤ at_ → 0 ≤ a → a ≤ 2097152 * at_ → -2097152 * (at_ : Int) ≤ k → k ≤ 2097152 * at_ →
    ∃ t, loopP (pb14_1 n b) m (b, (at_ : Int), ms, a, k) = some t ∧ match pairsF f (b.drop at_) at_ with
      | .inl ps => ∃ u, t = .inl u ∧ u.2.2.1 = ms ++ marksF a k ps
      | .inr e => t = .inr (16, (e : Int)) := by
  intro f
  induction f with
  | zero =>
    intro m at_ ms a k h1 h2 h3 h4 h5 h6 h7 h8
    obtain ⟨m, rfl⟩ : ∃ q, m = q + 1 := ⟨m - 1, by omega⟩
    refine ⟨.inl (b, (at_ : Int), ms, a, k), ?_, ?_⟩
    · unfold loopP pb14_1
      rw [if_neg (by simp; omega)]
    · simp [pairsF, marksF]
  | succ f ih =>
    intro m at_ ms a k h1 h2 h3 h4 h5 h6 h7 h8
    obtain ⟨m, rfl⟩ : ∃ q, m = q + 1 := ⟨m - 1, by omega⟩
    by_cases hat : at_ = b.length
    · refine ⟨.inl (b, (at_ : Int), ms, a, k), ?_, ?_⟩
      · unfold loopP pb14_1
        rw [if_neg (by simp; omega)]
      · simp [pairsF, marksF, hat]
    · have hne : b.drop at_ ≠ [] := by simp; omega
      simp only [pairsF, if_neg hne]
      have c1 := numL_cnt 3 1 0 (b.drop at_)
      have e1 := numAt_dec b at_ h3
      rw [List.length_drop] at c1
      have hat1 : at_ + (numAt b at_).2.2 ≤ b.length := by
        have : (numAt b at_).2.2 = (numL 3 1 0 (b.drop at_)).2.2 := rfl
        omega
      have e2 := numAt_dec b (at_ + (numAt b at_).2.2) hat1
      have c2 := numL_cnt 3 1 0 (b.drop (at_ + (numAt b at_).2.2))
      rw [List.length_drop] at c2
      -- a fault
      have flt : (numAt b at_).2.1 = false ∨ (numAt b (at_ + (numAt b at_).2.2)).2.1 = false → pb14_1 n b (b, (at_ : Int), ms, a, k) = some (.inr (.inr (16, (at_ : Int)))) := by
        intro hf
        unfold pb14_1
        rw [if_pos (by simp; omega)]
        dsimp only
        rw [s36 b at_ hb (by omega) (by omega)]
        simp only [Option.bind_some]
        rw [s36 b _ hb (by omega) (by omega)]
        simp only [Option.bind_some, pj, s28 (show 0 < n by omega)]
        rcases hf with hf | hf
        · rw [hf]; rfl
        · rw [hf]; simp
      by_cases k1 : (numAt b at_).2.1 = true
      · rw [if_pos k1] at e1
        rw [e1]
        dsimp only
        by_cases k2 : (numAt b (at_ + (numAt b at_).2.2)).2.1 = true
        · rw [if_pos k2] at e2
          rw [e2]
          dsimp only
          obtain ⟨v1, v2, v3⟩ := dec_some (fun x hx => hb x (List.mem_of_mem_drop hx)) e1
          obtain ⟨w1, w2, w3⟩ := dec_some (fun x hx => hb x (List.mem_of_mem_drop hx)) e2
          have hu : -2097152 ≤ unf (numAt b (at_ + (numAt b at_).2.2)).1 ∧ unf (numAt b (at_ + (numAt b at_).2.2)).1 ≤ 2097152 := by unfold unf; split <;> omega
          have hlen1 : 0 < (numAt b at_).2.2 := by
            have h := congrArg List.length v3
            have h' := sept_pos 2 (numAt b at_).1
            simp at h
            omega
          have hat2 : at_ + (numAt b at_).2.2 + (numAt b (at_ + (numAt b at_).2.2)).2.2 ≤ b.length := by
            have : (numAt b (at_ + (numAt b at_).2.2)).2.2 = (numL 3 1 0 (b.drop (at_ + (numAt b at_).2.2))).2.2 := rfl
            omega
          generalize hN2 : numAt b (at_ + (numAt b at_).2.2) = N2 at *
          generalize hN1 : numAt b at_ = N1 at *
          obtain ⟨d, ok1, q1⟩ := N1
          obtain ⟨mm, ok2, q2⟩ := N2
          dsimp only at *
          subst k1; subst k2
          have hbody : pb14_1 n b (b, (at_ : Int), ms, a, k) = some (.inl (b, ((at_ + q1 + q2 : Nat) : Int), ms ++ [(a + d, k + unf mm)], a + d, k + unf mm)) := by
            unfold pb14_1
            rw [if_pos (by simp; omega)]
            dsimp only
            rw [s36 b at_ hb (by omega) (by omega), hN1]
            simp only [Option.bind_some]
            rw [s36 b _ hb (by omega) (by omega), hN2]
            simp only [Option.bind_some, pj]
            rw [s37 mm (by omega) (by omega)]
            simp only [Option.bind_some, Bool.not_true, Bool.false_eq_true, if_false]
            rw [wr (x := a + d) (by omega) (by omega), wr (x := k + unf mm) (by omega) (by omega), apP_ok (by simp; omega)]
          obtain ⟨t, t1, t2⟩ := ih m (at_ + q1 + q2) (ms ++ [(a + d, k + unf mm)]) (a + d) (k + unf mm) (by omega) (by omega) (by omega) (by simp; omega) (by omega) (by omega) (by omega) (by omega)
          refine ⟨t, ?_, ?_⟩
          · unfold loopP
            rw [hbody]
            exact t1
          · have eoff : at_ + ((b.drop at_).length - (b.drop (at_ + q1 + q2)).length) = at_ + q1 + q2 := by simp; omega
            rw [eoff]
            revert t2
            cases pairsF f (b.drop (at_ + q1 + q2)) (at_ + q1 + q2) with
            | inl ps =>
              rintro ⟨u, hu1, hu2⟩
              refine ⟨u, hu1, ?_⟩
              rw [hu2]
              simp [marksF]
            | inr e => exact id
        · rw [if_neg k2] at e2
          rw [e2]
          refine ⟨.inr (16, (at_ : Int)), ?_, rfl⟩
          unfold loopP
          rw [flt (.inr (by simpa using k2))]
      · rw [if_neg k1] at e1
        rw [e1]
        refine ⟨.inr (16, (at_ : Int)), ?_, rfl⟩
        unfold loopP
        rw [flt (.inl (by simpa using k1))]
def unpackM (b : List Int) : List (Int × Int) × (Int × Int) := match pairsF b.length b 0 with
  | .inr e => ([], (16, (e : Int)))
  | .inl ps => if chkM (marksF 0 0 ps) = (0, 0) then (marksF 0 0 ps, (0, 0)) else ([], ((chkM (marksF 0 0 ps)).1, -1))
theorem s14 {n : Nat} (b : List Int) (hb : byteL b) (hl : b.length ≤ 100000000000) (hn : b.length + 60020 ≤ n) : p14 n b = some (unpackM b) := by
  obtain ⟨n, rfl⟩ : ∃ m, n = m + 1 := ⟨n - 1, by omega⟩
  obtain ⟨t, t1, t2⟩ := l14 n b hb hl (by omega) b.length n 0 [] 0 0 (by omega) (by omega) (by omega) (by simp) (by omega) (by omega) (by omega) (by omega)
  rw [p14]
  rw [show ((0 : Nat) : Int) = 0 from rfl] at t1
  rw [t1]
  unfold unpackM
  rw [List.drop_zero] at t2
  revert t2
  cases pairsF b.length b 0 with
  | inr e =>
    rintro rfl
    rfl
  | inl ps =>
    rintro ⟨u, rfl, hu⟩
    simp only [Option.bind_some]
    rw [hu, List.nil_append, s27 _ (by omega)]
    simp only [Option.bind_some]
    by_cases hc : chkM (marksF 0 0 ps) = (0, 0)
    · rw [if_pos hc, hc, if_neg (by decide)]
    · rw [if_neg hc, if_pos (ne00 hc), s28 (by omega)]
      rfl
/-- What packS is made of. -/
def deltas : Int → Int → List (Int × Int) → List (Int × Int)
  | _, _, [] => []
  | a, k, p :: r => (p.1 - a, foldI (p.2 - k)) :: deltas p.1 p.2 r
def goodM : Int → Int → List (Int × Int) → Prop
  | _, _, [] => True
  | a, k, p :: r => 0 ≤ p.1 - a ∧ p.1 - a < 2097152 ∧ -1000000 ≤ p.2 - k ∧ p.2 - k ≤ 1000000 ∧ goodM p.1 p.2 r
theorem marksF_deltas : ∀ (l : List (Int × Int)) (a k : Int), marksF a k (deltas a k l) = l
  | [], _, _ => rfl
  | p :: r, a, k => by
    have e1 : a + (p.1 - a) = p.1 := by omega
    have e2 : k + unf (foldI (p.2 - k)) = p.2 := by rw [unf_foldI]; omega
    simp only [deltas, marksF, e1, e2, marksF_deltas r]
theorem pairsF_pack : ∀ (f : Nat) (l : List (Int × Int)) (a k : Int) (off : Nat), goodM a k l → (packS a k l).length ≤ f → pairsF f (packS a k l) off = .inl (deltas a k l)
  | f, [], a, k, off, _, _ => by cases f <;> simp [pairsF, packS, deltas]
  | 0, p :: r, a, k, off, _, h => by
    have := sept_pos 2 (p.1 - a)
    simp [packS] at h
    simp [h.1] at this
  | f + 1, p :: r, a, k, off, ⟨h1, h2, h3, h4, h5⟩, h => by
    have hp := sept_pos 2 (p.1 - a)
    have hne : packS a k (p :: r) ≠ [] := by
      intro e
      have := congrArg List.length e
      simp [packS] at this
      simp [this.1] at hp
    have hf := foldI_bound (x := p.2 - k) ⟨h3, h4⟩
    have hlen : (packS p.1 p.2 r).length ≤ f := by
      simp only [packS, List.length_append] at h
      omega
    simp only [pairsF, if_neg hne]
    have e1 : dec (packS a k (p :: r)) = some (p.1 - a, sept 2 (foldI (p.2 - k)) ++ packS p.1 p.2 r) := by
      simp only [packS, List.append_assoc]
      exact dec_sept _ _ h1 h2
    rw [e1]
    dsimp only
    rw [dec_sept _ _ hf.1 hf.2]
    dsimp only
    rw [pairsF_pack f r p.1 p.2 _ h5 hlen]
    rfl
theorem goodM_of {l : List (Int × Int)} (hc : chkM l = (0, 0)) : ∀ (d i : Nat) (a k : Int), i + d = l.length → (i = 0 → a = 0 ∧ k = 0) → (∀ x, 0 < i → l[i - 1]? = some x → a = x.1 ∧ k = x.2) → goodM a k (l.drop i)
  | 0, i, a, k, h, _, _ => by
    rw [List.drop_eq_nil_of_le (by omega)]
    trivial
  | d + 1, i, a, k, h, h0, h1 => by
    have hx := get_of_lt (show i < l.length by omega)
    have g := (chkM_ok hc).2 i _ hx
    have ab : 0 ≤ a ∧ a ≤ (l[i]'(by omega)).1 ∧ 0 ≤ k ∧ k ≤ 16000 := by
      by_cases hi : i = 0
      · obtain ⟨rfl, rfl⟩ := h0 hi
        omega
      · have hy := get_of_lt (show i - 1 < l.length by omega)
        obtain ⟨rfl, rfl⟩ := h1 _ (by omega) hy
        have g2 := (chkM_ok hc).2 (i - 1) _ hy
        have g3 := chkM_mono hc hy hx (by omega)
        omega
    rw [drop_cons hx]
    refine ⟨by omega, by omega, by omega, by omega, goodM_of hc d (i + 1) _ _ (by omega) (by omega) fun x _ hx' => ?_⟩
    rw [show i + 1 - 1 = i by omega, hx] at hx'
    injection hx' with hx'
    subst hx'
    exact ⟨rfl, rfl⟩
theorem packS_length : ∀ (l : List (Int × Int)) (a k : Int), (packS a k l).length ≤ 6 * l.length
  | [], _, _ => by simp [packS]
  | p :: r, a, k => by
    have h1 := sept_length 2 (p.1 - a)
    have h2 := sept_length 2 (foldI (p.2 - k))
    have h3 := packS_length r p.1 p.2
    simp only [packS, List.length_append, List.length_cons]
    omega
theorem packS_byte : ∀ (l : List (Int × Int)) (a k : Int), goodM a k l → byteL (packS a k l)
  | [], _, _, _ => by simp [packS, byteL]
  | p :: r, a, k, ⟨h1, h2, h3, h4, h5⟩ => by
    have hf := foldI_bound (x := p.2 - k) ⟨h3, h4⟩
    intro x hx
    simp only [packS, List.mem_append] at hx
    rcases hx with (hx | hx) | hx
    · exact sept_byte 2 _ h1 (by omega) x hx
    · exact sept_byte 2 _ hf.1 (by omega) x hx
    · exact packS_byte r _ _ h5 x hx
theorem unpack_pack {l : List (Int × Int)} (hc : chkM l = (0, 0)) : unpackM (packS 0 0 l) = (l, (0, 0)) := by
  have hg : goodM 0 0 l := by simpa using goodM_of hc l.length 0 0 0 (by omega) (fun _ => ⟨rfl, rfl⟩) (fun x h => by omega)
  unfold unpackM
  rw [pairsF_pack _ l 0 0 0 hg (Nat.le_refl _)]
  dsimp only
  rw [marksF_deltas, if_pos hc]
theorem s15 {n : Nat} (a b : List (Int × Int)) (hl : a.length + 3 < n) (hb : a.length ≤ 1000000000000) : p15 n a b = some (decide (a = b)) := by
  obtain ⟨n, rfl⟩ : ∃ m, n = m + 1 := ⟨n - 1, by omega⟩
  rw [p15]
  by_cases hlen : a.length = b.length
  · have hloop := eq_loop (body := pb15_1 n a b) a b n hlen (by omega) (fun i x y hx hy => by
      have hi := (List.getElem?_eq_some_iff.1 hx).1
      unfold pb15_1
      rw [if_pos (by simp; omega), rd_nat hx, rd_nat hy, wr (x := (i : Int) + 1) (by omega) (by omega)]
      obtain ⟨x1, x2⟩ := x
      obtain ⟨y1, y2⟩ := y
      by_cases h1 : x1 = y1
      · by_cases h2 : x2 = y2
        · simp [h1, h2]
        · simp [h1, h2]
      · simp [h1]) (by
      unfold pb15_1
      rw [if_neg (by simp)])
    rw [if_neg (by simp; omega), hloop]
    by_cases h : a = b <;> simp [h]
  · rw [if_pos (by simp; omega)]
    have : a ≠ b := by rintro rfl; exact hlen rfl
    simp [this]
end Go.Proofs.YtmjignphadnadaaF
