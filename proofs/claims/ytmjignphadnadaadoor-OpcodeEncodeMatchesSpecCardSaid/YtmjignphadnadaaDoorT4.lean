/- Plain laws of the opcodes, 4: what was encoded is decoded; the law. -/
import Derived.Test.YtmjignphadnadaaDoorT3
set_option linter.unusedVariables false
set_option linter.unusedSimpArgs false
namespace Go.Proofs.YtmjignphadnadaaDoorF
open Go Go.Proofs

theorem get_drop {α : Type} {b r : List α} {at_ : Nat} {x : α} (h : b.drop at_ = x :: r) : b[at_]? = some x ∧ b.drop (at_ + 1) = r := by
  have h0 : (b.drop at_)[0]? = some x := by rw [h]; rfl
  rw [List.getElem?_drop] at h0
  refine ⟨by simpa using h0, ?_⟩
  rw [← List.drop_drop, h]
  rfl
theorem d12_3 (n : Nat) (b : List Int) (fr : Int) (hn : 10 ≤ n) (hl : b.length ≤ 1000000) (at_ : Nat) (x : Int) (rest : List Int) (h0 : 0 ≤ x) (h1 : x ≤ 16000) (hd : b.drop at_ = sept 1 x ++ rest) :
    loopP (pb12_3 n b fr) n ((at_ : Int), 0, 0) = some (.inr (((at_ + (sept 1 x).length : Nat) : Int), x)) := by
  obtain ⟨m, rfl⟩ : ∃ m, n = m + 2 := ⟨n - 2, by omega⟩
  have lt_of : ∀ {i : Nat} {c : Int}, b[i]? = some c → i < b.length := fun h => (List.getElem?_eq_some_iff.1 h).1
  by_cases hx : x < 128
  · have es : sept 1 x = [x] := by simp [sept, hx]
    rw [es] at hd ⊢
    obtain ⟨g1, g2⟩ := get_drop hd
    have hlt := lt_of g1
    unfold loopP pb12_3
    rw [if_neg (by simp; omega), rd_nat g1]
    dsimp only
    rw [wr (x := x) (by omega) (by omega), and127 x h0 (by omega), wr (x := x % 128) (by omega) (by omega), show x % 128 = x by omega]
    have esh : ∀ {ρ : Type} (K : Int → Option ρ), shlP .i64 x 0 K = K (x * 2 ^ 0) := by
      intro ρ K
      unfold shlP
      rw [if_neg (by omega)]
      have : min (0 : Int).toNat (IntKind.bits .i64) = 0 := rfl
      rw [this, wr (by omega) (by omega)]
    rw [esh, or_add 0 x 0 (by omega) (by omega) h0 (by omega)]
    simp only [pj]
    rw [wr (x := 0 + x * 2 ^ 0) (by omega) (by omega), wr (x := (at_ : Int) + 1) (by omega) (by omega), if_pos (by simpa using hx)]
    have e1 : 0 + x * 2 ^ 0 = x := by omega
    rw [e1]
    by_cases hx0 : x = 0
    · subst hx0
      simp
    · rw [if_neg (by simpa using hx0), if_neg (by simp; omega)]
      simp
  · have es : sept 1 x = [x % 128 + 128, x / 128] := by simp [sept, hx]
    rw [es] at hd ⊢
    obtain ⟨g1, g2⟩ := get_drop hd
    obtain ⟨g3, g4⟩ := get_drop g2
    have hlt := lt_of g1
    have hlt3 := lt_of g3
    have st1 : pb12_3 (m + 2) b fr ((at_ : Int), 0, 0) = some (.inl (((at_ + 1 : Nat) : Int), x % 128, 7)) := by
      unfold pb12_3
      rw [if_neg (by simp; omega), rd_nat g1]
      dsimp only
      have em : (x % 128 + 128) % 128 = x % 128 := by omega
      rw [wr (x := x % 128 + 128) (by omega) (by omega), and127 _ (by omega) (by omega), em, wr (x := x % 128) (by omega) (by omega)]
      have esh : ∀ {ρ : Type} (K : Int → Option ρ), shlP .i64 (x % 128) 0 K = K (x % 128 * 2 ^ 0) := by
        intro ρ K
        unfold shlP
        rw [if_neg (by omega)]
        have : min (0 : Int).toNat (IntKind.bits .i64) = 0 := rfl
        rw [this, wr (by omega) (by omega)]
      rw [esh, or_add 0 (x % 128) 0 (by omega) (by omega) (by omega) (by omega), wr (x := 0 + x % 128 * 2 ^ 0) (by omega) (by omega), wr (x := (at_ : Int) + 1) (by omega) (by omega), if_neg (by simp; omega), wr (x := (0 : Int) + 7) (by omega) (by omega), if_neg (by simp)]
      have e1 : 0 + x % 128 * 2 ^ 0 = x % 128 := by omega
      rw [e1]
      rfl
    unfold loopP
    rw [st1]
    dsimp only
    unfold loopP
    have st2 : pb12_3 (m + 2) b fr (((at_ + 1 : Nat) : Int), x % 128, 7) = some (.inr (.inr (((at_ + 2 : Nat) : Int), x))) := by
      unfold pb12_3
      rw [if_neg (by simp; omega), rd_nat g3]
      dsimp only
      rw [wr (x := x / 128) (by omega) (by omega), and127 _ (by omega) (by omega), show x / 128 % 128 = x / 128 by omega, wr (x := x / 128) (by omega) (by omega)]
      have esh : ∀ {ρ : Type} (K : Int → Option ρ), shlP .i64 (x / 128) 7 K = K (x / 128 * 2 ^ 7) := by
        intro ρ K
        unfold shlP
        rw [if_neg (by omega)]
        have : min (7 : Int).toNat (IntKind.bits .i64) = 7 := rfl
        rw [this, wr (by omega) (by omega)]
      rw [esh, or_add (x % 128) (x / 128) 7 (by omega) (by omega) (by omega) (by omega)]
      simp only [pj]
      have e1 : x % 128 + x / 128 * 2 ^ 7 = x := by omega
      rw [e1, wr (x := x) (by omega) (by omega), wr (x := ((at_ + 1 : Nat) : Int) + 1) (by omega) (by omega), if_pos (by simp; omega), if_neg (by simp; omega), if_neg (by simp; omega)]
      congr 3
    rw [st2]
    rfl
theorem d12_2 (n : Nat) (b : List Int) (fr : Int) (hn : 10 ≤ n) (hl : b.length ≤ 1000000) (at_ : Nat) (o a c : Int) (rest : List Int) (ha : 0 ≤ a ∧ a ≤ 16000) (hc : 0 ≤ c ∧ c ≤ 16000) (h1 : kk o < 1 → a = 0) (h2 : kk o < 2 → c = 0)
    (hd : b.drop at_ = (if kk o ≥ 1 then sept 1 a else []) ++ (if kk o ≥ 2 then sept 1 c else []) ++ rest) :
    loopP (pb12_2 n b fr (kk o)) n ((at_ : Int), 0, 0, 0) = some (.inl (((at_ + ((if kk o ≥ 1 then sept 1 a else []) ++ (if kk o ≥ 2 then sept 1 c else [])).length : Nat) : Int), a, c, kk o)) := by
  obtain ⟨m, rfl⟩ : ∃ m, n = m + 3 := ⟨n - 3, by omega⟩
  have hkc := kk_cases o
  generalize kk o = k at hkc h1 h2 hd
  rcases hkc with rfl | rfl | rfl
  · have ha0 := h1 (by omega)
    have hc0 := h2 (by omega)
    subst ha0; subst hc0
    unfold loopP pb12_2
    rw [if_neg (by simp)]
    simp
  · have hc0 := h2 (by omega)
    subst hc0
    simp only [ge_iff_le, Int.le_refl, if_true, show ¬ (2 : Int) ≤ 1 by omega, if_false, List.append_nil] at hd ⊢
    have e := d12_3 (m + 3) b fr hn hl at_ a rest ha.1 ha.2 hd
    have st1 : pb12_2 (m + 3) b fr 1 ((at_ : Int), 0, 0, 0) = some (.inl (((at_ + (sept 1 a).length : Nat) : Int), a, 0, 1)) := by
      unfold pb12_2
      rw [if_pos (by simp)]
      dsimp only
      rw [e]
      rfl
    unfold loopP
    rw [st1]
    dsimp only
    unfold loopP pb12_2
    rw [if_neg (by simp)]
  · simp only [ge_iff_le, Int.le_refl, if_true, show (1 : Int) ≤ 2 by omega] at hd ⊢
    have e := d12_3 (m + 3) b fr hn hl at_ a (sept 1 c ++ rest) ha.1 ha.2 (by rw [hd]; simp)
    have hd2 : b.drop (at_ + (sept 1 a).length) = sept 1 c ++ rest := by rw [← List.drop_drop, hd, List.append_assoc, List.drop_left]
    have e2 := d12_3 (m + 3) b fr hn hl (at_ + (sept 1 a).length) c rest hc.1 hc.2 hd2
    have st1 : pb12_2 (m + 3) b fr 2 ((at_ : Int), 0, 0, 0) = some (.inl (((at_ + (sept 1 a).length : Nat) : Int), a, 0, 1)) := by
      unfold pb12_2
      rw [if_pos (by simp)]
      dsimp only
      rw [e]
      rfl
    have st2 : pb12_2 (m + 3) b fr 2 (((at_ + (sept 1 a).length : Nat) : Int), a, 0, 1) = some (.inl (((at_ + (sept 1 a).length + (sept 1 c).length : Nat) : Int), a, c, 2)) := by
      unfold pb12_2
      rw [if_pos (by simp)]
      dsimp only
      rw [e2]
      rfl
    unfold loopP
    rw [st1]
    dsimp only
    unfold loopP
    rw [st2]
    dsimp only
    unfold loopP pb12_2
    rw [if_neg (by simp)]
    simp
    omega
def good (l : List Ins) : Prop := l.length ≤ 60000 ∧ ∀ i, i < l.length → insF l i = 0
theorem good_get {l : List Ins} (h : good l) {i : Nat} {o a b : Int} (hx : l[i]? = some (o, a, b)) : (0 ≤ o ∧ o < 80) ∧ (0 ≤ a ∧ a ≤ 16000) ∧ (0 ≤ b ∧ b ≤ 16000) ∧ (kk o < 1 → a = 0) ∧ (kk o < 2 → b = 0) := by
  have hf := h.2 i (List.getElem?_eq_some_iff.1 hx).1
  rw [insF_get hx] at hf
  dsimp only at hf
  split at hf
  · cases hf
  · split at hf
    · cases hf
    · omega
theorem flat_split (l : List Ins) (i : Nat) : (l.flatMap insB).drop ((l.take i).flatMap insB).length = (l.drop i).flatMap insB := by
  conv => lhs; rw [← List.take_append_drop i l, List.flatMap_append]
  rw [List.take_append_drop, List.drop_left]
theorem s12 {n : Nat} (l : List Ins) (h : good l) (hn : 400000 ≤ n) : p12 n (l.flatMap insB) = some (l, (0, 0)) := by
  obtain ⟨n, rfl⟩ : ∃ m, n = m + 1 := ⟨n - 1, by omega⟩
  have hfl := flat_len l
  have hll := h.1
  rw [p12, s17 (by omega)]
  simp only [Option.bind_some]
  rw [loop_to (s0 := (([] : List Ins), (0 : Int))) (fun i => (l.take i, ((((l.take i).flatMap insB).length : Nat) : Int))) l.length n (.inl (l, (((l.flatMap insB).length : Nat) : Int))) (by omega) ?_ ?_ (by simp)]
  · rfl
  · intro i hi
    have hx := get_of_lt hi
    have hs := flat_split l i
    rw [List.drop_eq_getElem_cons hi, List.flatMap_cons] at hs
    rw [flat_take hx, take_succ hx]
    have hlt := List.length_take_le i l
    have hcl : ((l.take i).length) = i := by simp; omega
    generalize l[i] = x at hx hs
    obtain ⟨o, a, b⟩ := x
    obtain ⟨ho, ha, hb, k1, k2⟩ := good_get h hx
    have hs1 : (l.flatMap insB).drop ((l.take i).flatMap insB).length = o :: ((if kk o ≥ 1 then sept 1 a else []) ++ (if kk o ≥ 2 then sept 1 b else []) ++ (l.drop (i + 1)).flatMap insB) := by
      rw [hs]
      simp [insB]
    obtain ⟨g1, g2⟩ := get_drop hs1
    have hp := (List.getElem?_eq_some_iff.1 g1).1
    obtain ⟨e, e1, e2⟩ := kk_tab ho.1 ho.2
    have e2' : opn (e.1, e.2.1, e.2.2) = kk o := e2
    unfold pb12_1
    rw [if_pos (by simp only [decide_eq_true_eq]; omega), rd_nat g1]
    dsimp only
    rw [wr (x := o) (by omega) (by omega), s18 _ _ (by omega), tab_len]
    simp only [Option.bind_some]
    rw [if_neg (by simp; omega), if_neg (by simp; omega), rd_int ho.1 e1, s19 _ (by omega), e2']
    simp only [Option.bind_some]
    rw [wr (x := ((((l.take i).flatMap insB).length : Nat) : Int) + 1) (by omega) (by omega)]
    have hd := d12_2 n (l.flatMap insB) ((((l.take i).flatMap insB).length : Nat) : Int) (by omega) (by omega) (((l.take i).flatMap insB).length + 1) o a b _ ha hb k1 k2 g2
    rw [show ((((l.take i).flatMap insB).length : Nat) : Int) + 1 = ((((l.take i).flatMap insB).length + 1 : Nat) : Int) by omega, hd]
    simp only [Option.bind_some]
    rw [apP_ok (by simp; omega)]
    congr 3
    rw [List.length_append]
    simp [insB]
    omega
  · unfold pb12_1
    rw [if_neg (by rw [List.take_length]; simp), List.take_length]
theorem s11 {n : Nat} (a b : List Int) (hl : a.length + 3 < n) (hb : a.length ≤ 1000000000000) : p11 n a b = some (decide (a = b)) := by
  obtain ⟨n, rfl⟩ : ∃ m, n = m + 1 := ⟨n - 1, by omega⟩
  rw [p11]
  by_cases hlen : a.length = b.length
  · have hloop := eq_loop (body := pb11_1 n a b) a b n hlen (by omega) (fun i x y hx hy => by
      have hi := (List.getElem?_eq_some_iff.1 hx).1
      unfold pb11_1
      rw [if_pos (by simp; omega), rd_nat hx, rd_nat hy, wr (x := (i : Int) + 1) (by omega) (by omega)]
      by_cases h1 : x = y
      · simp [h1]
      · simp [h1]) (by
      unfold pb11_1
      rw [if_neg (by simp)])
    rw [if_neg (by simp; omega), hloop]
    by_cases h : a = b <;> simp [h]
  · rw [if_pos (by simp; omega)]
    have : a ≠ b := by rintro rfl; exact hlen rfl
    simp [this]
theorem s13 {n : Nat} (a b : List Ins) (hl : a.length + 3 < n) (hb : a.length ≤ 1000000000000) : p13 n a b = some (decide (a = b)) := by
  obtain ⟨n, rfl⟩ : ∃ m, n = m + 1 := ⟨n - 1, by omega⟩
  rw [p13]
  by_cases hlen : a.length = b.length
  · have hloop := eq_loop (body := pb13_1 n a b) a b n hlen (by omega) (fun i x y hx hy => by
      have hi := (List.getElem?_eq_some_iff.1 hx).1
      unfold pb13_1
      rw [if_pos (by simp; omega), rd_nat hx, rd_nat hy, wr (x := (i : Int) + 1) (by omega) (by omega)]
      obtain ⟨x1, x2, x3⟩ := x
      obtain ⟨y1, y2, y3⟩ := y
      by_cases h1 : x1 = y1
      · by_cases h2 : x2 = y2
        · by_cases h3 : x3 = y3
          · simp [h1, h2, h3]
          · simp [h1, h2, h3]
        · simp [h1, h2]
      · simp [h1]) (by
      unfold pb13_1
      rw [if_neg (by simp)])
    rw [if_neg (by simp; omega), hloop]
    by_cases h : a = b <;> simp [h]
  · rw [if_pos (by simp; omega)]
    have : a ≠ b := by rintro rfl; exact hlen rfl
    simp [this]
theorem s16 {n : Nat} (a b : List ByteArray) (hl : a.length + 3 < n) (hb : a.length ≤ 1000000000000) (he : a = b) : p16 n a b = some true := by
  subst he
  obtain ⟨n, rfl⟩ : ∃ m, n = m + 1 := ⟨n - 1, by omega⟩
  rw [p16, if_neg (by simp), loop_to (s0 := (0 : Int)) (fun i => (i : Int)) a.length n (.inl (a.length : Int)) (by omega) ?_ ?_ rfl]
  · rfl
  · intro i hi
    have hx := get_of_lt hi
    unfold pb16_1
    rw [if_pos (by simp; omega), rd_nat hx, rd_nat hx, wr (x := (i : Int) + 1) (by omega) (by omega)]
    simp
  · unfold pb16_1
    rw [if_neg (by simp)]
theorem tab_cN : tab.map (fun x => x.1) = cN := by
  have h := congrArg (List.map mkB) tab_names
  rw [List.map_map, List.map_map] at h
  exact h
theorem s6 {n : Nat} (hn : 1000 < n) : p6 n = some cN := by
  obtain ⟨n, rfl⟩ : ∃ m, n = m + 1 := ⟨n - 1, by omega⟩
  have ht := tab_len
  rw [p6, s17 (by omega)]
  simp only [Option.bind_some]
  rw [loop_to (s0 := (([] : List ByteArray), (0 : Int))) (fun i => ((tab.take i).map (fun x => x.1), (i : Int))) 80 n (cN, 80) (by omega) ?_ ?_ (by simp)]
  · rfl
  · intro i hi
    have hx := get_of_lt (show i < tab.length by omega)
    unfold pb6_1
    rw [if_pos (by rw [ht]; simp; omega), rd_nat hx]
    have := List.length_take_le i tab
    rw [apP_ok (by simp; omega), wr (x := (i : Int) + 1) (by omega) (by omega), take_succ hx, List.map_append]
    rfl
  · unfold pb6_1
    rw [if_neg (by rw [ht]; simp), List.take_of_length_le (by omega), tab_cN]
    rfl
theorem s7 {n : Nat} (o : Int) (hn : 10 < n) : p7 n o = some (if 0 ≤ o ∧ o < 80 then kk o else 0) := by
  obtain ⟨n, rfl⟩ : ∃ m, n = m + 1 := ⟨n - 1, by omega⟩
  rw [p7, s17 (by omega)]
  simp only [Option.bind_some]
  rw [s18 _ _ (by omega), tab_len]
  simp only [Option.bind_some]
  by_cases h : 0 ≤ o ∧ o < 80
  · obtain ⟨e, e1, e2⟩ := kk_tab h.1 h.2
    have e2' : opn (e.1, e.2.1, e.2.2) = kk o := e2
    rw [if_neg (by simp; omega), rd_int h.1 e1, s19 _ (by omega), e2', if_pos h]
    rfl
  · rw [if_pos (by simp; omega), if_neg h]
theorem s8 {n : Nat} (o : Int) (hn : 0 < n) : p8 n cO o = some (if 0 ≤ o ∧ o < 80 then kk o else 0) := by
  obtain ⟨n, rfl⟩ : ∃ m, n = m + 1 := ⟨n - 1, by omega⟩
  rw [p8, cO_len]
  simp only [pj]
  by_cases h : 0 ≤ o ∧ o < 80
  · obtain ⟨e, e1, e2⟩ := kk_ops h.1 h.2
    rw [if_neg (by simp; omega), if_neg (by simp; omega), rd_int h.1 e1, e2, if_pos h]
  · rw [if_neg h]
    by_cases h0 : o < 0
    · rw [if_pos (by simpa using h0)]
      rfl
    · rw [if_neg (by simpa using h0), if_pos (by simp; omega)]
theorem encR_cases (l : List Ins) : (good l ∧ encR l = (l.flatMap insB, (0, 0))) ∨ ((encR l).1 = [] ∧ (encR l).2.1 ≠ 0) := by
  unfold encR good
  by_cases h0 : l.length > 60000
  · right
    rw [if_pos h0]
    exact ⟨rfl, by decide⟩
  · rw [if_neg h0]
    by_cases hf : (firstBad (insF l) l.length).1 = 0
    · left
      rw [if_pos hf]
      exact ⟨⟨by omega, firstBad_ok hf⟩, rfl⟩
    · right
      rw [if_neg hf]
      exact ⟨rfl, hf⟩
theorem law (l : List Ins) (o : Int) : p3 1000000 l o = some true := by
  obtain ⟨n, hn, e⟩ : ∃ n, 999990 ≤ n ∧ 1000000 = n + 1 := ⟨999999, by omega, rfl⟩
  have hcl : cN.length = 80 := by simp [cN, cW_len]
  have h5 : p5 n cN cN = some true := by
    obtain ⟨m, rfl⟩ : ∃ m, n = m + 1 := ⟨n - 1, by omega⟩
    rw [p5, s16 _ _ (by omega) (by omega) rfl]
    rfl
  rw [e, p3, s4 (by omega)]
  simp only [Option.bind_some, pj]
  rw [s6 (by omega)]
  simp only [Option.bind_some]
  rw [h5, s7 o (by omega), s8 o (by omega), s9 l (by omega), s10 l (by omega)]
  simp only [Option.bind_some, Bool.not_true, Bool.false_eq_true, if_false, bne_self_eq_false]
  rcases encR_cases l with ⟨hg, he⟩ | ⟨h1, h2⟩
  · have hfl := flat_len l
    have hll := hg.1
    rw [he]
    have h11 : p11 n (l.flatMap insB) (l.flatMap insB) = some true := by rw [s11 _ _ (by omega) (by omega)]; simp
    have h13 : p13 n l l = some true := by rw [s13 _ _ (by omega) (by omega)]; simp
    have h12 := s12 (n := n) l hg (by omega)
    simp [h11, h12, h13]
  · rw [h1]
    have h11 : p11 n [] [] = some true := by rw [s11 _ _ (by simp; omega) (by simp)]; simp
    simp [h11, h2]
end Go.Proofs.YtmjignphadnadaaDoorF
