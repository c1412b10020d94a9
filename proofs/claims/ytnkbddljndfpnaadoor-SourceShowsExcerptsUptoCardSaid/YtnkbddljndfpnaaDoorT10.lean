/- Sources: the law of excerpts, plain: the code and the specification show the same. -/
import Derived.Test.YtnkbddljndfpnaaDoorT9
set_option linter.unusedVariables false
set_option linter.unusedSimpArgs false
namespace Go.Proofs.YtnkbddljndfpnaaDoorF
open Go Go.Proofs
set_option maxRecDepth 100000

theorem wide_b (w : Int) : ((if decide (w < 20) = true then true else decide (w > 200)) : Bool) = decide (w < 20 ∨ 200 < w) := by
  by_cases h : w < 20
  · simp [h]
  · simp [h]
theorem sub_gds {ln : List (List UInt8)} (hg : Gds ln) (a b : Nat) : Gds ((ln.drop a).take b) := fun c hc => hg c (List.mem_of_mem_drop (List.mem_of_mem_take hc))
theorem offF_ok {cs : List (List UInt8)} {k c : Int} (h : (offF cs k c).2 = (0, 0)) : ∃ ln, 1 ≤ k ∧ (linesC cs)[k.toNat - 1]? = some ln ∧ 1 ≤ c ∧ c ≤ ln.length + 1 := by
  unfold offF at h
  split at h
  · simp at h
  · cases hl : (linesC cs)[k.toNat - 1]? with
    | none => rw [hl] at h; simp at h
    | some ln =>
      rw [hl] at h
      simp only at h
      split at h
      · simp at h
      · exact ⟨ln, by omega, rfl, by omega, by omega⟩
theorem offF_cases (cs : List (List UInt8)) (k c : Int) : (offF cs k c).2 = (0, 0) ∨ (offF cs k c).2.1 = 4 := by
  unfold offF
  split
  · exact .inr rfl
  · cases hl : (linesC cs)[k.toNat - 1]? with
    | none => exact .inr rfl
    | some ln =>
      simp only
      split
      · exact .inr rfl
      · exact .inl rfl
def endP (n : Nat) (x : ByteArray) (c t : Int) : Option (ByteArray × (Int × Int)) := catP x (⟨#[10]⟩ : ByteArray) (fun z109 => (p40 n (⟨#[32]⟩ : ByteArray) (IntKind.wrap .i64 ((IntKind.wrap .i64 (c - 1)) - t))).bind fun r110 => catP z109 r110 (fun z115 => catP z115 (⟨#[94]⟩ : ByteArray) (fun z116 => (some ((z116, (0, 0)) : (ByteArray × (Int × Int)))))))
theorem endP_ok {n : Nat} (hn : 1 ≤ n) {l : List UInt8} (hl : l.length ≤ 20000) {c t : Int} (h0 : 0 ≤ c - 1 - t) (h1 : c - 1 - t ≤ 20000) (ht : 0 ≤ t) (ht2 : t ≤ 20000) : ∃ r, endP n (mkB l) c t = some r := by
  obtain ⟨sp, hsp, hp⟩ := p40_ok hn (m := (c - 1 - t).toNat) (by omega)
  rw [show (((c - 1 - t).toNat : Nat) : Int) = c - 1 - t by omega] at hp
  refine ⟨(mkB (l ++ [10] ++ sp ++ [94]), (0, 0)), ?_⟩
  unfold endP
  rw [wr (x := c - 1) (by omega) (by omega), wr (by omega) (by omega)]
  rw [show (⟨#[10]⟩ : ByteArray) = mkB [10] from rfl, show (⟨#[94]⟩ : ByteArray) = mkB [94] from rfl, catP_ok (by simp; omega), hp]
  simp only [Option.bind_some]
  rw [catP_ok (by simp; omega), catP_ok (by simp; omega)]
/-- The code's side. -/
theorem left_eq {n : Nat} {ln : List (List UInt8)} (hg : Gds ln) {c w t : Int} (hl : ln.length ≤ 16000) (s0 : 0 ≤ t) (s2 : t ≤ ln.length) (s3 : t + w ≤ ln.length ∨ ((ln.length : Int) ≤ w ∧ t = 0)) (hw1 : 20 ≤ w) (hw2 : w ≤ 200) :
    slP (ln.map rn) t (if IntKind.wrap .i64 (t + w) < ((ln.length : Nat) : Int) then IntKind.wrap .i64 (t + w) else ((ln.length : Nat) : Int)) (fun y => endP n (runesBytes y) c t) = endP n (mkB ((ln.drop t.toNat).take w.toNat).flatten) c t := by
  rw [wr (x := t + w) (by omega) (by omega)]
  obtain ⟨e, he⟩ : ∃ e, (if t + w < (ln.length : Int) then t + w else (ln.length : Int)) = e := ⟨_, rfl⟩
  rw [he]
  have h1 : t ≤ e := by rw [← he]; split <;> omega
  have h2 : e ≤ ln.length := by rw [← he]; split <;> omega
  rw [slP_nat s0 h1 (by rw [List.length_map]; exact h2), ← List.map_drop, ← List.map_take, runesBytes_gds (sub_gds hg _ _)]
  have htk : (ln.drop t.toNat).take (e.toNat - t.toNat) = (ln.drop t.toNat).take w.toNat := by
    rw [← he]
    split
    · rw [show (t + w).toNat - t.toNat = w.toNat by omega]
    · rw [List.take_of_length_le (by rw [List.length_drop]; omega), List.take_of_length_le (by rw [List.length_drop]; omega)]
  exact congrArg (fun z : List (List UInt8) => endP n (mkB z.flatten) c t) htk
/-- The specification's side, where the line is wider than what is shown. -/
theorem right_wide {n : Nat} (hn : 1 ≤ n) {ln : List (List UInt8)} (hg : Gds ln) {c w : Int} (hl : ln.flatten.length ≤ 16000) (hc1 : 1 ≤ c) (hc2 : c ≤ ln.length + 1) (hw1 : 20 ≤ w) (hw2 : w ≤ 200) (hL : (ln.length : Int) > w) {t : Int} (hst : stt (ln.length : Int) c w = t) :
    (if decide ((IntKind.wrap .i64 ((IntKind.wrap .i64 (c - 1)) - w / 2)) < 0) = true then
        (if decide ((0 : Int) > IntKind.wrap .i64 ((ln.length : Int) - w)) = true then slP (ln.map mkB) (IntKind.wrap .i64 ((ln.length : Int) - w)) (IntKind.wrap .i64 (IntKind.wrap .i64 ((ln.length : Int) - w) + w)) (fun y88 => (p27 n y88 (⟨#[]⟩ : ByteArray)).bind fun r104 => endP n r104 c (IntKind.wrap .i64 ((ln.length : Int) - w)))
          else slP (ln.map mkB) 0 (IntKind.wrap .i64 (0 + w)) (fun y88 => (p27 n y88 (⟨#[]⟩ : ByteArray)).bind fun r104 => endP n r104 c 0))
      else (if decide ((IntKind.wrap .i64 ((IntKind.wrap .i64 (c - 1)) - w / 2)) > IntKind.wrap .i64 ((ln.length : Int) - w)) = true then slP (ln.map mkB) (IntKind.wrap .i64 ((ln.length : Int) - w)) (IntKind.wrap .i64 (IntKind.wrap .i64 ((ln.length : Int) - w) + w)) (fun y88 => (p27 n y88 (⟨#[]⟩ : ByteArray)).bind fun r104 => endP n r104 c (IntKind.wrap .i64 ((ln.length : Int) - w)))
          else slP (ln.map mkB) (IntKind.wrap .i64 ((IntKind.wrap .i64 (c - 1)) - w / 2)) (IntKind.wrap .i64 (IntKind.wrap .i64 ((IntKind.wrap .i64 (c - 1)) - w / 2) + w)) (fun y88 => (p27 n y88 (⟨#[]⟩ : ByteArray)).bind fun r104 => endP n r104 c (IntKind.wrap .i64 ((IntKind.wrap .i64 (c - 1)) - w / 2))))) = endP n (mkB ((ln.drop t.toNat).take w.toNat).flatten) c t := by
  have hcl := chars_le hg
  obtain ⟨s0, s1, s2, s3⟩ := stt_le (L := (ln.length : Int)) (c := c) (w := w) (by omega) hc1 hc2 hw1
  rw [hst] at s0 s1 s2 s3
  have fin : ∀ x, x = t → slP (ln.map mkB) x (IntKind.wrap .i64 (x + w)) (fun y88 => (p27 n y88 (⟨#[]⟩ : ByteArray)).bind fun r104 => endP n r104 c x) = endP n (mkB ((ln.drop t.toNat).take w.toNat).flatten) c t := fun x e => by
    subst e
    rw [wr (x := x + w) (by omega) (by omega), slP_nat (by omega) (by omega) (by rw [List.length_map]; omega), ← List.map_drop, ← List.map_take, show (x + w).toNat - x.toNat = w.toNat by omega]
    have hsl := chars_le (sub_gds hg x.toNat w.toNat)
    have hfs := flat_sub ln x.toNat w.toNat
    rw [p27_ok hn (by omega) (by omega), Option.bind_some]
  have w1 : IntKind.wrap .i64 ((ln.length : Int) - w) = (ln.length : Int) - w := wr (by omega) (by omega)
  have w2 : IntKind.wrap .i64 (IntKind.wrap .i64 (c - 1) - w / 2) = c - 1 - w / 2 := by rw [wr (x := c - 1) (by omega) (by omega), wr (by omega) (by omega)]
  rw [w1, w2]
  unfold stt at hst
  rw [if_neg (show ¬ (ln.length : Int) ≤ w by omega)] at hst
  by_cases e3 : c - 1 - w / 2 < 0
  · rw [if_pos e3] at hst
    rw [if_pos (by simpa using e3), if_neg (by simp; omega)]
    exact fin _ hst
  · rw [if_neg e3] at hst
    rw [if_neg (by simpa using e3)]
    by_cases e4 : (ln.length : Int) - w < c - 1 - w / 2
    · rw [if_pos e4] at hst
      rw [if_pos (by simpa using e4)]
      exact fin _ hst
    · rw [if_neg e4] at hst
      rw [if_neg (by simpa using e4)]
      exact fin _ hst
theorem show_eq {n : Nat} {l : List UInt8} (hn : l.length + 200 ≤ n) (hl0 : l.length ≤ 8796093022000) {k c w : Int} (k1 : -9223372036854775808 ≤ k) (k2 : k ≤ 9223372036854775807) : ∃ r, p21 n (mkB l) k c w = some r ∧ p22 n (mkB l) k c w = some r := by
  obtain ⟨n, rfl⟩ : ∃ m, n = m + 1 := ⟨n - 1, by omega⟩
  rw [p21, p22]
  rcases chk_vals l with h | ⟨h1, -, -⟩
  rotate_left
  · have h : chk l ≠ (0, 0) := fun e => h1 (by rw [e])
    rw [p11_bad (by omega) h, p20_bad (by omega) hl0 h]
    simp only [Option.bind_some, pj]
    refine ⟨(⟨#[]⟩, chk l), ?_, ?_⟩
    · rw [fault_if, if_neg h]
    · rw [if_neg (by simpa using h1)]
      simp only [Bool.false_eq_true, if_false]
      rw [if_pos (by simpa using h1)]
  obtain ⟨hl, cs, rfl, hg⟩ := chk_ok h
  rw [p11_ok hg (by omega) h hl k1 k2, p20_ok hg (by omega) h hl k1 k2]
  simp only [Option.bind_some, pj]
  rcases offF_cases cs k c with ho | ho
  rotate_left
  · refine ⟨(⟨#[]⟩, (offF cs k c).2), ?_, ?_⟩
    · rw [fault_if, if_neg (fun e => by rw [e] at ho; simp at ho)]
    · rw [ho, if_neg (by decide)]
      simp only [Bool.false_eq_true, if_false]
      rw [if_pos (by decide), ← ho]
  have hoz : (offF cs k c).2.1 = 0 := by rw [ho]
  obtain ⟨ln, hk, hln, hc1, hc2⟩ := offF_ok ho
  have e0 : ((offF cs k c).2.1 == 0) = true := by rw [hoz]; rfl
  rw [fault_if, if_pos ho, if_pos e0, p17_ok (by omega), hoz]
  simp only [Option.bind_some]
  by_cases hw : w < 20 ∨ 200 < w
  · refine ⟨(⟨#[]⟩, (4, -4)), ?_, ?_⟩
    · by_cases h1 : w < 20
      · have d1 : decide (w < 20) = true := by simpa using h1
        rw [d1]; simp only [if_true]
      · have d1 : decide (w < 20) = false := by simpa using h1
        have d2 : decide (w > 200) = true := by simp; omega
        rw [d1, d2]; simp only [Bool.false_eq_true, if_false, if_true]
    · by_cases h1 : w < 20
      · have d1 : decide (w < 20) = true := by simpa using h1
        rw [d1]; simp only [if_true]; rw [if_pos (by decide)]
      · have d1 : decide (w < 20) = false := by simpa using h1
        have d2 : decide (w > 200) = true := by simp; omega
        rw [d1, d2]; simp only [Bool.false_eq_true, if_false, if_true]; rw [if_pos (by decide)]
  have hw1 : 20 ≤ w := by omega
  have hw2 : w ≤ 200 := by omega
  have d1 : decide (w < 20) = false := by simp; omega
  have d2 : decide (w > 200) = false := by simp; omega
  rw [d1, d2]
  simp only [Bool.false_eq_true, if_false]
  rw [if_neg (show ¬ (((0 : Int) != 0) = true) by decide)]
  have hgl := line_gds hg hln
  have hlo := line_len hg hln
  have hcl := chars_le hgl
  rw [p36_ok (by omega) hl k1 k2, find_some hk hg hln, p13_ok (by omega) hl0]
  simp only [Option.bind_some]
  have hrd : ∀ {ρ : Type} (K : ByteArray → Option ρ), rd ((linesL cs.flatten).map mkB) (IntKind.wrap .i64 (k - 1)) K = K (mkB ln.flatten) := fun K => by
    have hlt := (List.getElem?_eq_some_iff.1 hln).1
    have := lines_len hg
    rw [wr (by omega) (by omega)]
    refine rd_int (by omega) ?_
    rw [linesL_chars hg, List.map_map, List.getElem?_map, show (k - 1).toNat = k.toNat - 1 by omega, hln]
    rfl
  rw [hrd, p39_ok hgl (by omega) (by omega)]
  simp only [Option.bind_some]
  rw [runesOf_gds hgl]
  simp only [List.length_map]
  have hdiv : ∀ {ρ : Type} (K : Int → Option ρ), divP .i64 w 2 K = K (w / 2) := fun K => by
    unfold divP
    rw [if_neg (by decide), tdiv2 (by omega), wr (by omega) (by omega)]
  rw [hdiv, hdiv, start_eq (L := (ln.length : Int)) (by omega) (by omega) hc1 hc2 hw1 hw2]
  obtain ⟨s0, s1, s2, s3⟩ := stt_le (L := (ln.length : Int)) (c := c) (w := w) (by omega) hc1 hc2 hw1
  have hfs := flat_sub ln (stt ln.length c w).toNat w.toNat
  obtain ⟨r, hr⟩ := endP_ok (n := n) (by omega) (l := ((ln.drop (stt ln.length c w).toNat).take w.toNat).flatten) (by omega) (c := c) (t := stt ln.length c w) (by omega) (by omega) (by omega) (by omega)
  refine ⟨r, Eq.trans (left_eq hgl (by omega) s0 s2 s3 hw1 hw2) hr, ?_⟩
  by_cases hL : (ln.length : Int) > w
  · rw [if_pos (by simpa using hL)]
    exact Eq.trans (right_wide (by omega) hgl (by omega) hc1 hc2 hw1 hw2 hL rfl) hr
  · rw [if_neg (by simpa using hL)]
    have hs0 : stt ln.length c w = 0 := by rcases s3 with h | ⟨_, h⟩ <;> omega
    rw [p27_ok (by omega) (by omega) (by omega), Option.bind_some]
    rw [hs0, Int.toNat_zero, List.drop_zero, List.take_of_length_le (by omega)] at hr
    exact hr
/-- The code shows an excerpt as the specification does. -/
theorem law5 {n : Nat} {l : List UInt8} (hn : l.length + 400 ≤ n) (hl0 : l.length ≤ 8796093022000) (k c w : Int) (k1 : -9223372036854775808 ≤ k) (k2 : k ≤ 9223372036854775807) : p5 n (mkB l) k c w = some true := by
  obtain ⟨n, rfl⟩ : ∃ m, n = m + 1 := ⟨n - 1, by omega⟩
  obtain ⟨r, h1, h2⟩ := show_eq (n := n) (l := l) (by omega) hl0 (k := k) (c := c) (w := w) k1 k2
  rw [p5, p9_ok (by omega), Option.bind_some, if_neg (by decide), h1, Option.bind_some, h2, Option.bind_some]
  simp only [pj]
  rw [if_pos (by simp)]
  simp
end Go.Proofs.YtnkbddljndfpnaaDoorF
