/- Sources: the law of excerpts, plain. -/
import Derived.Test.YtnkbddljndfpnaaDoorT8
set_option linter.unusedVariables false
set_option linter.unusedSimpArgs false
namespace Go.Proofs.YtnkbddljndfpnaaDoorF
open Go Go.Proofs
set_option maxRecDepth 100000

theorem u8_eq {a : UInt8} {n : Nat} (h : n = a.toNat) : UInt8.ofNat n = a := by
  subst h
  exact UInt8.ofNat_toNat
theorem enc_ch {c : List UInt8} {r : Nat} (h : Ch c r) : Utf8.encode (r : Int) = mkB c := by
  have hv : Utf8.valid (r : Int) = true := by
    cases h with
    | one a h => unfold Utf8.valid; simp; omega
    | two a x h1 h2 h3 => unfold Utf8.valid; simp; omega
    | three a x y h1 h2 h3 h4 h5 => exact h5
    | four a x y z h1 h2 h3 h4 h5 h6 => exact h6
  unfold Utf8.encode
  rw [if_pos hv]
  simp only [Int.toNat_natCast]
  unfold mkB
  cases h with
  | one a h => rw [if_pos (by omega), u8_eq rfl]
  | two a x h1 h2 h3 =>
    have hx := x.toNat_lt
    have ha := a.toNat_lt
    rw [if_neg (by omega), if_pos (by omega), u8_eq (a := a) (by omega), u8_eq (a := x) (by omega)]
  | three a x y h1 h2 h3 h4 h5 =>
    have hx := x.toNat_lt
    have hy := y.toNat_lt
    have ha := a.toNat_lt
    rw [if_neg (by omega), if_neg (by omega), if_pos (by omega), u8_eq (a := a) (by omega), u8_eq (a := x) (by omega), u8_eq (a := y) (by omega)]
  | four a x y z h1 h2 h3 h4 h5 h6 =>
    have hx := x.toNat_lt
    have hy := y.toNat_lt
    have hz := z.toNat_lt
    have ha := a.toNat_lt
    rw [if_neg (by omega), if_neg (by omega), if_neg (by omega), u8_eq (a := a) (by omega), u8_eq (a := x) (by omega), u8_eq (a := y) (by omega), u8_eq (a := z) (by omega)]
def rn (c : List UInt8) : Int := ((dec c).1 : Int)
theorem dec_gd {c : List UInt8} (h : Gd c) (rest : List UInt8) : dec (c ++ rest) = ((dec c).1, c.length) ∧ Ch c (dec c).1 := by
  obtain ⟨r, hc, -⟩ := h
  have h1 := dec_ch hc rest
  have h2 := dec_ch hc []
  rw [List.append_nil] at h2
  rw [h1, h2]
  exact ⟨rfl, hc⟩
theorem runesN_gds : ∀ (cs : List (List UInt8)) (pre : List UInt8) (k : Nat), Gds cs → cs.flatten.length ≤ k → runesN (mkB (pre ++ cs.flatten)) k pre.length = cs.map rn
  | [], pre, k, _, _ => by
    cases k with
    | zero => rfl
    | succ k => unfold runesN; rw [if_neg (by simp)]; rfl
  | c :: cs, pre, k, hg, hk => by
    obtain ⟨h1, h2⟩ := dec_gd (hg c (by simp)) cs.flatten
    have hl := h2.len
    rw [List.flatten_cons, List.length_append] at hk
    obtain ⟨k, rfl⟩ : ∃ m, k = m + 1 := ⟨k - 1, by omega⟩
    unfold runesN
    rw [if_pos (by rw [mkB_size]; simp; omega), decode_drop, List.drop_left, List.flatten_cons, h1]
    have := runesN_gds cs (pre ++ c) k (fun d hd => hg d (by simp [hd])) (by omega)
    rw [List.length_append, List.append_assoc] at this
    rw [this]
    rfl
theorem runesOf_gds {cs : List (List UInt8)} (hg : Gds cs) : runesOf (mkB cs.flatten) = cs.map rn := by
  unfold runesOf
  rw [mkB_size]
  exact runesN_gds cs [] _ hg (Nat.le_refl _)
theorem runesBytes_gds {cs : List (List UInt8)} (hg : Gds cs) : runesBytes (cs.map rn) = mkB cs.flatten := by
  have key : ∀ (cs : List (List UInt8)) (a : List UInt8), Gds cs → (cs.map rn).foldl (fun r n => r ++ Utf8.encode n) (mkB a) = mkB (a ++ cs.flatten) := by
    intro cs
    induction cs with
    | nil => intro a _; simp
    | cons c cs ih =>
      intro a hg
      have h2 := (dec_gd (hg c (by simp)) []).2
      rw [List.map_cons, List.foldl_cons, show Utf8.encode (rn c) = mkB c from enc_ch h2, mkB_append, ih _ (fun d hd => hg d (by simp [hd])), List.flatten_cons, List.append_assoc]
  have := key cs [] hg
  rw [List.nil_append] at this
  exact this
theorem inter_nil (xs : List (List UInt8)) : Lib.join xs [] = xs.flatten := by
  unfold Lib.join List.intercalate
  induction xs with
  | nil => rfl
  | cons x xs ih =>
    cases xs with
    | nil => simp
    | cons y ys => simp at ih ⊢; rw [ih]
theorem p27_ok {n : Nat} (hn : 1 ≤ n) {cs : List (List UInt8)} (h1 : cs.length ≤ 16000) (h2 : cs.flatten.length ≤ 16000) : p27 n (cs.map mkB) (⟨#[]⟩ : ByteArray) = some (mkB cs.flatten) := by
  obtain ⟨n, rfl⟩ : ∃ m, n = m + 1 := ⟨n - 1, by omega⟩
  have e : joinB (cs.map mkB) (⟨#[]⟩ : ByteArray) = mkB cs.flatten := by
    unfold joinB
    rw [List.map_map]
    show mkB (Lib.join (cs.map ((fun b => b.data.toList) ∘ mkB)) []) = _
    rw [inter_nil, show ((fun b : ByteArray => b.data.toList) ∘ mkB) = id from funext fun x => rfl, List.map_id]
  unfold p27 joP
  rw [e, if_pos (by rw [mkB_size, List.length_map]; omega)]
theorem p40_ok {n : Nat} (hn : 1 ≤ n) {m : Nat} (h : m ≤ 100000) : ∃ l : List UInt8, l.length = m ∧ p40 n (⟨#[32]⟩ : ByteArray) (m : Int) = some (mkB l) := by
  obtain ⟨n, rfl⟩ : ∃ k, n = k + 1 := ⟨n - 1, by omega⟩
  refine ⟨Lib.repeatL [32] m, by rw [Lib.repeatL_length]; simp, ?_⟩
  unfold p40 repP
  rw [if_pos (by refine ⟨by omega, by omega, ?_⟩; show 1 * _ ≤ _; simp; omega)]
  simp [repeatB, mkB]
/-- What is shown of a line: from which letter on. -/
def stt (L c w : Int) : Int := if L ≤ w then 0 else if c - 1 - w / 2 < 0 then 0 else if L - w < c - 1 - w / 2 then L - w else c - 1 - w / 2
theorem stt_le {L c w : Int} (hL : 0 ≤ L) (hc : 1 ≤ c) (hc2 : c ≤ L + 1) (h1 : 20 ≤ w) : 0 ≤ stt L c w ∧ stt L c w ≤ c - 1 ∧ stt L c w ≤ L ∧ (stt L c w + w ≤ L ∨ (L ≤ w ∧ stt L c w = 0)) := by
  unfold stt
  split
  · omega
  · split
    · omega
    · split <;> omega
theorem tdiv2 {w : Int} (h : 0 ≤ w) : w.tdiv 2 = w / 2 := by rw [Int.tdiv_eq_ediv_of_nonneg h]
/-- The text of an excerpt: the same letters on both sides. -/
def exT (ln : List (List UInt8)) (c w : Int) (sp : List UInt8) : ByteArray := mkB ((((ln.drop (stt ln.length c w).toNat).take w.toNat).flatten ++ [10]) ++ sp ++ [94])
theorem start_eq {L c w : Int} (hL : 0 ≤ L) (hL2 : L ≤ 20000) (hc : 1 ≤ c) (hc2 : c ≤ L + 1) (h1 : 20 ≤ w) (h2 : w ≤ 200) :
    (if 0 < (if (IntKind.wrap .i64 (L - w)) < (IntKind.wrap .i64 ((IntKind.wrap .i64 (c - 1)) - w / 2)) then (IntKind.wrap .i64 (L - w)) else (IntKind.wrap .i64 ((IntKind.wrap .i64 (c - 1)) - w / 2))) then (if (IntKind.wrap .i64 (L - w)) < (IntKind.wrap .i64 ((IntKind.wrap .i64 (c - 1)) - w / 2)) then (IntKind.wrap .i64 (L - w)) else (IntKind.wrap .i64 ((IntKind.wrap .i64 (c - 1)) - w / 2))) else 0) = stt L c w := by
  rw [wr (x := L - w) (by omega) (by omega), wr (x := c - 1) (by omega) (by omega), wr (x := c - 1 - w / 2) (by omega) (by omega)]
  unfold stt
  by_cases e1 : L - w < c - 1 - w / 2
  · rw [if_pos e1]
    by_cases e2 : L ≤ w
    · rw [if_pos e2, if_neg (by omega)]
    · rw [if_neg e2, if_pos (by omega), if_neg (by omega)]
  · rw [if_neg e1]
    by_cases e2 : L ≤ w
    · rw [if_pos e2, if_neg (by omega)]
    · rw [if_neg e2]
      by_cases e3 : c - 1 - w / 2 < 0
      · rw [if_pos e3, if_neg (by omega)]
      · rw [if_neg e3]
        by_cases e4 : 0 < c - 1 - w / 2
        · rw [if_pos e4]
        · rw [if_neg e4]; omega
theorem slP_nat {α ρ : Type} {xs : List α} {l h : Int} {K : List α → Option ρ} (h1 : 0 ≤ l) (h2 : l ≤ h) (h3 : h ≤ xs.length) : slP xs l h K = K ((xs.drop l.toNat).take (h.toNat - l.toNat)) := by
  unfold slP
  rw [if_pos h1, if_pos h2, if_pos h3, List.drop_take]
theorem flat_sub (ln : List (List UInt8)) (a b : Nat) : ((ln.drop a).take b).flatten.length ≤ ln.flatten.length := by
  have h1 : ln = ln.take a ++ ((ln.drop a).take b ++ (ln.drop a).drop b) := by rw [List.take_append_drop, List.take_append_drop]
  have := congrArg (fun x => x.flatten.length) h1
  simp only [List.flatten_append, List.length_append] at this
  omega
end Go.Proofs.YtnkbddljndfpnaaDoorF
