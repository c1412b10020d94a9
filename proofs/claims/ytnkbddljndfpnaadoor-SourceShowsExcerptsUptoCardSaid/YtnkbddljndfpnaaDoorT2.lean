/- Sources: what is permitted. -/
import Derived.Test.YtnkbddljndfpnaaDoorP1
import Derived.Test.YtnkbddljndfpnaaDoorT1
set_option linter.unusedVariables false
set_option linter.unusedSimpArgs false
namespace Go.Proofs.YtnkbddljndfpnaaDoorF
open Go Go.Proofs
set_option maxRecDepth 100000

theorem p38_ok {n : Nat} (hn : 1 ≤ n) {l : List UInt8} (h : l ≠ []) : p38 n (mkB l) = some (((dec l).1 : Int), ((dec l).2 : Int)) := by
  obtain ⟨n, rfl⟩ : ∃ m, n = m + 1 := ⟨n - 1, by omega⟩
  simp only [p38]
  rw [decodeGo_drop h]
theorem p17_ok {n : Nat} (hn : 1 ≤ n) (a b : Int) : p17 n a b = some (a, b) := by
  obtain ⟨n, rfl⟩ : ∃ m, n = m + 1 := ⟨n - 1, by omega⟩
  rfl
theorem drop_ne {l : List UInt8} {t : Nat} (h : t < l.length) : l.drop t ≠ [] := fun e => by
  have := congrArg List.length e
  rw [List.length_drop] at this
  simp at this
  omega
theorem rest_eq {l : List UInt8} {t : Nat} {ρ : Type} {K : ByteArray → Option ρ} (h : t ≤ l.length) : subP (mkB l) (t : Int) ((mkB l).size : Nat) K = K (mkB (l.drop t)) := by
  rw [mkB_size, subP_ok h (Nat.le_refl _), List.take_length]
/-- The width of what is read, and what is left. -/
theorem dec_w {l : List UInt8} (h : l ≠ []) : 1 ≤ (dec l).2 ∧ (dec l).2 ≤ l.length := by
  have hl : 1 ≤ l.length := Nat.one_le_iff_ne_zero.2 fun e => h (List.length_eq_zero_iff.1 e)
  cases hd l h with
  | good c r rest e k hr d => rw [d, e]; have := k.len; simp; omega
  | bad r w d hw hr => rw [d]; simp only; omega
theorem cz1 (r k : Nat) : decide ((r : Int) < (k : Int)) = decide (r < k) := by simp
theorem cz2 (r k : Nat) : ((r : Int) == (k : Int)) = decide (r = k) := by
  by_cases h : r = k
  · subst h; simp
  · have : ¬ (r : Int) = k := by omega
    simp [h, this]
theorem cz3 (r k : Nat) : ((r : Int) != (k : Int)) = !decide (r = k) := by
  unfold bne
  rw [cz2]
theorem cz4 (r k : Nat) : decide ((r : Int) ≤ (k : Int)) = decide (r ≤ k) := by simp
theorem b16 {n : Nat} (hn : 1 ≤ n) {l : List UInt8} {t : Nat} (h : t < l.length) :
    pb16_1 n (mkB l) t = if badB (dec (l.drop t)).1 (dec (l.drop t)).2 then some (.inr (.inl (t : Int))) else some (.inl (t + (dec (l.drop t)).2)) := by
  unfold pb16_1 nxP
  rw [if_pos (by rw [mkB_size]; exact h), decode_drop]
  dsimp only
  rw [rest_eq (by omega), p38_ok hn (drop_ne h)]
  simp only [Option.bind_some, pj]
  have hw := dec_w (drop_ne h)
  generalize (dec (l.drop t)).1 = r at *
  generalize (dec (l.drop t)).2 = w at *
  unfold badB
  rw [show ((r : Int) == 65533) = decide (r = 65533) from cz2 r 65533, show ((r : Int) != 10) = !decide (r = 10) from cz3 r 10, show ((w : Int) == 1) = decide (w = 1) from cz2 w 1, show decide ((r : Int) < 32) = decide (r < 32) from cz1 r 32,
    show decide (w ≤ 1) = decide (w = 1) by by_cases h : w = 1 <;> simp [h] <;> omega]
  by_cases h1 : r < 32 <;> by_cases h2 : r = 10 <;> by_cases h3 : r = 65533 <;> by_cases h4 : w = 1 <;> simp [h1, h2, h3, h4]
theorem b16_end {n : Nat} {l : List UInt8} {t : Nat} (h : ¬ t < l.length) : pb16_1 n (mkB l) t = some (.inr (.inr t)) := by
  unfold pb16_1 nxP
  rw [if_neg (by rw [mkB_size]; exact h)]
def chk (l : List UInt8) : Int × Int := if l.length > 16000 then (3, -1) else match fbad l with | some p => (1, (p : Int)) | none => (0, 0)
theorem p16_ok {n : Nat} {l : List UInt8} (hn : l.length + 20 ≤ n) : p16 n (mkB l) = some (chk l) := by
  obtain ⟨n, rfl⟩ : ∃ m, n = m + 1 := ⟨n - 1, by omega⟩
  rw [p16]
  unfold chk
  rw [mkB_size]
  by_cases hb : l.length > 16000
  · rw [if_pos hb, if_pos (by simp; omega)]
  rw [if_neg hb, if_neg (by simp; omega)]
  obtain ⟨t, e, hq⟩ := loop_inv (body := pb16_1 n (mkB l)) (fun t => t ≤ l.length ∧ ∃ k, (l.drop t).length < k ∧ fb k (l.drop t) t = fbad l) (fun t => l.length - t)
    (fun r => match r with | .inl p => ∃ q : Nat, fbad l = some q ∧ p = (q : Int) | .inr _ => fbad l = none) (fun t ⟨ht, k, hk, hf⟩ => by
      by_cases h : t < l.length
      · rw [b16 (by omega) h]
        have hw := dec_w (drop_ne h)
        rw [List.length_drop] at hw
        obtain ⟨k, rfl⟩ : ∃ m, k = m + 1 := ⟨k - 1, by omega⟩
        unfold fb at hf
        rw [if_neg (drop_ne h)] at hf
        by_cases hb : badB (dec (l.drop t)).1 (dec (l.drop t)).2 = true
        · rw [if_pos hb]
          rw [if_pos hb] at hf
          exact .inr ⟨_, rfl, t, hf.symm, rfl⟩
        · rw [if_neg hb]
          rw [if_neg hb, List.drop_drop] at hf
          refine .inl ⟨_, rfl, ⟨by omega, k, ?_, hf⟩, by omega⟩
          rw [List.length_drop] at hk ⊢
          omega
      · rw [b16_end h]
        refine .inr ⟨_, rfl, ?_⟩
        have h0 : l.drop t = [] := List.drop_eq_nil_of_le (by omega)
        obtain ⟨k, rfl⟩ : ∃ m, k = m + 1 := ⟨k - 1, by omega⟩
        unfold fb at hf
        rw [if_pos h0] at hf
        exact hf.symm) n 0 ⟨by omega, l.length + 1, by simp, rfl⟩ (by simp; omega)
  rw [e]
  cases t with
  | inl p =>
    obtain ⟨q, h1, rfl⟩ := hq
    rw [h1]; rfl
  | inr q =>
    have hq : fbad l = none := hq
    rw [hq]; rfl

/-! ### Widths -/
def wid : Nat → List UInt8 → List Int
  | 0, _ => []
  | k + 1, l => if l = [] then [] else if badB (dec l).1 (dec l).2 then (-1) :: wid k (l.drop 1) else (((dec l).2 : Nat) : Int) :: (List.replicate ((dec l).2 - 1) 0 ++ wid k (l.drop (dec l).2))
def wids (l : List UInt8) : List Int := wid (l.length + 1) l
theorem set_at {A : List Int} {m : Nat} {x : Int} (h : 0 < m) : List.set (A ++ List.replicate m 0) A.length x = (A ++ [x]) ++ List.replicate (m - 1) 0 := by
  obtain ⟨m, rfl⟩ : ∃ k, m = k + 1 := ⟨m - 1, by omega⟩
  rw [List.set_append_right _ _ (Nat.le_refl _)]
  simp [List.replicate_succ]
theorem p37_ok {n : Nat} {l : List UInt8} (hn : l.length + 20 ≤ n) (hl : l.length ≤ 16000) : p37 n (mkB l) = some (wids l) := by
  obtain ⟨n, rfl⟩ : ∃ m, n = m + 1 := ⟨n - 1, by omega⟩
  rw [p37]
  unfold mkP
  rw [mkB_size]
  rw [if_pos (by omega), if_pos (by omega), if_pos (by omega)]
  simp only [Int.toNat_natCast]
  obtain ⟨t, e, hq⟩ := loop_inv (body := pb37_1 n (mkB l)) (fun st => ∃ t A k, st = (A ++ List.replicate (l.length - t) 0, (t : Int)) ∧ t ≤ l.length ∧ A.length = t ∧ (l.drop t).length < k ∧ A ++ wid k (l.drop t) = wids l) (fun st => l.length - st.2.toNat)
    (fun r => r.1 = wids l) (fun st ⟨t, A, k, e, ht, hA, hk, hw⟩ => by
      subst e
      obtain ⟨k, rfl⟩ : ∃ m, k = m + 1 := ⟨k - 1, by omega⟩
      unfold pb37_1
      by_cases h : t < l.length
      · rw [if_pos (by rw [mkB_size]; simpa using h)]
        dsimp only
        rw [rest_eq (by omega), p38_ok (by omega) (drop_ne h)]
        simp only [Option.bind_some, pj, Bool.false_eq_true]
        have hd_ := hd _ (drop_ne h)
        have hww := dec_w (drop_ne h)
        rw [List.length_drop] at hww hk
        unfold wid at hw
        rw [if_neg (drop_ne h)] at hw
        have hrd : ∀ {ρ : Type} (K : Int → Option ρ), rd (A ++ List.replicate (l.length - t) 0) (t : Int) K = K 0 := fun K => rd_nat (by
          rw [List.getElem?_append_right (by omega), hA, Nat.sub_self, List.getElem?_replicate, if_pos (by omega)])
        rw [hrd, hrd]
        simp only [Int.toNat_natCast]
        have hset : ∀ x, List.set (A ++ List.replicate (l.length - t) (0 : Int)) t x = (A ++ [x]) ++ List.replicate (l.length - t - 1) 0 := fun x => by
          have := set_at (A := A) (m := l.length - t) (x := x) (by omega)
          rwa [hA] at this
        rw [hset, hset]
        have hbb : ∀ (X Y : Option (((List Int) × Int) ⊕ ((List Int) × Int))), (if (((dec (l.drop t)).1 : Int) == 65533) = true then if decide (((dec (l.drop t)).2 : Int) ≤ 1) = true then (if True then X else Y) else if decide (((dec (l.drop t)).1 : Int) < 32) = true then (if (((dec (l.drop t)).1 : Int) != 10) = true then X else Y) else (if False then X else Y) else if decide (((dec (l.drop t)).1 : Int) < 32) = true then (if (((dec (l.drop t)).1 : Int) != 10) = true then X else Y) else (if False then X else Y)) = if badB (dec (l.drop t)).1 (dec (l.drop t)).2 then X else Y := fun X Y => by
          generalize (dec (l.drop t)).1 = r
          generalize (dec (l.drop t)).2 = w
          unfold badB
          rw [show ((r : Int) == 65533) = decide (r = 65533) from cz2 r 65533, show ((r : Int) != 10) = !decide (r = 10) from cz3 r 10, show decide ((w : Int) ≤ 1) = decide (w ≤ 1) from cz4 w 1, show decide ((r : Int) < 32) = decide (r < 32) from cz1 r 32]
          by_cases h1 : r < 32 <;> by_cases h2 : r = 10 <;> by_cases h3 : r = 65533 <;> by_cases h4 : w ≤ 1 <;> simp [h1, h2, h3, h4]
        rw [hbb]
        by_cases hb : badB (dec (l.drop t)).1 (dec (l.drop t)).2 = true
        · rw [if_pos hb]
          rw [if_pos hb, List.drop_drop] at hw
          refine .inl ⟨_, rfl, ⟨t + 1, A ++ [-1], k, ?_, by omega, by simp [hA], by rw [List.length_drop]; omega, by simpa using hw⟩, ?_⟩
          · rw [wr (by omega) (by omega)]; simp; omega
          · rw [wr (by omega) (by omega)]; simp; omega
        · rw [if_neg hb]
          rw [if_neg hb, List.drop_drop] at hw
          refine .inl ⟨_, rfl, ⟨t + (dec (l.drop t)).2, A ++ ((((dec (l.drop t)).2 : Nat) : Int) :: List.replicate ((dec (l.drop t)).2 - 1) 0), k, ?_, by omega, by simp [hA]; omega, by rw [List.length_drop]; omega, by simpa using hw⟩, ?_⟩
          · rw [wr (by omega) (by omega)]
            refine Prod.ext ?_ (by simp)
            simp only [List.append_assoc, List.cons_append, List.nil_append]
            congr 2
            rw [List.replicate_append_replicate]
            congr 1
            omega
          · rw [wr (by omega) (by omega)]; simp; omega
      · rw [if_neg (by rw [mkB_size]; simpa using h)]
        refine .inr ⟨_, rfl, ?_⟩
        have h0 : l.drop t = [] := List.drop_eq_nil_of_le (by omega)
        have : l.length - t = 0 := by omega
        unfold wid at hw
        rw [if_pos h0] at hw
        simpa [this] using hw) n (List.replicate l.length 0, 0) ⟨0, [], l.length + 1, by simp, by omega, rfl, by simp, rfl⟩ (by simp; omega)
  rw [e]
  simp only [Option.bind_some]
  rw [hq]
end Go.Proofs.YtnkbddljndfpnaaDoorF
