/- HasPrefix, TrimPrefix, Cut and Contains of one byte, told over lists. -/
import Derived.Test.YtckalckfihhldaaDoorT2
set_option linter.unusedVariables false
set_option linter.unusedSimpArgs false
namespace Go.Proofs.YtckalckfihhldaaDoorF
open Go Go.Proofs
set_option maxRecDepth 100000

theorem take_beq (l q : List UInt8) (h : q.length ≤ l.length) : (l.take q.length == q) = q.isPrefixOf l := by
  induction q generalizing l with
  | nil => simp
  | cons c q ih =>
    cases l with
    | nil => simp at h
    | cons d l =>
      have := ih l (by simpa using h)
      simp only [List.length_cons, List.take_succ_cons, List.isPrefixOf]
      rw [← this, List.cons_beq_cons]
      congr 1
      rw [Bool.eq_iff_iff]
      simp only [beq_iff_eq]
      exact eq_comm
theorem not_prefix (l q : List UInt8) (h : ¬ q.length ≤ l.length) : q.isPrefixOf l = false := by
  cases hh : q.isPrefixOf l with
  | false => rfl
  | true => exact absurd (List.isPrefixOf_iff_prefix.1 hh).length_le h
theorem p39_ok {n : Nat} (hn : 1 ≤ n) (l q : List UInt8) : p39 n (mkB l) (mkB q) = some (q.isPrefixOf l) := by
  obtain ⟨n, rfl⟩ : ∃ m, n = m + 1 := ⟨n - 1, by omega⟩
  rw [p39]
  simp only [pj, mkB_size]
  by_cases h : q.length ≤ l.length
  · rw [if_pos (by simpa using h)]
    have := subP_ok (l := l) (i := 0) (j := q.length) (K := fun z1 : ByteArray => some (z1.toList == (mkB q).toList)) (by omega) h
    rw [show (((0 : Nat) : Int)) = 0 from rfl] at this
    rw [this, List.drop_zero, toList_mkB, toList_mkB, take_beq l q h]
  · rw [if_neg (by simpa using h), not_prefix l q h]
theorem p24_ok {n : Nat} (hn : 2 ≤ n) (l q : List UInt8) : p24 n (mkB l) (mkB q) = some (q.isPrefixOf l) := by
  obtain ⟨n, rfl⟩ : ∃ m, n = m + 1 := ⟨n - 1, by omega⟩
  rw [p24, p39_ok (by omega)]
  rfl
theorem p25_ok {n : Nat} (hn : 3 ≤ n) (l q : List UInt8) : p25 n (mkB l) (mkB q) = some (mkB (if q.isPrefixOf l then l.drop q.length else l)) := by
  obtain ⟨n, rfl⟩ : ∃ m, n = m + 2 := ⟨n - 2, by omega⟩
  rw [p25, p40, p39_ok (by omega)]
  simp only [Option.bind_some]
  cases h : q.isPrefixOf l with
  | false => simp
  | true =>
    have hl := (List.isPrefixOf_iff_prefix.1 h).length_le
    rw [if_pos rfl, mkB_size, mkB_size, subP_ok hl (Nat.le_refl _), List.take_of_length_le (Nat.le_refl _)]
    rfl
theorem p23_ok {n : Nat} (hn : 4 ≤ n) (l : List UInt8) (c : UInt8) (hl : l.length ≤ 4611686018427387904) :
    (c ∉ l ∧ p23 n (mkB l) (mkB [c]) = some (mkB l, (⟨#[]⟩ : ByteArray), false)) ∨ ∃ x rest, l = x ++ c :: rest ∧ c ∉ x ∧ p23 n (mkB l) (mkB [c]) = some (mkB x, mkB rest, true) := by
  obtain ⟨n, rfl⟩ : ∃ m, n = m + 3 := ⟨n - 3, by omega⟩
  have e48 : p48 (n + 1) (mkB l) (mkB [c]) = some (Lib.indexByte l c) := rfl
  rw [p23, p38, e48]
  simp only [Option.bind_some]
  have hni : ∀ l : List UInt8, Lib.indexByte l c = -1 → c ∉ l := fun l => by
    induction l with
    | nil => simp
    | cons d l ih =>
      intro h
      unfold Lib.indexByte at h
      have hg := Lib.indexByte_ge l c
      by_cases hd : d = c
      · rw [if_pos (by simpa using hd)] at h; omega
      · rw [if_neg (by simpa using hd)] at h
        split at h
        · rename_i h'
          have := ih (by simpa using h')
          simp [this, Ne.symm hd]
        · omega
  have hlt : ∀ (x rest : List UInt8), Lib.indexByte (x ++ c :: rest) c = (x.length : Int) → c ∉ x := fun x => by
    induction x with
    | nil => simp
    | cons d x ih =>
      intro rest h
      rw [List.cons_append] at h
      unfold Lib.indexByte at h
      by_cases hd : d = c
      · rw [if_pos (by simpa using hd)] at h; simp at h; omega
      · rw [if_neg (by simpa using hd)] at h
        split at h
        · simp at h; omega
        · have := ih rest (by simp at h; omega)
          simp [this, Ne.symm hd]
  rcases cutAt_step c l with ⟨e1, -⟩ | ⟨x, rest, e1, e2, -⟩
  · left
    rw [e1]
    exact ⟨hni l e1, rfl⟩
  · right
    refine ⟨x, rest, e1, hlt x rest (by rw [← e1]; exact e2), ?_⟩
    have hlen : l.length = x.length + 1 + rest.length := by rw [e1]; simp; omega
    rw [e2, if_pos (by simp)]
    have s1 := subP_ok (l := l) (i := 0) (j := x.length) (K := fun z6 : ByteArray => subP (mkB l) (IntKind.wrap .i64 ((x.length : Int) + ((mkB [c]).size : Nat))) ((mkB l).size : Nat) (fun z7 => (some ((z6, z7, true) : (ByteArray × ByteArray × Bool))))) (by omega) (by omega)
    rw [show (((0 : Nat) : Int)) = 0 from rfl] at s1
    rw [s1, show ((mkB [c]).size : Nat) = 1 from rfl, wr (by omega) (by omega)]
    have s2 := subP_ok (l := l) (i := x.length + 1) (j := l.length) (K := fun z7 : ByteArray => some (mkB ((l.take x.length).drop 0), z7, true)) (by omega) (Nat.le_refl _)
    rw [show (((x.length + 1 : Nat) : Int)) = (x.length : Int) + ((1 : Nat) : Int) by omega] at s2
    rw [mkB_size, s2, List.take_of_length_le (Nat.le_refl _), List.drop_zero]
    have d1 : l.drop (x.length + 1) = rest := by rw [e1, show x ++ c :: rest = (x ++ [c]) ++ rest by simp, List.drop_left' (by simp)]
    have d2 : l.take x.length = x := by rw [e1, List.take_left]
    rw [d1, d2]
    rfl
end Go.Proofs.YtckalckfihhldaaDoorF
