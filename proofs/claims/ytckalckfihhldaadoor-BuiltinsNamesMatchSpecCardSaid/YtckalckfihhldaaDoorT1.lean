/- What strings.Split makes of a text at one byte. -/
import Derived.Test.YtckalckfihhldaaDoorL1
set_option linter.unusedVariables false
set_option linter.unusedSimpArgs false
namespace Go.Proofs.YtckalckfihhldaaDoorF
open Go Go.Proofs
set_option maxRecDepth 100000

theorem loop_inv {σ τ : Type} {body : σ → Option (σ ⊕ τ)} (I : σ → Prop) (m : σ → Nat) (Q : τ → Prop)
    (hs : ∀ s, I s → (∃ s', body s = some (.inl s') ∧ I s' ∧ m s' < m s) ∨ ∃ t, body s = some (.inr t) ∧ Q t) : ∀ (n : Nat) (s : σ), I s → m s < n → ∃ t, loopP body n s = some t ∧ Q t
  | 0, s, _, h => by omega
  | n + 1, s, hI, h => by
    unfold loopP
    rcases hs s hI with ⟨s', e, hI', hm⟩ | ⟨t, e, hq⟩
    · rw [e]
      exact loop_inv I m Q hs n s' hI' (by omega)
    · rw [e]
      exact ⟨t, rfl, hq⟩
/-- The pieces of a text between the bytes c. -/
def cutAt (c : UInt8) : List UInt8 → List (List UInt8)
  | [] => [[]]
  | d :: l => if d = c then [] :: cutAt c l else match cutAt c l with
    | x :: xs => (d :: x) :: xs
    | [] => [[d]]
theorem cutAt_cons (c d : UInt8) (l : List UInt8) : cutAt c (d :: l) = if d = c then [] :: cutAt c l else match cutAt c l with
    | x :: xs => (d :: x) :: xs
    | [] => [[d]] := rfl
theorem cutAt_ne (c : UInt8) : ∀ l, cutAt c l ≠ []
  | [] => by simp [cutAt]
  | d :: l => by
    unfold cutAt
    split
    · simp
    · split <;> simp
theorem cutAt_count (c : UInt8) (l : List UInt8) : (cutAt c l).length = Lib.countByte l c + 1 := by
  unfold Lib.countByte
  induction l with
  | nil => rfl
  | cons d l ih =>
    unfold cutAt
    by_cases h : d = c
    · rw [if_pos h, h]; simp [ih]
    · rw [if_neg h, List.count_cons_of_ne h]
      split
      · rename_i x xs e; rw [e] at ih; simpa using ih
      · rename_i e; exact absurd e (cutAt_ne c l)
theorem cutAt_step (c : UInt8) : ∀ l : List UInt8, (Lib.indexByte l c = -1 ∧ cutAt c l = [l]) ∨ ∃ x rest, l = x ++ c :: rest ∧ Lib.indexByte l c = (x.length : Int) ∧ cutAt c l = x :: cutAt c rest
  | [] => .inl ⟨rfl, rfl⟩
  | d :: l => by
    unfold Lib.indexByte
    rw [cutAt_cons]
    by_cases h : d = c
    · right
      refine ⟨[], l, by simp [h], ?_, ?_⟩
      · rw [if_pos (by simpa using h)]; rfl
      · rw [if_pos h]
    · rw [if_neg (by simpa using h), if_neg h]
      rcases cutAt_step c l with ⟨e1, e2⟩ | ⟨x, rest, e1, e2, e3⟩
      · left
        rw [e1, e2]
        exact ⟨rfl, rfl⟩
      · right
        refine ⟨d :: x, rest, by simp [e1], ?_, ?_⟩
        · rw [e2, if_neg (by rw [beq_iff_eq]; omega)]
          simp
        · rw [e3]
theorem p32_one {n : Nat} (hn : 2 ≤ n) (l : List UInt8) (c : UInt8) : p32 n (mkB l) (mkB [c]) = some (Lib.indexByte l c) := by
  obtain ⟨n, rfl⟩ : ∃ m, n = m + 2 := ⟨n - 2, by omega⟩
  rfl
theorem p52_one {n : Nat} (hn : 1 ≤ n) (l : List UInt8) (c : UInt8) : p52 n (mkB l) (mkB [c]) = some (Lib.countByte l c : Int) := by
  obtain ⟨n, rfl⟩ : ∃ m, n = m + 1 := ⟨n - 1, by omega⟩
  rfl
theorem split_ok {n : Nat} (l : List UInt8) (c : UInt8) (hl : l.length ≤ 1000000000) (hn : l.length + 10 < n) : p22 n (mkB l) (mkB [c]) = some ((cutAt c l).map mkB) := by
  obtain ⟨n, rfl⟩ : ∃ m, n = m + 2 := ⟨n - 2, by omega⟩
  have hcnt := cutAt_count c l
  have hle : Lib.countByte l c ≤ l.length := by unfold Lib.countByte; exact List.count_le_length
  have hN : (IntKind.wrap .i64 ((Lib.countByte l c : Int) + 1)) = ((cutAt c l).length : Int) := by rw [wr (by omega) (by omega), hcnt]; simp
  have hS : (IntKind.wrap .i64 (((mkB l).size : Nat) + 1)) = (l.length : Int) + 1 := by rw [mkB_size, wr (by omega) (by omega)]
  have hmin : (if (IntKind.wrap .i64 (((mkB l).size : Nat) + 1)) < ((cutAt c l).length : Int) then (IntKind.wrap .i64 (((mkB l).size : Nat) + 1)) else ((cutAt c l).length : Int)) = ((cutAt c l).length : Int) := by
    rw [hS, if_neg (by omega)]
  have hlen1 : 1 ≤ (cutAt c l).length := by omega
  obtain ⟨t, et, r, ps, q1, q2⟩ := loop_inv (body := pb37_1 n (mkB l) (mkB [c]) 0 ((cutAt c l).length : Int))
    (fun t => ∃ (r : List UInt8) (ps : List (List UInt8)), t = (mkB r, ps.map mkB ++ List.replicate ((cutAt c l).length - ps.length) ByteArray.empty, (ps.length : Int)) ∧ cutAt c l = ps ++ cutAt c r ∧ r.length ≤ l.length)
    (fun t => (cutAt c l).length - t.2.2.toNat)
    (fun t => ∃ (r : List UInt8) (ps : List (List UInt8)), t = (mkB r, ps.map mkB ++ List.replicate ((cutAt c l).length - ps.length) ByteArray.empty, (ps.length : Int)) ∧ cutAt c l = ps ++ [r])
    (fun t ⟨r, ps, e1, e2, e3⟩ => by
      subst e1
      have hl2 : (cutAt c l).length = ps.length + (cutAt c r).length := by rw [e2, List.length_append]
      have hne : 1 ≤ (cutAt c r).length := List.length_pos_iff.2 (cutAt_ne c r)
      unfold pb37_1
      rw [hmin]
      dsimp only
      rw [wr (x := ((cutAt c l).length : Int) - 1) (by omega) (by omega)]
      rcases cutAt_step c r with ⟨_, a2⟩ | ⟨x, rest, a1, a2, a3⟩
      · right
        rw [a2] at hl2 e2
        rw [if_neg (by simp at hl2 ⊢; omega)]
        exact ⟨_, rfl, r, ps, rfl, e2⟩
      · left
        have hne2 : 1 ≤ (cutAt c rest).length := List.length_pos_iff.2 (cutAt_ne c rest)
        rw [a3] at hl2 e2
        simp only [List.length_cons] at hl2
        have hrl : r.length = x.length + 1 + rest.length := by rw [a1]; simp; omega
        rw [if_pos (by simp; omega), p32_one (by omega)]
        simp only [Option.bind_some]
        rw [a2, if_neg (by simp)]
        rw [wr (x := (x.length : Int) + 0) (by omega) (by omega), show ((mkB [c]).size : Nat) = 1 from rfl, wr (x := (x.length : Int) + ((1 : Nat) : Int)) (by omega) (by omega)]
        have s1 : ∀ {ρ : Type} (K : ByteArray → Option ρ), subP (mkB r) 0 ((x.length : Int) + 0) K = K (mkB x) := fun K => by
          have := subP_ok (l := r) (i := 0) (j := x.length) (K := K) (by omega) (by omega)
          rw [show (((0 : Nat) : Int)) = 0 from rfl] at this
          rw [Int.add_zero, this, List.drop_zero, a1, List.take_left]
        have s2 : ∀ {ρ : Type} (K : ByteArray → Option ρ), subP (mkB r) ((x.length : Int) + ((1 : Nat) : Int)) ((mkB r).size : Nat) K = K (mkB rest) := fun K => by
          have := subP_ok (l := r) (i := x.length + 1) (j := r.length) (K := K) (by omega) (Nat.le_refl _)
          rw [show (((x.length + 1 : Nat) : Int)) = (x.length : Int) + ((1 : Nat) : Int) by omega] at this
          rw [mkB_size, this, List.take_of_length_le (Nat.le_refl _)]
          have : r.drop (x.length + 1) = rest := by rw [a1, show x ++ c :: rest = (x ++ [c]) ++ rest by simp, List.drop_left' (by simp)]
          rw [this]
        rw [s1]
        have hk : (cutAt c l).length - ps.length = (cutAt c rest).length + 1 := by omega
        have hrep : List.replicate ((cutAt c l).length - ps.length) ByteArray.empty = ByteArray.empty :: List.replicate (cutAt c rest).length ByteArray.empty := by rw [hk]; rfl
        rw [hrep]
        rw [rd_int (by omega) (x := ByteArray.empty) (by rw [Int.toNat_natCast, List.getElem?_append_right (by simp)]; simp)]
        simp only [pj]
        rw [s2]
        have hset : (ps.map mkB ++ ByteArray.empty :: List.replicate (cutAt c rest).length ByteArray.empty).set ((ps.length : Int)).toNat (mkB x) = (ps ++ [x]).map mkB ++ List.replicate ((cutAt c l).length - (ps ++ [x]).length) ByteArray.empty := by
          rw [Int.toNat_natCast, List.set_append_right _ _ (by simp)]
          simp
          omega
        rw [hset]
        refine ⟨_, rfl, ⟨rest, ps ++ [x], ?_, by rw [e2]; simp, by omega⟩, ?_⟩
        · rw [wr (by omega) (by omega)]; simp
        · dsimp only; rw [wr (by omega) (by omega)]; omega) n (mkB l, List.replicate (cutAt c l).length ByteArray.empty, 0) ⟨l, [], by simp, by simp, Nat.le_refl _⟩ (by dsimp only; simp; omega)
  rw [p22, p37]
  rw [if_neg (by decide), if_neg (by simp [mkB])]
  simp only [pj]
  rw [if_pos (by decide), p52_one (by omega)]
  simp only [Option.bind_some]
  rw [hN, hmin]
  have hmk : ∀ {ρ : Type} (K : List ByteArray → Option ρ), mkP 16 ((cutAt c l).length : Int) ((cutAt c l).length : Int) ByteArray.empty K = K (List.replicate (cutAt c l).length ByteArray.empty) := fun K => by
    unfold mkP
    rw [if_pos (by omega), if_pos (Int.le_refl _), if_pos (by omega), Int.toNat_natCast]
  rw [hmk, Int.toNat_natCast, et]
  simp only [Option.bind_some]
  subst q1
  dsimp only
  have hlen : (cutAt c l).length = ps.length + 1 := by rw [q2]; simp
  have hrep : List.replicate ((cutAt c l).length - ps.length) ByteArray.empty = [ByteArray.empty] := by rw [hlen, Nat.add_sub_cancel_left]; rfl
  rw [hrep, rd_int (by omega) (x := ByteArray.empty) (by rw [Int.toNat_natCast, List.getElem?_append_right (by simp)]; simp)]
  have hset : (ps.map mkB ++ [ByteArray.empty]).set ((ps.length : Int)).toNat (mkB r) = (ps ++ [r]).map mkB := by
    rw [Int.toNat_natCast, List.set_append_right _ _ (by simp)]
    simp
  rw [hset, ← q2, wr (by omega) (by omega)]
  unfold slP
  rw [if_pos (by omega), if_pos (by omega), if_pos (by simp; omega)]
  rw [Int.toNat_zero, List.drop_zero, List.take_of_length_le (by simp; omega)]
  rfl
end Go.Proofs.YtckalckfihhldaaDoorF
