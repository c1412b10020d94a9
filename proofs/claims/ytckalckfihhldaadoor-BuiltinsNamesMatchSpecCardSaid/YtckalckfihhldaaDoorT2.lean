/- Lists of texts: what is contained. -/
import Derived.Test.YtckalckfihhldaaDoorT1
import Derived.Test.YtckalckfihhldaaDoorQ3
set_option linter.unusedVariables false
set_option linter.unusedSimpArgs false
namespace Go.Proofs.YtckalckfihhldaaDoorF
open Go Go.Proofs
set_option maxRecDepth 100000

theorem toList_mkB (l : List UInt8) : (mkB l).toList = l := by rw [ByteArray.toList_eq]; rfl
theorem toList_inj {a b : ByteArray} (h : a.toList = b.toList) : a = b := by
  rw [ByteArray.toList_eq, ByteArray.toList_eq] at h
  cases a with
  | mk a => cases b with
    | mk b => congr 1; exact Array.ext' h
/-- The place of a text in a list of texts. -/
theorem p30_ok {n : Nat} (xs : List ByteArray) (x : ByteArray) (hl : xs.length ≤ 1000000000) (hn : xs.length + 2 < n) : (x ∉ xs ∧ p30 n xs x = some (-1)) ∨ ∃ i : Nat, xs[i]? = some x ∧ p30 n xs x = some (i : Int) := by
  obtain ⟨n, rfl⟩ : ∃ m, n = m + 1 := ⟨n - 1, by omega⟩
  obtain ⟨t, et, q⟩ := loop_inv (body := pb30_1 n xs x) (fun t => ∃ i : Nat, t = (i : Int) ∧ i ≤ xs.length ∧ ∀ k, k < i → xs[k]? ≠ some x) (fun t => xs.length - t.toNat)
    (fun t => (∃ y, t = .inl y ∧ x ∉ xs) ∨ ∃ i : Nat, t = .inr (i : Int) ∧ xs[i]? = some x)
    (fun t ⟨i, e, h1, h2⟩ => by
      subst e
      unfold pb30_1
      by_cases hi : i < xs.length
      · rw [if_pos (by simpa using hi), rd_nat (get_of_lt hi)]
        by_cases he : x = xs[i]
        · right
          rw [if_pos (by simp [← he])]
          exact ⟨_, rfl, .inr ⟨i, rfl, by rw [get_of_lt hi, he]⟩⟩
        · left
          rw [if_neg (by simp only [beq_iff_eq]; exact fun h => he (toList_inj h))]
          refine ⟨_, rfl, ⟨i + 1, by rw [wr (by omega) (by omega)]; simp, by omega, fun k hk => ?_⟩, by rw [wr (by omega) (by omega)]; omega⟩
          rcases Nat.lt_or_ge k i with h | h
          · exact h2 k h
          · obtain rfl : k = i := by omega
            rw [get_of_lt hi]
            exact fun h => he (Option.some.inj h).symm
      · right
        rw [if_neg (by simpa using hi)]
        refine ⟨_, rfl, .inl ⟨_, rfl, fun hm => ?_⟩⟩
        obtain ⟨k, hk, e⟩ := List.getElem_of_mem hm
        exact h2 k (by omega) (by rw [get_of_lt hk, e])) n 0 ⟨0, rfl, Nat.zero_le _, fun k hk => by omega⟩ (by simp; omega)
  rw [p30, et]
  simp only [Option.bind_some]
  rcases q with ⟨y, rfl, h⟩ | ⟨i, rfl, h⟩
  · exact .inl ⟨h, rfl⟩
  · exact .inr ⟨i, h, rfl⟩
open Classical in
theorem p14_ok {n : Nat} (xs : List ByteArray) (x : ByteArray) (hl : xs.length ≤ 1000000000) (hn : xs.length + 3 < n) : p14 n xs x = some (decide (x ∈ xs)) := by
  obtain ⟨n, rfl⟩ : ∃ m, n = m + 1 := ⟨n - 1, by omega⟩
  rw [p14]
  rcases p30_ok xs x hl (n := n) (by omega) with ⟨h, e⟩ | ⟨i, h, e⟩
  · rw [e]; simp [h]
  · rw [e]
    have := List.mem_of_getElem? h
    simp [this]
theorem sortL_mem (xs : List ByteArray) (x : ByteArray) : x ∈ sortL xs ↔ x ∈ xs := by
  unfold sortL
  simp only [List.mem_map, List.mem_mergeSort]
  constructor
  · rintro ⟨l, ⟨b, hb, rfl⟩, rfl⟩
    exact hb
  · intro h
    exact ⟨x.data.toList, ⟨x, h, rfl⟩, rfl⟩
theorem p29_ok {n : Nat} (hn : 2 ≤ n) (a b : ByteArray) : p29 n a b = some (Op.bytesLess a.toList b.toList) := by
  obtain ⟨n, rfl⟩ : ∃ m, n = m + 2 := ⟨n - 2, by omega⟩
  rw [p29, p46]
  simp [pj]
theorem sortL_sorted (xs : List ByteArray) {i : Nat} {a b : ByteArray} (ha : (sortL xs)[i]? = some a) (hb : (sortL xs)[i + 1]? = some b) : Op.bytesLess b.toList a.toList = false := by
  unfold sortL at ha hb
  rw [List.getElem?_map] at ha hb
  have hp : ((xs.map fun b => b.data.toList).mergeSort fun x y => decide (x ≤ y)).Pairwise fun x y => decide (x ≤ y) = true := by
    refine List.pairwise_mergeSort (fun a b c h1 h2 => ?_) (fun a b => ?_) _
    · simp only [decide_eq_true_eq] at h1 h2 ⊢
      exact List.le_trans h1 h2
    · simp only [Bool.or_eq_true, decide_eq_true_eq]
      exact List.le_total a b
  generalize ((xs.map fun b => b.data.toList).mergeSort fun x y => decide (x ≤ y)) = ys at ha hb hp
  cases h1 : ys[i]? with
  | none => rw [h1] at ha; cases ha
  | some u =>
    cases h2 : ys[i + 1]? with
    | none => rw [h2] at hb; cases hb
    | some v =>
      rw [h1] at ha; rw [h2] at hb
      injection ha with ha; injection hb with hb
      subst ha; subst hb
      obtain ⟨k1, e1⟩ := List.getElem?_eq_some_iff.1 h1
      obtain ⟨k2, e2⟩ := List.getElem?_eq_some_iff.1 h2
      have := List.pairwise_iff_getElem.1 hp i (i + 1) k1 k2 (by omega)
      rw [e1, e2] at this
      have huv : u ≤ v := by simpa using this
      show Op.bytesLess (mkB v).toList (mkB u).toList = false
      rw [toList_mkB, toList_mkB, bytesLess_eq]
      simp only [decide_eq_false_iff_not]
      exact List.not_lt.2 huv
theorem p13_ok {n : Nat} (xs : List ByteArray) (hl : xs.length ≤ 1000000000) (hn : xs.length + 3 < n) : p13 n (sortL xs) = some true := by
  obtain ⟨n, rfl⟩ : ∃ m, n = m + 1 := ⟨n - 1, by omega⟩
  have hlen := sortL_length xs
  obtain ⟨t, et, y, rfl⟩ := loop_inv (body := pb13_1 n (sortL xs)) (fun t => -1 ≤ t ∧ t < (sortL xs).length) (fun t => t.toNat) (fun t => ∃ y, t = .inl y)
    (fun t ⟨h1, h2⟩ => by
      unfold pb13_1
      by_cases h0 : t > 0
      · left
        obtain ⟨i, rfl⟩ : ∃ i : Nat, t = (i : Int) + 1 := ⟨(t - 1).toNat, by omega⟩
        have k1 : i + 1 < (sortL xs).length := by omega
        rw [if_pos (by simp), rd_int (by omega) (x := (sortL xs)[i + 1]) (by rw [show ((i : Int) + 1).toNat = i + 1 by omega]; exact get_of_lt k1), wr (x := (i : Int) + 1 - 1) (by omega) (by omega),
          rd_int (by omega) (x := (sortL xs)[i]) (by rw [show ((i : Int) + 1 - 1).toNat = i by omega]; exact get_of_lt (by omega)), p29_ok (by omega), sortL_sorted xs (get_of_lt (by omega)) (get_of_lt k1)]
        simp only [Option.bind_some, Bool.false_eq_true, if_false]
        exact ⟨_, rfl, ⟨by omega, by omega⟩, by omega⟩
      · right
        rw [if_neg (by simpa using h0)]
        exact ⟨_, rfl, _, rfl⟩) n (((sortL xs).length : Nat) - 1 : Int) ⟨by omega, by omega⟩ (by omega)
  rw [p13, wr (by omega) (by omega), et]
  rfl
end Go.Proofs.YtckalckfihhldaaDoorF
