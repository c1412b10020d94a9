/- Numbers in groups of seven bits, lowest first: how they are written. -/
import Derived.Test.YtmjignphadnadaaDoorP1
import Derived.Test.YtmjignphadnadaaDoorF23
set_option linter.unusedVariables false
set_option linter.unusedSimpArgs false
namespace Go.Proofs.YtmjignphadnadaaDoorF
open Go Go.Proofs

theorem ofInt_toNat (x : Int) (h0 : 0 ≤ x) (h1 : x < 9223372036854775808) : (BitVec.ofInt (IntKind.bits .i64) x).toNat = x.toNat := by
  show (BitVec.ofInt 64 x).toNat = _
  rw [BitVec.toNat_ofInt]
  have : x % (2 ^ 64 : Nat) = x := Int.emod_eq_of_lt h0 (by omega)
  rw [this]
theorem and127 (x : Int) (h0 : 0 ≤ x) (h1 : x < 9223372036854775808) : ((BitVec.ofInt (IntKind.bits .i64) x &&& BitVec.ofInt (IntKind.bits .i64) 127).toNat : Int) = x % 128 := by
  rw [BitVec.toNat_and, ofInt_toNat x h0 h1, ofInt_toNat 127 (by omega) (by omega)]
  have : x.toNat &&& 127 = x.toNat % 128 := Nat.and_two_pow_sub_one_eq_mod x.toNat 7
  show ((x.toNat &&& 127 : Nat) : Int) = _
  rw [this]
  omega
theorem or128 (x : Int) (h0 : 0 ≤ x) (h1 : x < 128) : ((BitVec.ofInt (IntKind.bits .i64) x ||| BitVec.ofInt (IntKind.bits .i64) 128).toNat : Int) = x + 128 := by
  rw [BitVec.toNat_or, ofInt_toNat x h0 (by omega), ofInt_toNat 128 (by omega) (by omega)]
  have : x.toNat ||| 128 = x.toNat + 128 := by
    have h := Nat.two_pow_add_eq_or_of_lt (i := 7) (b := x.toNat) (by omega) 1
    rw [Nat.or_comm]
    have h2 : 128 + x.toNat = 128 ||| x.toNat := by simpa using h
    omega
  show ((x.toNat ||| 128 : Nat) : Int) = _
  rw [this]
  omega
/-- A number below 2^s, and a multiple of 2^s. -/
theorem or_add (a y : Int) (s : Nat) (h0 : 0 ≤ a) (h1 : a < 2 ^ s) (hy : 0 ≤ y) (hb : a + y * 2 ^ s < 9223372036854775808) : ((BitVec.ofInt (IntKind.bits .i64) a ||| BitVec.ofInt (IntKind.bits .i64) (y * 2 ^ s)).toNat : Int) = a + y * 2 ^ s := by
  have hm : 0 ≤ y * 2 ^ s := Int.mul_nonneg hy (by exact Int.le_of_lt (Int.pow_pos (by omega)))
  rw [BitVec.toNat_or, ofInt_toNat a h0 (by omega), ofInt_toNat _ hm (by omega)]
  obtain ⟨a, rfl⟩ := Int.eq_ofNat_of_zero_le h0
  obtain ⟨y, rfl⟩ := Int.eq_ofNat_of_zero_le hy
  have e1 : ((y : Int) * 2 ^ s).toNat = 2 ^ s * y := by
    rw [show (y : Int) * 2 ^ s = ((2 ^ s * y : Nat) : Int) by push_cast; rw [Int.mul_comm]]
    rfl
  rw [e1, Int.toNat_natCast]
  have h2 : a < 2 ^ s := by exact_mod_cast h1
  have h3 := Nat.two_pow_add_eq_or_of_lt h2 y
  rw [Nat.or_comm, ← h3]
  push_cast
  rw [Int.mul_comm]
  omega
def sept : Nat → Int → List Int
  | 0, x => [x]
  | f + 1, x => if x < 128 then [x] else (x % 128 + 128) :: sept f (x / 128)
theorem sept_length : ∀ (f : Nat) (x : Int), (sept f x).length ≤ f + 1
  | 0, x => by simp [sept]
  | f + 1, x => by
    unfold sept
    split
    · simp
    · simpa using sept_length f (x / 128)
theorem sept_pos : ∀ (f : Nat) (x : Int), 0 < (sept f x).length
  | 0, x => by simp [sept]
  | f + 1, x => by
    unfold sept
    split <;> simp
theorem sept_byte : ∀ (f : Nat) (x : Int), 0 ≤ x → x < 128 * 128 ^ f → ∀ y ∈ sept f x, 0 ≤ y ∧ y < 256
  | 0, x, h0, h1, y, hy => by simp [sept] at hy; subst hy; omega
  | f + 1, x, h0, h1, y, hy => by
    unfold sept at hy
    split at hy
    · simp at hy; subst hy; omega
    · rcases List.mem_cons.1 hy with rfl | hy
      · omega
      · exact sept_byte f (x / 128) (by omega) (by rw [Int.pow_succ] at h1; omega) y hy
theorem byte7 (x : Int) (h0 : 0 ≤ x) (h1 : x < 9223372036854775808) :
    IntKind.wrap .u8 (IntKind.wrap .i64 (((BitVec.ofInt (IntKind.bits .i64) (IntKind.wrap .i64 (((BitVec.ofInt (IntKind.bits .i64) x &&& BitVec.ofInt (IntKind.bits .i64) 127).toNat : Nat))) ||| BitVec.ofInt (IntKind.bits .i64) 128).toNat : Nat))) = x % 128 + 128 := by
  rw [and127 x h0 h1, wr (x := x % 128) (by omega) (by omega), or128 _ (by omega) (by omega), wr (x := x % 128 + 128) (by omega) (by omega), IntKind.wrap_u8]
  omega
theorem shr7 {ρ : Type} (x : Int) (h0 : 0 ≤ x) (K : Int → Option ρ) : shrP .i64 x 7 K = K (x / 128) := by
  unfold shrP
  rw [if_neg (by omega)]
  congr 1
  show x.fdiv 128 = _
  rw [Int.fdiv_eq_ediv_of_nonneg _ (by omega)]
/-- varint -/
theorem lV (n : Nat) : ∀ (f m : Nat) (b : List Int) (x : Int), 0 ≤ x → x < 128 * 128 ^ f → x < 9223372036854775808 → f < m → b.length + f ≤ 70368744177664 →
    ∃ b' x', loopP (pb21_1 n) m (b, x) = some (b', x') ∧ 0 ≤ x' ∧ x' < 128 ∧ b' ++ [x'] = b ++ sept f x ∧ b'.length ≤ b.length + f
  | f, m, b, x, h0, h1, h2, hm, hb => by
    obtain ⟨m, rfl⟩ : ∃ k, m = k + 1 := ⟨m - 1, by omega⟩
    by_cases hx : x < 128
    · refine ⟨b, x, ?_, h0, hx, ?_, by omega⟩
      · unfold loopP pb21_1
        rw [if_neg (by simp; omega)]
      · cases f with
        | zero => rfl
        | succ f => simp [sept, hx]
    · cases f with
      | zero => omega
      | succ f =>
        obtain ⟨b', x', g1, g2, g3, g4, g5⟩ := lV n f m (b ++ [x % 128 + 128]) (x / 128) (by omega) (by rw [Int.pow_succ] at h1; omega) (by omega) (by omega) (by simp; omega)
        refine ⟨b', x', ?_, g2, g3, ?_, by simp at g5; omega⟩
        · unfold loopP
          have : pb21_1 n (b, x) = some (.inl (b ++ [x % 128 + 128], x / 128)) := by
            unfold pb21_1
            rw [if_pos (by simp; omega)]
            dsimp only
            rw [byte7 x h0 h2, apP_ok (by simp; omega), shr7 x h0]
          rw [this]
          exact g1
        · rw [g4]
          simp [sept, hx]
theorem sV {n : Nat} (b : List Int) (x : Int) (h0 : 0 ≤ x) (h1 : x < 2097152) (hb : b.length ≤ 70368744177000) (hn : 5 ≤ n) : p21 n b x = some (b ++ sept 2 x) := by
  obtain ⟨n, rfl⟩ : ∃ m, n = m + 1 := ⟨n - 1, by omega⟩
  obtain ⟨b', x', g1, g2, g3, g4, g5⟩ := lV n 2 n b x h0 (by omega) (by omega) (by omega) (by omega)
  rw [p21, g1]
  simp only [Option.bind_some]
  rw [wr8 g2 (by omega), apP_ok (by simp; omega), g4]
theorem sS : ∀ (f : Nat) {n : Nat} (x : Int), 0 ≤ x → x < 128 * 128 ^ f → x < 9223372036854775808 → f < n → f < 1000 → p24 n x = some (sept f x)
  | f, n, x, h0, h1, h2, hn, hf => by
    obtain ⟨n, rfl⟩ : ∃ m, n = m + 1 := ⟨n - 1, by omega⟩
    rw [p24]
    by_cases hx : x < 128
    · rw [if_pos (by simpa using hx), wr8 h0 (by omega)]
      cases f with
      | zero => rfl
      | succ f => simp [sept, hx]
    · cases f with
      | zero => omega
      | succ f =>
        rw [if_neg (by simpa using hx)]
        rw [remP_ok (by omega), divP_ok (by omega), Int.tmod_eq_emod_of_nonneg h0, Int.tdiv_eq_ediv_of_nonneg h0, wr (x := x / 128) (by omega) (by omega), sS f (x / 128) (by omega) (by rw [Int.pow_succ] at h1; omega) (by omega) (by omega) (by omega)]
        have := sept_length f (x / 128)
        simp only [Option.bind_some]
        rw [wr (x := 128 + x % 128) (by omega) (by omega), wr8 (by omega) (by omega), apP_ok (by simp; omega)]
        simp [sept, hx, Int.add_comm]
def byteL (l : List Int) : Prop := ∀ x ∈ l, 0 ≤ x ∧ x < 256
theorem one_le_pow (f : Nat) : (1 : Int) ≤ 128 ^ f := Int.pow_pos (by omega)
theorem drop_cons {α : Type} {l : List α} {i : Nat} {x : α} (h : l[i]? = some x) : l.drop i = x :: l.drop (i + 1) := by
  have hi := (List.getElem?_eq_some_iff.1 h)
  obtain ⟨h1, h2⟩ := hi
  rw [List.drop_eq_getElem_cons h1, h2]
end Go.Proofs.YtmjignphadnadaaDoorF
