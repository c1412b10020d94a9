/- Plain laws of the tables, 3: numbers in groups of seven bits. -/
import Derived.Test.YtmjignphadnadaaT2
set_option linter.unusedVariables false
set_option linter.unusedSimpArgs false
namespace Go.Proofs.YtmjignphadnadaaF
open Go Go.Proofs

theorem ofInt_toNat (x : Int) (h0 : 0 ≤ x) (h1 : x < 9223372036854775808) : (BitVec.ofInt (IntKind.bits .i64) x).toNat = x.toNat := by
  show (BitVec.ofInt 64 x).toNat = _
  rw [BitVec.toNat_ofInt]
  have : x % (2 ^ 64 : Nat) = x := Int.emod_eq_of_lt h0 (by omega)
  rw [this]
theorem and127 (x : Int) (h0 : 0 ≤ x) (h1 : x < 9223372036854775808) : ((BitVec.ofInt (IntKind.bits .i64) x &&& BitVec.ofInt (IntKind.bits .i64) 127).toNat : Int) = x % 128 := by
  rw [BitVec.toNat_and, ofInt_toNat x h0 h1, ofInt_toNat 127 (by omega) (by omega)]
  have : x.toNat &&& 127 = x.toNat % 128 := Nat.and_two_pow_sub_one_eq_mod x.toNat 7
  show ((x.toNat &&& 127 : Nat) : Int) = _
  rw [this]
  omega
theorem or128 (x : Int) (h0 : 0 ≤ x) (h1 : x < 128) : ((BitVec.ofInt (IntKind.bits .i64) x ||| BitVec.ofInt (IntKind.bits .i64) 128).toNat : Int) = x + 128 := by
  rw [BitVec.toNat_or, ofInt_toNat x h0 (by omega), ofInt_toNat 128 (by omega) (by omega)]
  have : x.toNat ||| 128 = x.toNat + 128 := by
    have h := Nat.two_pow_add_eq_or_of_lt (i := 7) (b := x.toNat) (by omega) 1
    rw [Nat.or_comm]
    have h2 : 128 + x.toNat = 128 ||| x.toNat := by simpa using h
    omega
  show ((x.toNat ||| 128 : Nat) : Int) = _
  rw [this]
  omega
/-- A number below 2^s, and a multiple of 2^s. -/
theorem or_add (a y : Int) (s : Nat) (h0 : 0 ≤ a) (h1 : a < 2 ^ s) (hy : 0 ≤ y) (hb : a + y * 2 ^ s < 9223372036854775808) : ((BitVec.ofInt (IntKind.bits .i64) a ||| BitVec.ofInt (IntKind.bits .i64) (y * 2 ^ s)).toNat : Int) = a + y * 2 ^ s := by
  have hm : 0 ≤ y * 2 ^ s := Int.mul_nonneg hy (by exact Int.le_of_lt (Int.pow_pos (by omega)))
  rw [BitVec.toNat_or, ofInt_toNat a h0 (by omega), ofInt_toNat _ hm (by omega)]
  obtain ⟨a, rfl⟩ := Int.eq_ofNat_of_zero_le h0
  obtain ⟨y, rfl⟩ := Int.eq_ofNat_of_zero_le hy
  have e1 : ((y : Int) * 2 ^ s).toNat = 2 ^ s * y := by
    rw [show (y : Int) * 2 ^ s = ((2 ^ s * y : Nat) : Int) by push_cast; rw [Int.mul_comm]]
    rfl
  rw [e1, Int.toNat_natCast]
  have h2 : a < 2 ^ s := by exact_mod_cast h1
  have h3 := Nat.two_pow_add_eq_or_of_lt h2 y
  rw [Nat.or_comm, ← h3]
  push_cast
  rw [Int.mul_comm]
  omega
def sept : Nat → Int → List Int
  | 0, x => [x]
  | f + 1, x => if x < 128 then [x] else (x % 128 + 128) :: sept f (x / 128)
theorem sept_length : ∀ (f : Nat) (x : Int), (sept f x).length ≤ f + 1
  | 0, x => by simp [sept]
  | f + 1, x => by
    unfold sept
    split
    · simp
    · simpa using sept_length f (x / 128)
theorem sept_pos : ∀ (f : Nat) (x : Int), 0 < (sept f x).length
  | 0, x => by simp [sept]
  | f + 1, x => by
    unfold sept
    split <;> simp
theorem sept_byte : ∀ (f : Nat) (x : Int), 0 ≤ x → x < 128 * 128 ^ f → ∀ y ∈ sept f x, 0 ≤ y ∧ y < 256
  | 0, x, h0, h1, y, hy => by simp [sept] at hy; subst hy; omega
  | f + 1, x, h0, h1, y, hy => by
    unfold sept at hy
    split at hy
    · simp at hy; subst hy; omega
    · rcases List.mem_cons.1 hy with rfl | hy
      · omega
      · exact sept_byte f (x / 128) (by omega) (by rw [Int.pow_succ] at h1; omega) y hy
theorem byte7 (x : Int) (h0 : 0 ≤ x) (h1 : x < 9223372036854775808) :
    IntKind.wrap .u8 (IntKind.wrap .i64 (((BitVec.ofInt (IntKind.bits .i64) (IntKind.wrap .i64 (((BitVec.ofInt (IntKind.bits .i64) x &&& BitVec.ofInt (IntKind.bits .i64) 127).toNat : Nat))) ||| BitVec.ofInt (IntKind.bits .i64) 128).toNat : Nat))) = x % 128 + 128 := by
  rw [and127 x h0 h1, wr (x := x % 128) (by omega) (by omega), or128 _ (by omega) (by omega), wr (x := x % 128 + 128) (by omega) (by omega), IntKind.wrap_u8]
  omega
theorem shr7 {ρ : Type} (x : Int) (h0 : 0 ≤ x) (K : Int → Option ρ) : shrP .i64 x 7 K = K (x / 128) := by
  unfold shrP
  rw [if_neg (by omega)]
  congr 1
  show x.fdiv 128 = _
  rw [Int.fdiv_eq_ediv_of_nonneg _ (by omega)]
/-- varint -/
theorem l31 (n : Nat) : ∀ (f m : Nat) (b : List Int) (x : Int), 0 ≤ x → x < 128 * 128 ^ f → x < 9223372036854775808 → f < m → b.length + f ≤ 70368744177664 →
    ∃ b' x', loopP (pb31_1 n) m (b, x) = some (b', x') ∧ 0 ≤ x' ∧ x' < 128 ∧ b' ++ [x'] = b ++ sept f x ∧ b'.length ≤ b.length + f
  | f, m, b, x, h0, h1, h2, hm, hb => by
    obtain ⟨m, rfl⟩ : ∃ k, m = k + 1 := ⟨m - 1, by omega⟩
    by_cases hx : x < 128
    · refine ⟨b, x, ?_, h0, hx, ?_, by omega⟩
      · unfold loopP pb31_1
        rw [if_neg (by simp; omega)]
      · cases f with
        | zero => rfl
        | succ f => simp [sept, hx]
    · cases f with
      | zero => omega
      | succ f =>
        obtain ⟨b', x', g1, g2, g3, g4, g5⟩ := l31 n f m (b ++ [x % 128 + 128]) (x / 128) (by omega) (by rw [Int.pow_succ] at h1; omega) (by omega) (by omega) (by simp; omega)
        refine ⟨b', x', ?_, g2, g3, ?_, by simp at g5; omega⟩
        · unfold loopP
          have : pb31_1 n (b, x) = some (.inl (b ++ [x % 128 + 128], x / 128)) := by
            unfold pb31_1
            rw [if_pos (by simp; omega)]
            dsimp only
            rw [byte7 x h0 h2, apP_ok (by simp; omega), shr7 x h0]
          rw [this]
          exact g1
        · rw [g4]
          simp [sept, hx]
theorem s31 {n : Nat} (b : List Int) (x : Int) (h0 : 0 ≤ x) (h1 : x < 2097152) (hb : b.length ≤ 70368744177000) (hn : 5 ≤ n) : p31 n b x = some (b ++ sept 2 x) := by
  obtain ⟨n, rfl⟩ : ∃ m, n = m + 1 := ⟨n - 1, by omega⟩
  obtain ⟨b', x', g1, g2, g3, g4, g5⟩ := l31 n 2 n b x h0 (by omega) (by omega) (by omega) (by omega)
  rw [p31, g1]
  simp only [Option.bind_some]
  rw [wr8 g2 (by omega), apP_ok (by simp; omega), g4]
theorem s34 : ∀ (f : Nat) {n : Nat} (x : Int), 0 ≤ x → x < 128 * 128 ^ f → x < 9223372036854775808 → f < n → f < 1000 → p34 n x = some (sept f x)
  | f, n, x, h0, h1, h2, hn, hf => by
    obtain ⟨n, rfl⟩ : ∃ m, n = m + 1 := ⟨n - 1, by omega⟩
    rw [p34]
    by_cases hx : x < 128
    · rw [if_pos (by simpa using hx), wr8 h0 (by omega)]
      cases f with
      | zero => rfl
      | succ f => simp [sept, hx]
    · cases f with
      | zero => omega
      | succ f =>
        rw [if_neg (by simpa using hx)]
        rw [remP_ok (by omega), divP_ok (by omega), Int.tmod_eq_emod_of_nonneg h0, Int.tdiv_eq_ediv_of_nonneg h0, wr (x := x / 128) (by omega) (by omega), s34 f (x / 128) (by omega) (by rw [Int.pow_succ] at h1; omega) (by omega) (by omega) (by omega)]
        have := sept_length f (x / 128)
        simp only [Option.bind_some]
        rw [wr (x := 128 + x % 128) (by omega) (by omega), wr8 (by omega) (by omega), apP_ok (by simp; omega)]
        simp [sept, hx, Int.add_comm]
def foldI (x : Int) : Int := if x < 0 then -2 * x - 1 else 2 * x
theorem foldI_bound {x : Int} (h : -1000000 ≤ x ∧ x ≤ 1000000) : 0 ≤ foldI x ∧ foldI x < 2097152 := by unfold foldI; split <;> omega
theorem s32 {n : Nat} (x : Int) (h : -1000000 ≤ x ∧ x ≤ 1000000) (hn : 0 < n) : p32 n x = some (foldI x) := by
  obtain ⟨n, rfl⟩ : ∃ m, n = m + 1 := ⟨n - 1, by omega⟩
  rw [p32]
  unfold foldI
  by_cases hx : x < 0
  · rw [if_pos (by simpa using hx), if_pos hx, wr (x := -2 * x) (by omega) (by omega), wr (by omega) (by omega)]
  · rw [if_neg (by simpa using hx), if_neg hx, wr (by omega) (by omega)]
theorem s35 {n : Nat} (x : Int) (h : -1000000 ≤ x ∧ x ≤ 1000000) (hn : 5 ≤ n) : p35 n x = some (sept 2 (foldI x)) := by
  obtain ⟨n, rfl⟩ : ∃ m, n = m + 1 := ⟨n - 1, by omega⟩
  have hb := foldI_bound h
  rw [p35]
  unfold foldI at hb ⊢
  by_cases hx : x < 0
  · rw [if_pos hx] at hb
    rw [if_pos (by simpa using hx), if_pos hx, wr (x := -2 * x) (by omega) (by omega), wr (by omega) (by omega), s34 2 _ hb.1 (by omega) (by omega) (by omega) (by omega)]
    rfl
  · rw [if_neg hx] at hb
    rw [if_neg (by simpa using hx), if_neg hx, wr (by omega) (by omega), s34 2 _ hb.1 (by omega) (by omega) (by omega) (by omega)]
    rfl
/-- The bytes of marks behind a mark (a, k). -/
def packS : Int → Int → List (Int × Int) → List Int
  | _, _, [] => []
  | a, k, p :: r => sept 2 (p.1 - a) ++ sept 2 (foldI (p.2 - k)) ++ packS p.1 p.2 r
/-- One more mark. -/
def packStep (t : List Int × Int × Int) (p : Int × Int) : List Int × Int × Int := (t.1 ++ sept 2 (p.1 - t.2.1) ++ sept 2 (foldI (p.2 - t.2.2)), p.1, p.2)
theorem packStep_fold (l : List (Int × Int)) : ∀ b a k, (l.foldl packStep (b, a, k)).1 = b ++ packS a k l := by
  induction l with
  | nil => intro b a k; simp [packS]
  | cons p l ih =>
    intro b a k
    rw [List.foldl_cons]
    show (l.foldl packStep (_, p.1, p.2)).1 = _
    rw [ih]
    simp [packS]
theorem packStep_len (l : List (Int × Int)) : ∀ b a k, (l.foldl packStep (b, a, k)).1.length ≤ b.length + 6 * l.length := by
  induction l with
  | nil => intro b a k; simp
  | cons p l ih =>
    intro b a k
    rw [List.foldl_cons, show packStep (b, a, k) p = (b ++ sept 2 (p.1 - a) ++ sept 2 (foldI (p.2 - k)), p.1, p.2) from rfl]
    have := ih (b ++ sept 2 (p.1 - a) ++ sept 2 (foldI (p.2 - k))) p.1 p.2
    have h1 := sept_length 2 (p.1 - a)
    have h2 := sept_length 2 (foldI (p.2 - k))
    simp only [List.length_append, List.length_cons] at this ⊢
    omega
theorem packStep_last {l : List (Int × Int)} (hc : chkM l = (0, 0)) (i : Nat) (hi : i < l.length) (b : List Int) : 0 ≤ ((l.take i).foldl packStep (b, 0, 0)).2.1 ∧ ((l.take i).foldl packStep (b, 0, 0)).2.1 ≤ (l[i]).1 ∧
    0 ≤ ((l.take i).foldl packStep (b, 0, 0)).2.2 ∧ ((l.take i).foldl packStep (b, 0, 0)).2.2 ≤ 16000 := by
  have hx := get_of_lt hi
  have g := (chkM_ok hc).2 i _ hx
  by_cases h0 : i = 0
  · subst h0
    simp
    omega
  · obtain ⟨j, rfl⟩ : ∃ j, i = j + 1 := ⟨i - 1, by omega⟩
    have hy := get_of_lt (show j < l.length by omega)
    have g2 := (chkM_ok hc).2 j _ hy
    have g3 := chkM_mono hc hy hx (by omega)
    rw [fold_take hy]
    simp only [packStep]
    omega
theorem s8 {n : Nat} (l : List (Int × Int)) (hn : 60030 ≤ n) : p8 n l = some (if chkM l = (0, 0) then (packS 0 0 l, (0, 0)) else ([], chkM l)) := by
  obtain ⟨n, rfl⟩ : ∃ m, n = m + 1 := ⟨n - 1, by omega⟩
  rw [p8, s27 l (by omega)]
  simp only [Option.bind_some]
  by_cases h0 : chkM l = (0, 0)
  · obtain ⟨hlen, hok⟩ := chkM_ok h0
    let st : Nat → List Int × Int × Int × Int := fun i => let t := (l.take i).foldl packStep ([], 0, 0); (t.1, t.2.1, t.2.2, (i : Int))
    rw [if_pos h0, h0, if_neg (by simp), loop_to st l.length n (st l.length) (by omega) ?_ ?_ (by simp [st])]
    · simp only [Option.bind_some, st, List.take_length, packStep_fold, List.nil_append]
    · intro i hi
      have hx := get_of_lt hi
      have g := hok i _ hx
      have pl := packStep_last h0 i hi []
      have ln := packStep_len (l.take i) [] 0 0
      have lt := List.length_take_le i l
      have e : st (i + 1) = (let t := packStep ((l.take i).foldl packStep ([], 0, 0)) l[i]; (t.1, t.2.1, t.2.2, ((i + 1 : Nat) : Int))) := by simp only [st]; rw [fold_take hx]
      rw [e]
      simp only [st]
      generalize (l.take i).foldl packStep ([], 0, 0) = t at pl ln
      generalize l[i] = x at hx g pl
      obtain ⟨b, a, k⟩ := t
      simp only [List.length_nil] at ln pl
      unfold pb8_1
      rw [if_pos (by simp; omega)]
      dsimp only at pl ln ⊢
      rw [rd_nat hx, wr (x := x.1 - a) (by omega) (by omega), s31 b _ (by omega) (by omega) (by omega) (by omega)]
      simp only [Option.bind_some]
      rw [wr (x := x.2 - k) (by omega) (by omega), s32 _ (by omega) (by omega)]
      simp only [Option.bind_some]
      have fb := foldI_bound (x := x.2 - k) (by omega)
      have sl := sept_length 2 (x.1 - a)
      rw [s31 _ _ fb.1 fb.2 (by simp; omega) (by omega), wr (x := (i : Int) + 1) (by omega) (by omega)]
      rfl
    · unfold pb8_1
      simp only [st]
      rw [if_neg (by simp)]
  · rw [if_neg h0, if_pos (ne00 h0)]
theorem s13 {n : Nat} (l : List (Int × Int)) (hc : chkM l = (0, 0)) (hn : 60030 ≤ n) : p13 n l = some (packS 0 0 l) := by
  obtain ⟨n, rfl⟩ : ∃ m, n = m + 1 := ⟨n - 1, by omega⟩
  obtain ⟨hlen, hok⟩ := chkM_ok hc
  let st : Nat → List Int × Int × Int × Int := fun i => let t := (l.take i).foldl packStep ([], 0, 0); (t.1, t.2.1, t.2.2, (i : Int))
  rw [p13, loop_to st l.length n (st l.length) (by omega) ?_ ?_ (by simp [st])]
  · simp only [Option.bind_some, st, List.take_length, packStep_fold, List.nil_append]
  · intro i hi
    have hx := get_of_lt hi
    have g := hok i _ hx
    have pl := packStep_last hc i hi []
    have ln := packStep_len (l.take i) [] 0 0
    have lt := List.length_take_le i l
    have e : st (i + 1) = (let t := packStep ((l.take i).foldl packStep ([], 0, 0)) l[i]; (t.1, t.2.1, t.2.2, ((i + 1 : Nat) : Int))) := by simp only [st]; rw [fold_take hx]
    rw [e]
    simp only [st]
    generalize (l.take i).foldl packStep ([], 0, 0) = t at pl ln
    generalize l[i] = x at hx g pl
    obtain ⟨b, a, k⟩ := t
    simp only [List.length_nil] at ln pl
    unfold pb13_1
    rw [if_pos (by simp; omega)]
    dsimp only at pl ln ⊢
    have sl := sept_length 2 (x.1 - a)
    have sl2 := sept_length 2 (foldI (x.2 - k))
    rw [rd_nat hx, wr (x := x.1 - a) (by omega) (by omega), s34 2 _ (by omega) (by omega) (by omega) (by omega) (by omega)]
    simp only [Option.bind_some]
    rw [apP_ok (by omega), wr (x := x.2 - k) (by omega) (by omega), s35 _ (by omega) (by omega)]
    simp only [Option.bind_some]
    rw [apP_ok (by simp; omega), wr (x := (i : Int) + 1) (by omega) (by omega)]
    rfl
  · unfold pb13_1
    simp only [st]
    rw [if_neg (by simp)]
end Go.Proofs.YtmjignphadnadaaF
