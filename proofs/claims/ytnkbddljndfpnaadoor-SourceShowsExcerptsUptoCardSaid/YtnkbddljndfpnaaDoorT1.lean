/- Letters of a text: how they are read. -/
import Derived.Test.YtnkbddljndfpnaaDoorS2
import Derived.Test.YtnkbddljndfpnaaDoorF23
set_option linter.unusedVariables false
set_option linter.unusedSimpArgs false
namespace Go.Proofs.YtnkbddljndfpnaaDoorF
open Go Go.Proofs

def mkB (l : List UInt8) : ByteArray := ⟨l.toArray⟩
theorem mkB_eta (b : ByteArray) : mkB b.data.toList = b := rfl
@[simp] theorem mkB_list (l : List UInt8) : (mkB l).data.toList = l := rfl
@[simp] theorem mkB_size (l : List UInt8) : (mkB l).size = l.length := by
  show l.toArray.size = _
  simp
theorem mkB_get {l : List UInt8} {i : Nat} {c : UInt8} (h : l[i]? = some c) (hb : i < (mkB l).size) : (mkB l)[i]'hb = c := by
  obtain ⟨h1, h2⟩ := List.getElem?_eq_some_iff.1 h
  show l.toArray[i]'(by simpa using h1) = c
  rw [List.getElem_toArray]
  exact h2
theorem mkB_extract (l : List UInt8) (i j : Nat) : (mkB l).extract i j = mkB ((l.take j).drop i) := by
  apply ByteArray.ext
  rw [ByteArray.data_extract]
  show l.toArray.extract i j = ((l.take j).drop i).toArray
  apply Array.ext'
  simp [List.extract_eq_take_drop, List.drop_take]
theorem mkB_append (l m : List UInt8) : mkB l ++ mkB m = mkB (l ++ m) := by
  apply ByteArray.ext
  rw [ByteArray.data_append]
  show l.toArray ++ m.toArray = (l ++ m).toArray
  simp
theorem mkB_inj {l m : List UInt8} (h : mkB l = mkB m) : l = m := by
  have := congrArg (fun b : ByteArray => b.data.toList) h
  exact this
section
variable {ρ : Type}
theorem idxP_ok {l : List UInt8} {i : Nat} {c : UInt8} {K : Int → Option ρ} (h : l[i]? = some c) : idxP (mkB l) (i : Int) K = K (c.toNat : Int) := by
  have hi := (List.getElem?_eq_some_iff.1 h).1
  unfold idxP
  rw [if_pos (by omega), dif_pos (by simpa using hi)]
  congr 1
  have : (mkB l)[(i : Int).toNat]'(by simpa using hi) = c := mkB_get (by simpa using h) _
  rw [this]
theorem subP_ok {l : List UInt8} {i j : Nat} {K : ByteArray → Option ρ} (h1 : i ≤ j) (h2 : j ≤ l.length) : subP (mkB l) (i : Int) (j : Int) K = K (mkB ((l.take j).drop i)) := by
  unfold subP
  rw [if_pos (by omega), if_pos (by omega), if_pos (by simpa using h2)]
  rw [Int.toNat_natCast, Int.toNat_natCast, mkB_extract]
theorem catP_ok {l m : List UInt8} {K : ByteArray → Option ρ} (h : l.length + m.length ≤ 9223372036854775807) : catP (mkB l) (mkB m) K = K (mkB (l ++ m)) := by
  unfold catP
  rw [if_pos (by rw [mkB_size, mkB_size]; omega), mkB_append]
/-- A loop, by what holds of its state. -/
theorem loop_inv {σ τ : Type} {body : σ → Option (σ ⊕ τ)} (I : σ → Prop) (m : σ → Nat) (Q : τ → Prop)
    (h : ∀ st, I st → (∃ st', body st = some (.inl st') ∧ I st' ∧ m st' < m st) ∨ ∃ t, body st = some (.inr t) ∧ Q t) : ∀ (n : Nat) (st : σ), I st → m st < n → ∃ t, loopP body n st = some t ∧ Q t
  | 0, st, _, h0 => by omega
  | n + 1, st, hi, hm => by
    rcases h st hi with ⟨st', e, hi', hm'⟩ | ⟨t, e, hq⟩
    · obtain ⟨t, h1, h2⟩ := loop_inv I m Q h n st' hi' (by omega)
      exact ⟨t, by unfold loopP; rw [e]; exact h1, h2⟩
    · exact ⟨t, by unfold loopP; rw [e], hq⟩
end

/-! ### One letter -/
def dec (l : List UInt8) : Nat × Nat := Utf8.decode (mkB l) 0
theorem get_mkB (l : List UInt8) (i : Nat) : (mkB l).get! i = l.getD i 0 := by
  show l.toArray[i]! = _
  simp [List.getD_eq_getElem?_getD]
  rfl
theorem decode_drop (l : List UInt8) (i : Nat) : Utf8.decode (mkB l) i = dec (l.drop i) := by
  have hg : ∀ k, (mkB l).get! (i + k) = (mkB (l.drop i)).get! (0 + k) := fun k => by
    rw [get_mkB, get_mkB, List.getD_eq_getElem?_getD, List.getD_eq_getElem?_getD, List.getElem?_drop, Nat.zero_add]
  have hs : ∀ k, (i + k < (mkB l).size) = (0 + k < (mkB (l.drop i)).size) := fun k => by
    rw [mkB_size, mkB_size, List.length_drop]
    exact propext ⟨fun h => by omega, fun h => by omega⟩
  unfold dec Utf8.decode
  simp only [hg, hs]
theorem decodeGo_drop {l : List UInt8} (h : l ≠ []) : Lib.decodeGo (mkB l) = dec l := by
  unfold Lib.decodeGo dec
  rw [if_neg]
  rw [mkB_size]
  exact fun h' => h (List.length_eq_zero_iff.1 h')
/-- The bytes of a letter. -/
inductive Ch : List UInt8 → Nat → Prop
  | one (a : UInt8) : a.toNat < 128 → Ch [a] a.toNat
  | two (a x : UInt8) : a.toNat / 32 = 6 → x.toNat / 64 = 2 → 128 ≤ a.toNat % 32 * 64 + x.toNat % 64 → Ch [a, x] (a.toNat % 32 * 64 + x.toNat % 64)
  | three (a x y : UInt8) : a.toNat / 16 = 14 → x.toNat / 64 = 2 → y.toNat / 64 = 2 → 2048 ≤ a.toNat % 16 * 4096 + x.toNat % 64 * 64 + y.toNat % 64 → Utf8.valid (a.toNat % 16 * 4096 + x.toNat % 64 * 64 + y.toNat % 64) = true → Ch [a, x, y] (a.toNat % 16 * 4096 + x.toNat % 64 * 64 + y.toNat % 64)
  | four (a x y z : UInt8) : a.toNat / 8 = 30 → x.toNat / 64 = 2 → y.toNat / 64 = 2 → z.toNat / 64 = 2 → 65536 ≤ a.toNat % 8 * 262144 + x.toNat % 64 * 4096 + y.toNat % 64 * 64 + z.toNat % 64 → Utf8.valid (a.toNat % 8 * 262144 + x.toNat % 64 * 4096 + y.toNat % 64 * 64 + z.toNat % 64) = true →
      Ch [a, x, y, z] (a.toNat % 8 * 262144 + x.toNat % 64 * 4096 + y.toNat % 64 * 64 + z.toNat % 64)
theorem dec_ch {c : List UInt8} {r : Nat} (h : Ch c r) (rest : List UInt8) : dec (c ++ rest) = (r, c.length) := by
  unfold dec Utf8.decode
  cases h with
  | one a h => simp [get_mkB, h]
  | two a x h1 h2 h3 =>
    have h0 : ¬ a.toNat < 128 := by omega
    simp [get_mkB, h0, h1, h2, h3]
  | three a x y h1 h2 h3 h4 h5 =>
    have h0 : ¬ a.toNat < 128 := by omega
    have h0' : ¬ a.toNat / 32 = 6 := by omega
    simp [get_mkB, h0, h0', h1, h2, h3, h4, h5]
  | four a x y z h1 h2 h3 h4 h5 h6 =>
    have h0 : ¬ a.toNat < 128 := by omega
    have h0' : ¬ a.toNat / 32 = 6 := by omega
    have h0'' : ¬ a.toNat / 16 = 14 := by omega
    simp [get_mkB, h0, h0', h0'', h1, h2, h3, h4, h5, h6]
theorem dec_split {l : List UInt8} (h : l ≠ []) : dec l = (65533, 1) ∨ ∃ c r rest, l = c ++ rest ∧ Ch c r ∧ dec l = (r, c.length) := by
  have out : ∀ c r rest, l = c ++ rest → Ch c r → dec l = (65533, 1) ∨ ∃ c r rest, l = c ++ rest ∧ Ch c r ∧ dec l = (r, c.length) := fun c r rest e k => .inr ⟨c, r, rest, e, k, by rw [e]; exact dec_ch k rest⟩
  obtain ⟨a, t, rfl⟩ : ∃ a t, l = a :: t := by cases l with | nil => exact absurd rfl h | cons a t => exact ⟨a, t, rfl⟩
  by_cases h1 : a.toNat < 128
  · exact out [a] _ t rfl (.one a h1)
  by_cases h2 : a.toNat / 32 = 6
  · cases t with
    | nil => left; unfold dec Utf8.decode; simp [get_mkB, h1, h2, Utf8.runeError]
    | cons x t =>
      by_cases hx : x.toNat / 64 = 2
      · by_cases hc : 128 ≤ a.toNat % 32 * 64 + x.toNat % 64
        · exact out [a, x] _ t rfl (.two a x h2 hx hc)
        · left; unfold dec Utf8.decode; simp [get_mkB, h1, h2, hx, hc, Utf8.runeError]
      · left; unfold dec Utf8.decode; simp [get_mkB, h1, h2, hx, Utf8.runeError]
  by_cases h3 : a.toNat / 16 = 14
  · cases t with
    | nil => left; unfold dec Utf8.decode; simp [get_mkB, h1, h2, h3, Utf8.runeError]
    | cons x t =>
      by_cases hx : x.toNat / 64 = 2
      · cases t with
        | nil => left; unfold dec Utf8.decode; simp [get_mkB, h1, h2, h3, hx, Utf8.runeError]
        | cons y t =>
          by_cases hy : y.toNat / 64 = 2
          · by_cases hc : 2048 ≤ a.toNat % 16 * 4096 + x.toNat % 64 * 64 + y.toNat % 64
            · by_cases hv : Utf8.valid (a.toNat % 16 * 4096 + x.toNat % 64 * 64 + y.toNat % 64) = true
              · exact out [a, x, y] _ t rfl (.three a x y h3 hx hy hc hv)
              · left; unfold dec Utf8.decode; simp [get_mkB, h1, h2, h3, hx, hy, hc, hv, Utf8.runeError]
            · left; unfold dec Utf8.decode; simp [get_mkB, h1, h2, h3, hx, hy, hc, Utf8.runeError]
          · left; unfold dec Utf8.decode; simp [get_mkB, h1, h2, h3, hx, hy, Utf8.runeError]
      · left; unfold dec Utf8.decode; simp [get_mkB, h1, h2, h3, hx, Utf8.runeError]
  by_cases h4 : a.toNat / 8 = 30
  · cases t with
    | nil => left; unfold dec Utf8.decode; simp [get_mkB, h1, h2, h3, h4, Utf8.runeError]
    | cons x t =>
      by_cases hx : x.toNat / 64 = 2
      · cases t with
        | nil => left; unfold dec Utf8.decode; simp [get_mkB, h1, h2, h3, h4, hx, Utf8.runeError]
        | cons y t =>
          by_cases hy : y.toNat / 64 = 2
          · cases t with
            | nil => left; unfold dec Utf8.decode; simp [get_mkB, h1, h2, h3, h4, hx, hy, Utf8.runeError]
            | cons z t =>
              by_cases hz : z.toNat / 64 = 2
              · by_cases hc : 65536 ≤ a.toNat % 8 * 262144 + x.toNat % 64 * 4096 + y.toNat % 64 * 64 + z.toNat % 64
                · by_cases hv : Utf8.valid (a.toNat % 8 * 262144 + x.toNat % 64 * 4096 + y.toNat % 64 * 64 + z.toNat % 64) = true
                  · exact out [a, x, y, z] _ t rfl (.four a x y z h4 hx hy hz hc hv)
                  · left; unfold dec Utf8.decode; simp [get_mkB, h1, h2, h3, h4, hx, hy, hz, hc, hv, Utf8.runeError]
                · left; unfold dec Utf8.decode; simp [get_mkB, h1, h2, h3, h4, hx, hy, hz, hc, Utf8.runeError]
              · left; unfold dec Utf8.decode; simp [get_mkB, h1, h2, h3, h4, hx, hy, hz, Utf8.runeError]
          · left; unfold dec Utf8.decode; simp [get_mkB, h1, h2, h3, h4, hx, hy, Utf8.runeError]
      · left; unfold dec Utf8.decode; simp [get_mkB, h1, h2, h3, h4, hx, Utf8.runeError]
  · left; unfold dec Utf8.decode; simp [get_mkB, h1, h2, h3, h4, Utf8.runeError]
theorem Ch.len {c : List UInt8} {r : Nat} (h : Ch c r) : 1 ≤ c.length ∧ c.length ≤ 4 := by cases h <;> simp
theorem Ch.w1 {c : List UInt8} {r : Nat} (h : Ch c r) (hl : c.length = 1) : ∃ a : UInt8, c = [a] ∧ r = a.toNat ∧ a.toNat < 128 := by
  cases h <;> simp at hl ⊢
  assumption
theorem Ch.w2 {c : List UInt8} {r : Nat} (h : Ch c r) (hl : 2 ≤ c.length) : 128 ≤ r := by
  cases h <;> simp at hl ⊢ <;> omega
theorem Ch.lt {c : List UInt8} {r : Nat} (h : Ch c r) : r < 2147483648 := by
  cases h with
  | one a h => omega
  | two a x => omega
  | three a x y => omega
  | four a x y z => omega
/-- The first byte, and those behind it. -/
theorem Ch.head {c : List UInt8} {r : Nat} (h : Ch c r) : ∃ a t, c = a :: t ∧ a.toNat / 64 ≠ 2 ∧ (∀ x ∈ t, x.toNat / 64 = 2) ∧ (t = [] → r = a.toNat ∧ a.toNat < 128) ∧ (t ≠ [] → 192 ≤ a.toNat) := by
  cases h with
  | one a h => exact ⟨a, [], rfl, by omega, by simp, fun _ => ⟨rfl, h⟩, fun h => absurd rfl h⟩
  | two a x h1 h2 h3 => exact ⟨a, [x], rfl, by omega, by simpa using h2, by simp, fun _ => by omega⟩
  | three a x y h1 h2 h3 => exact ⟨a, [x, y], rfl, by omega, by simpa using ⟨h2, h3⟩, by simp, fun _ => by omega⟩
  | four a x y z h1 h2 h3 h4 => exact ⟨a, [x, y, z], rfl, by omega, by simpa using ⟨h2, h3, h4⟩, by simp, fun _ => by omega⟩
/-- A letter that is permitted. -/
def Gd (c : List UInt8) : Prop := ∃ r, Ch c r ∧ (r < 32 → r = 10)
/-- What stands at the head of a text. -/
inductive Hd (l : List UInt8) : Prop
  | good (c : List UInt8) (r : Nat) (rest : List UInt8) (e : l = c ++ rest) (h : Ch c r) (hr : r < 32 → r = 10) (d : dec l = (r, c.length))
  | bad (r w : Nat) (d : dec l = (r, w)) (hw : w = 1) (hr : r = 65533 ∨ (r < 32 ∧ r ≠ 10))
theorem hd (l : List UInt8) (h : l ≠ []) : Hd l := by
  rcases dec_split h with e | ⟨c, r, rest, e, k, d⟩
  · exact .bad 65533 1 e rfl (.inl rfl)
  · by_cases hr : r < 32 → r = 10
    · exact .good c r rest e k hr d
    · refine .bad r c.length d ?_ (.inr (by omega))
      have := k.len
      rcases Nat.lt_or_ge c.length 2 with h2 | h2
      · omega
      · have := k.w2 h2; omega
def badB (r w : Nat) : Bool := (decide (r = 65533) && decide (w ≤ 1)) || (decide (r < 32) && decide (r ≠ 10))
theorem badB_good {c : List UInt8} {r : Nat} (h : Ch c r) (hr : r < 32 → r = 10) : badB r c.length = false := by
  unfold badB
  have := h.len
  by_cases h1 : r = 65533
  · have : ¬ c.length ≤ 1 := fun h2 => by
      obtain ⟨a, -, e, hl⟩ := h.w1 (by omega)
      omega
    simp [h1, this]
  · simp [h1]
    intro h2; exact hr h2
theorem badB_bad {r w : Nat} (hw : w = 1) (hr : r = 65533 ∨ (r < 32 ∧ r ≠ 10)) : badB r w = true := by
  unfold badB
  rcases hr with h | ⟨h1, h2⟩
  · simp [h, hw]
  · simp [h1, h2]
/-- The first place that is not permitted. -/
def fb : Nat → List UInt8 → Nat → Option Nat
  | 0, _, _ => none
  | k + 1, l, p => if l = [] then none else if badB (dec l).1 (dec l).2 then some p else fb k (l.drop (dec l).2) (p + (dec l).2)
def fbad (l : List UInt8) : Option Nat := fb (l.length + 1) l 0
theorem fb_none : ∀ (k : Nat) (l : List UInt8) (p : Nat), l.length < k → fb k l p = none → ∃ cs : List (List UInt8), l = cs.flatten ∧ ∀ c ∈ cs, Gd c
  | 0, l, p, h, _ => by omega
  | k + 1, l, p, h, e => by
    unfold fb at e
    by_cases h0 : l = []
    · exact ⟨[], by simp [h0], by simp⟩
    rw [if_neg h0] at e
    cases hd l h0 with
    | good c r rest e1 h1 hr d =>
      rw [d] at e
      simp only [badB_good h1 hr, Bool.false_eq_true, if_false] at e
      have hl := h1.len
      obtain ⟨cs, h2, h3⟩ := fb_none k (l.drop c.length) _ (by rw [List.length_drop]; have := congrArg List.length e1; simp at this; omega) e
      refine ⟨c :: cs, ?_, fun x hx => ?_⟩
      · rw [List.flatten_cons, ← h2, e1]; simp
      · rcases List.mem_cons.1 hx with rfl | hx
        · exact ⟨r, h1, hr⟩
        · exact h3 x hx
    | bad r w d hw hr =>
      rw [d] at e
      simp [badB_bad hw hr] at e
end Go.Proofs.YtnkbddljndfpnaaDoorF
