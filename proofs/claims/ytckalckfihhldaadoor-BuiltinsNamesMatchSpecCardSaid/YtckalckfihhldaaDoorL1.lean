/- What strings.Fields makes of letters below 128. -/
import Derived.Test.YtckalckfihhldaaDoorP1
import Derived.Test.YtckalckfihhldaaDoorF23
set_option linter.unusedVariables false
set_option linter.unusedSimpArgs false
namespace Go.Proofs.YtckalckfihhldaaDoorF
open Go Go.Proofs
set_option maxRecDepth 100000

def mkB (l : List UInt8) : ByteArray := ⟨l.toArray⟩
theorem mkB_eta (b : ByteArray) : mkB b.data.toList = b := rfl
@[simp] theorem mkB_size (l : List UInt8) : (mkB l).size = l.length := by
  show l.toArray.size = _
  simp
theorem mkB_get {l : List UInt8} {i : Nat} {c : UInt8} (h : l[i]? = some c) (hb : i < (mkB l).size) : (mkB l)[i]'hb = c := by
  obtain ⟨h1, h2⟩ := List.getElem?_eq_some_iff.1 h
  show l.toArray[i]'(by simpa using h1) = c
  rw [List.getElem_toArray]
  exact h2
theorem mkB_extract (l : List UInt8) (i j : Nat) : (mkB l).extract i j = mkB ((l.take j).drop i) := by
  apply ByteArray.ext
  rw [ByteArray.data_extract]
  show l.toArray.extract i j = ((l.take j).drop i).toArray
  apply Array.ext'
  simp [List.extract_eq_take_drop, List.drop_take]
section
variable {ρ : Type}
theorem idxP_ok {l : List UInt8} {i : Nat} {c : UInt8} {K : Int → Option ρ} (h : l[i]? = some c) : idxP (mkB l) (i : Int) K = K (c.toNat : Int) := by
  have hi := (List.getElem?_eq_some_iff.1 h).1
  unfold idxP
  rw [if_pos (by omega), dif_pos (by simpa using hi)]
  congr 1
  have : (mkB l)[(i : Int).toNat]'(by simpa using hi) = c := mkB_get (by simpa using h) _
  rw [this]
theorem subP_ok {l : List UInt8} {i j : Nat} {K : ByteArray → Option ρ} (h1 : i ≤ j) (h2 : j ≤ l.length) : subP (mkB l) (i : Int) (j : Int) K = K (mkB ((l.take j).drop i)) := by
  unfold subP
  rw [if_pos (by omega), if_pos (by omega), if_pos (by simpa using h2)]
  rw [Int.toNat_natCast, Int.toNat_natCast, mkB_extract]
theorem inb_ok {n : Nat} {i : Int} {A : Option ρ} (h0 : 0 ≤ i) (h1 : i < n) : inb n i A = A := by
  unfold inb
  rw [if_pos h0, if_pos h1]
end
/-- A space. -/
def sp (c : UInt8) : Bool := c == 9 || c == 10 || c == 11 || c == 12 || c == 13 || c == 32
def spI (c : UInt8) : Int := if sp c then 1 else 0
theorem gT0_spN : ∀ n, n < 256 → gT0[n]? = some (if n = 9 ∨ n = 10 ∨ n = 11 ∨ n = 12 ∨ n = 13 ∨ n = 32 then 1 else 0) := by decide
theorem sp_nat (c : UInt8) : sp c = decide (c.toNat = 9 ∨ c.toNat = 10 ∨ c.toNat = 11 ∨ c.toNat = 12 ∨ c.toNat = 13 ∨ c.toNat = 32) := by
  rw [Bool.eq_iff_iff]
  simp only [sp, Bool.or_eq_true, beq_iff_eq, decide_eq_true_eq, ← UInt8.toNat_inj, or_assoc]
  rfl
theorem gT0_sp (c : UInt8) : gT0[((c.toNat : Int)).toNat]? = some (spI c) := by
  rw [Int.toNat_natCast, gT0_spN _ c.toNat_lt]
  unfold spI
  rw [sp_nat]
  simp
/-- Words between spaces; 'cur': what has been read of a word. -/
def wgo : List UInt8 → List UInt8 → List (List UInt8)
  | cur, [] => if cur.isEmpty then [] else [cur]
  | cur, c :: l => if sp c then (if cur.isEmpty then wgo [] l else cur :: wgo [] l) else wgo (cur ++ [c]) l
def words (l : List UInt8) : List (List UInt8) := wgo [] l
def cntW : Bool → List UInt8 → Nat
  | _, [] => 0
  | w, c :: l => (if w && !sp c then 1 else 0) + cntW (sp c) l
theorem wgo_len : ∀ (l cur : List UInt8), (wgo cur l).length = (if cur.isEmpty then 0 else 1) + cntW cur.isEmpty l
  | [], cur => by
    unfold wgo cntW
    cases cur <;> simp
  | c :: l, cur => by
    unfold wgo cntW
    by_cases hc : sp c = true
    · rw [if_pos hc, hc]
      cases cur with
      | nil => simp [wgo_len l []]
      | cons x r => simp [wgo_len l []]; omega
    · have hc' : sp c = false := by simpa using hc
      rw [if_neg hc, wgo_len l (cur ++ [c]), hc']
      have : (cur ++ [c]).isEmpty = false := by cases cur <;> rfl
      rw [this]
      cases cur with
      | nil => simp
      | cons x r => simp
theorem words_len (l : List UInt8) : (words l).length = cntW true l := by
  rw [words, wgo_len]
  simp
theorem cntW_le : ∀ (l : List UInt8) (w : Bool), cntW w l ≤ l.length
  | [], w => by simp [cntW]
  | c :: l, w => by
    have := cntW_le l (sp c)
    simp only [cntW, List.length_cons]
    split <;> omega
theorem cntW_snoc : ∀ (l : List UInt8) (w : Bool) (c : UInt8), cntW w (l ++ [c]) = cntW w l + (if (match l.getLast? with | some d => sp d | none => w) && !sp c then 1 else 0)
  | [], w, c => by simp [cntW]
  | d :: l, w, c => by
    rw [List.cons_append, cntW, cntW, cntW_snoc l (sp d) c, Nat.add_assoc]
    congr 2
    cases l with
    | nil => simp
    | cons e r => rfl
def lastSp (l : List UInt8) : Bool := match l.getLast? with | some d => sp d | none => true
theorem lastSp_snoc (l : List UInt8) (c : UInt8) : lastSp (l ++ [c]) = sp c := by unfold lastSp; simp
/-- ASCII. -/
def asc (l : List UInt8) : Prop := ∀ c ∈ l, c.toNat < 128
theorem and_not (w s : Bool) : IntKind.wrap .i64 (((BitVec.ofInt (IntKind.bits .i64) (if w then 1 else 0) &&& BitVec.ofInt (IntKind.bits .i64) (IntKind.wrap .i64 ((BitVec.ofInt (IntKind.bits .i64) (-1) ^^^ BitVec.ofInt (IntKind.bits .i64) (IntKind.wrap .i64 (if s then 1 else 0))).toNat : Nat))).toNat : Nat)) = if w && !s then 1 else 0 := by
  cases w <;> cases s <;> decide
theorem or_lt (a b : Int) (h0 : 0 ≤ a) (h1 : a < 128) (k0 : 0 ≤ b) (k1 : b < 128) : 0 ≤ IntKind.wrap .u8 (((BitVec.ofInt (IntKind.bits .u8) a ||| BitVec.ofInt (IntKind.bits .u8) b).toNat : Nat)) ∧ IntKind.wrap .u8 (((BitVec.ofInt (IntKind.bits .u8) a ||| BitVec.ofInt (IntKind.bits .u8) b).toNat : Nat)) < 128 := by
  have e : ∀ x : Int, 0 ≤ x → x < 128 → (BitVec.ofInt (IntKind.bits .u8) x).toNat = x.toNat := by
    intro x hx hx'
    show (BitVec.ofInt 8 x).toNat = _
    rw [BitVec.toNat_ofInt]
    have : x % (2 ^ 8 : Nat) = x := Int.emod_eq_of_lt hx (by omega)
    rw [this]
  have hlt : a.toNat ||| b.toNat < 2 ^ 7 := Nat.or_lt_two_pow (by omega) (by omega)
  rw [BitVec.toNat_or, e a h0 h1, e b k0 k1, wr8 (by omega) (by omega)]
  omega
theorem lf1 (n : Nat) (l : List UInt8) (ha : asc l) (hl : l.length ≤ 1000000000000) (hn : l.length < n) : ∃ b, b < 128 ∧ ∃ w, loopP (pb42_1 n (mkB l)) n (0, 1, 0, 0) = some ((cntW true l : Int), w, b, (l.length : Int)) := by
  suffices h : ∀ i, i ≤ l.length → ∃ b, 0 ≤ b ∧ b < 128 ∧ ∀ t, loopP (pb42_1 n (mkB l)) (n - i) ((cntW true (l.take i) : Int), (if lastSp (l.take i) then 1 else 0), b, (i : Int)) = some t → loopP (pb42_1 n (mkB l)) n (0, 1, 0, 0) = some t by
    obtain ⟨b, _, h2, h3⟩ := h l.length (Nat.le_refl _)
    refine ⟨b, h2, (if lastSp l then 1 else 0), ?_⟩
    apply h3
    obtain ⟨m, hm⟩ : ∃ m, n - l.length = m + 1 := ⟨n - l.length - 1, by omega⟩
    rw [hm]
    unfold loopP pb42_1
    rw [if_neg (by simp), List.take_length]
  intro i
  induction i with
  | zero =>
    intro _
    refine ⟨0, by omega, by omega, fun t ht => ?_⟩
    simpa [cntW, lastSp] using ht
  | succ i ih =>
    intro hi
    obtain ⟨b, h1, h2, h3⟩ := ih (by omega)
    have hx := get_of_lt (show i < l.length by omega)
    have hc := ha _ (List.mem_of_getElem? hx)
    have ho := or_lt b (l[i].toNat : Int) h1 h2 (by omega) (by omega)
    refine ⟨_, ho.1, ho.2, fun t ht => h3 t ?_⟩
    obtain ⟨m, hm⟩ : ∃ m, n - i = m + 1 := ⟨n - i - 1, by omega⟩
    rw [hm]
    unfold loopP
    have hcl := cntW_le (l.take i) true
    have hlt := List.length_take_le i l
    have hbody : pb42_1 n (mkB l) ((cntW true (l.take i) : Int), (if lastSp (l.take i) then 1 else 0), b, (i : Int)) = some (.inl ((cntW true (l.take (i + 1)) : Int), (if lastSp (l.take (i + 1)) then 1 else 0), IntKind.wrap .u8 (((BitVec.ofInt (IntKind.bits .u8) b ||| BitVec.ofInt (IntKind.bits .u8) (l[i].toNat : Int)).toNat : Nat)), ((i + 1 : Nat) : Int))) := by
      unfold pb42_1
      rw [if_pos (by simp; omega)]
      dsimp only
      rw [idxP_ok hx, inb_ok (by omega) (by omega), rd_int (by omega) (gT0_sp _)]
      have e1 := and_not (lastSp (l.take i)) (sp l[i])
      unfold spI
      rw [e1, take_succ hx, cntW_snoc]
      have e2 : (match (l.take i).getLast? with | some d => sp d | none => true) = lastSp (l.take i) := rfl
      rw [e2]
      have e3 : lastSp (l.take i ++ [l[i]]) = sp l[i] := lastSp_snoc _ _
      rw [e3, wr (x := (i : Int) + 1) (by omega) (by omega)]
      have e4 : IntKind.wrap .i64 (if sp l[i] = true then 1 else 0) = if sp l[i] = true then 1 else 0 := by cases sp l[i] <;> decide
      rw [e4]
      have e5 : IntKind.wrap .i64 ((cntW true (l.take i) : Int) + if (lastSp (l.take i) && !sp l[i]) = true then 1 else 0) = ((cntW true (l.take i) + (if (lastSp (l.take i) && !sp l[i]) = true then 1 else 0) : Nat) : Int) := by
        rw [wr (by split <;> omega) (by split <;> omega)]
        split <;> simp
      rw [e5]
      rfl
    rw [hbody]
    dsimp only
    have : n - (i + 1) = m := by omega
    rw [this] at ht
    exact ht
theorem skip_loop {body : Int → Option (Int ⊕ Int)} (l : List UInt8) (hb : ∀ i : Nat, i ≤ l.length → body (i : Int) = some (if (match l[i]? with | some c => sp c | none => false) then .inl ((i + 1 : Nat) : Int) else .inr (i : Int))) :
    ∀ (f m i : Nat), l.length - i ≤ f → f < m → i ≤ l.length → loopP body m (i : Int) = some ((i + ((l.drop i).takeWhile sp).length : Nat) : Int)
  | f, m, i, hf, hm, hi => by
    obtain ⟨m, rfl⟩ : ∃ k, m = k + 1 := ⟨m - 1, by omega⟩
    unfold loopP
    rw [hb i hi]
    by_cases h : i < l.length
    · have hx := get_of_lt h
      rw [List.drop_eq_getElem_cons h, hx]
      dsimp only
      by_cases hc : sp l[i] = true
      · rw [if_pos hc]
        cases f with
        | zero => omega
        | succ f =>
          have ih := skip_loop l hb f m (i + 1) (by omega) (by omega) (by omega)
          dsimp only
          rw [ih, List.takeWhile_cons_of_pos hc, List.length_cons]
          congr 2
          omega
      · rw [if_neg hc, List.takeWhile_cons_of_neg hc]
        rfl
    · have hn : l[i]? = none := List.getElem?_eq_none (by omega)
      rw [hn, List.drop_eq_nil_of_le (by omega)]
      rfl
theorem bf2 (n : Nat) (l : List UInt8) (hl : l.length ≤ 1000000000000) (i : Nat) (hi : i ≤ l.length) : pb42_2 n (mkB l) (i : Int) = some (if (match l[i]? with | some c => sp c | none => false) then .inl ((i + 1 : Nat) : Int) else .inr (i : Int)) := by
  unfold pb42_2
  simp only [pj]
  rw [wr (x := (i : Int) + 1) (by omega) (by omega)]
  by_cases h : i < l.length
  · have hx := get_of_lt h
    rw [if_pos (by simp; omega), idxP_ok hx, inb_ok (by omega) (by have := l[i].toNat_lt; omega), rd_int (by omega) (gT0_sp _), hx]
    unfold spI
    cases hs : sp l[i] <;> simp [hs]
  · rw [if_neg (by simp; omega), List.getElem?_eq_none (by omega)]
    simp
theorem bf4 (n : Nat) (l : List UInt8) (hl : l.length ≤ 1000000000000) (i : Nat) (hi : i ≤ l.length) : pb42_4 n (mkB l) (i : Int) = some (if (match l[i]? with | some c => sp c | none => false) then .inl ((i + 1 : Nat) : Int) else .inr (i : Int)) := by
  unfold pb42_4
  simp only [pj]
  rw [wr (x := (i : Int) + 1) (by omega) (by omega)]
  by_cases h : i < l.length
  · have hx := get_of_lt h
    rw [if_pos (by simp; omega), idxP_ok hx, inb_ok (by omega) (by have := l[i].toNat_lt; omega), rd_int (by omega) (gT0_sp _), hx]
    unfold spI
    cases hs : sp l[i] <;> simp [hs]
  · rw [if_neg (by simp; omega), List.getElem?_eq_none (by omega)]
    simp
theorem wgo_skip : ∀ (l : List UInt8), wgo [] l = wgo [] (l.drop (l.takeWhile sp).length)
  | [] => rfl
  | c :: l => by
    by_cases hc : sp c = true
    · rw [List.takeWhile_cons_of_pos hc, List.length_cons, List.drop_succ_cons, ← wgo_skip l]
      conv => lhs; unfold wgo
      rw [if_pos hc]
      rfl
    · rw [List.takeWhile_cons_of_neg hc]
      rfl
theorem takeWhile_stop {p : UInt8 → Bool} : ∀ (l : List UInt8) (c : UInt8), l[(l.takeWhile p).length]? = some c → p c = false
  | [], c, h => by simp at h
  | d :: l, c, h => by
    by_cases hd : p d = true
    · rw [List.takeWhile_cons_of_pos hd, List.length_cons, List.getElem?_cons_succ] at h
      exact takeWhile_stop l c h
    · rw [List.takeWhile_cons_of_neg hd] at h
      simp at h
      subst h
      simpa using hd
theorem lf3 (n : Nat) (l : List UInt8) (hl : l.length ≤ 1000000000000) (hn : l.length < n) : ∀ (f m : Nat) (a : List ByteArray) (na fs i : Nat), l.length - i ≤ f → f < m → fs ≤ i → i ≤ l.length → (fs = i → ∀ c, l[i]? = some c → sp c = false) →
    na + (wgo ((l.take i).drop fs) (l.drop i)).length ≤ a.length → a.length ≤ 1000000000000 →
    ∃ (a' : List ByteArray) (na' fs' : Nat), loopP (pb42_3 n (mkB l)) m (a, (na : Int), (fs : Int), (i : Int)) = some (a', (na' : Int), (fs' : Int), (l.length : Int)) ∧ fs' ≤ l.length ∧ a'.length = a.length ∧
      ∃ done : List (List UInt8), wgo ((l.take i).drop fs) (l.drop i) = done ++ (if fs' < l.length then [l.drop fs'] else []) ∧ na' = na + done.length ∧ a'.take na' = a.take na ++ done.map mkB
  | f, m, a, na, fs, i, hf, hm, h1, h2, h3, h4, h5 => by
    obtain ⟨m, rfl⟩ : ∃ k, m = k + 1 := ⟨m - 1, by omega⟩
    by_cases h : i < l.length
    · have hx := get_of_lt h
      have hd := List.drop_eq_getElem_cons h
      by_cases hc : sp l[i] = true
      · -- a space: a word ends
        have hne : fs ≠ i := fun e => by
          have := h3 e _ hx
          rw [hc] at this
          cases this
        have hcur : ((l.take i).drop fs).isEmpty = false := by
          cases hh : (l.take i).drop fs with
          | nil =>
            have := congrArg List.length hh
            simp at this
            omega
          | cons _ _ => rfl
        have hw : wgo ((l.take i).drop fs) (l.drop i) = (l.take i).drop fs :: wgo [] (l.drop (i + 1)) := by
          rw [hd]
          conv => lhs; unfold wgo
          rw [if_pos hc, hcur]
          rfl
        rw [hw, List.length_cons] at h4
        have hskip := skip_loop l (bf4 n l hl) l.length n (i + 1) (by omega) (by omega) (by omega)
        have hi1 : i + 1 + ((l.drop (i + 1)).takeWhile sp).length ≤ l.length := by
          have := (List.takeWhile_sublist (p := sp) (l := l.drop (i + 1))).length_le
          simp at this
          omega
        have hw2 : wgo [] (l.drop (i + 1)) = wgo [] (l.drop (i + 1 + ((l.drop (i + 1)).takeWhile sp).length)) := by
          rw [wgo_skip (l.drop (i + 1)), List.drop_drop]
        have hstop : ∀ c, l[i + 1 + ((l.drop (i + 1)).takeWhile sp).length]? = some c → sp c = false := fun c hcc => by
          refine takeWhile_stop (l.drop (i + 1)) c ?_
          rw [List.getElem?_drop]
          exact hcc
        have hgt : i < i + 1 + ((l.drop (i + 1)).takeWhile sp).length := by omega
        generalize i + 1 + ((l.drop (i + 1)).takeWhile sp).length = i1 at hskip hi1 hw2 hstop hgt
        by_cases hge : i1 ≤ i
        · omega
        · have hself : (l.take i1).drop i1 = [] := by simp
          have hna : na < a.length := by omega
          cases f with
          | zero => omega
          | succ f =>
            obtain ⟨a', na', fs', g1, g2, g3, done, g4, g5, g6⟩ := lf3 n l hl hn f m (a.set na (mkB ((l.take i).drop fs))) (na + 1) i1 i1 (by omega) (by omega) (Nat.le_refl _) hi1 (fun _ => hstop) (by rw [hself, ← hw2, List.length_set]; omega) (by simpa using h5)
            refine ⟨a', na', fs', ?_, g2, by rw [g3]; simp, (l.take i).drop fs :: done, ?_, by rw [g5]; simp; omega, ?_⟩
            · unfold loopP
              have hbody : pb42_3 n (mkB l) (a, (na : Int), (fs : Int), (i : Int)) = some (.inl (a.set na (mkB ((l.take i).drop fs)), ((na + 1 : Nat) : Int), (i1 : Int), (i1 : Int))) := by
                unfold pb42_3
                rw [if_pos (by simp; omega)]
                dsimp only
                rw [idxP_ok hx, inb_ok (by omega) (by have := l[i].toNat_lt; omega), rd_int (by omega) (gT0_sp _), if_neg (by simp [spI, hc]), subP_ok h1 h2, rd_nat (get_of_lt hna)]
                simp only [pj]
                rw [wr (x := (i : Int) + 1) (by omega) (by omega), wr (x := (na : Int) + 1) (by omega) (by omega)]
                rw [show (i : Int) + 1 = ((i + 1 : Nat) : Int) by omega, hskip]
                rfl
              rw [hbody]
              exact g1
            · rw [hw, hw2]
              rw [hself] at g4
              rw [g4]
              rfl
            · rw [g6, List.map_cons, take_succ (x := mkB ((l.take i).drop fs)) (by rw [List.getElem?_set_self hna]), List.take_set_of_le (Nat.le_refl _)]
              simp
      · -- within a word
        have hcc : sp l[i] = false := by simpa using hc
        have hw : wgo ((l.take i).drop fs) (l.drop i) = wgo ((l.take (i + 1)).drop fs) (l.drop (i + 1)) := by
          rw [hd]
          conv => lhs; unfold wgo
          rw [if_neg hc, take_succ hx, List.drop_append_of_le_length (by simp; omega)]
        cases f with
        | zero => omega
        | succ f =>
          obtain ⟨a', na', fs', g1, g⟩ := lf3 n l hl hn f m a na fs (i + 1) (by omega) (by omega) (by omega) (by omega) (fun e => by omega) (by rw [← hw]; exact h4) h5
          refine ⟨a', na', fs', ?_, by rw [hw]; exact g⟩
          unfold loopP
          have hbody : pb42_3 n (mkB l) (a, (na : Int), (fs : Int), (i : Int)) = some (.inl (a, (na : Int), (fs : Int), ((i + 1 : Nat) : Int))) := by
            unfold pb42_3
            rw [if_pos (by simp; omega)]
            dsimp only
            rw [idxP_ok hx, inb_ok (by omega) (by have := l[i].toNat_lt; omega), rd_int (by omega) (gT0_sp _), if_pos (by simp [spI, hcc]), wr (x := (i : Int) + 1) (by omega) (by omega)]
            rfl
          rw [hbody]
          exact g1
    · have hi : i = l.length := by omega
      subst hi
      refine ⟨a, na, fs, ?_, h1, rfl, [], ?_, by simp, by simp⟩
      · unfold loopP pb42_3
        rw [if_neg (by simp)]
      · rw [List.take_length, List.drop_length]
        unfold wgo
        by_cases hfs : fs < l.length
        · rw [if_pos hfs, if_neg]
          · rfl
          · intro hh
            have := congrArg List.length (List.isEmpty_iff.1 hh)
            simp at this
            omega
        · rw [if_neg hfs, List.drop_eq_nil_of_le (by omega)]
          rfl
theorem fields_ok {n : Nat} (l : List UInt8) (ha : asc l) (hl : l.length ≤ 1000000000) (hn : l.length + 10 < n) : p42 n (mkB l) = some ((words l).map mkB) := by
  obtain ⟨n, rfl⟩ : ∃ m, n = m + 1 := ⟨n - 1, by omega⟩
  obtain ⟨b, hb, w, e1⟩ := lf1 n l ha (by omega) (by omega)
  have hcw := cntW_le l true
  have e2 := skip_loop l (bf2 n l (by omega)) l.length n 0 (by omega) (by omega) (by omega)
  rw [show ((0 : Nat) : Int) = 0 from rfl, Nat.zero_add, List.drop_zero] at e2
  have hk : (l.takeWhile sp).length ≤ l.length := (List.takeWhile_sublist (p := sp) (l := l)).length_le
  have hself : (l.take (l.takeWhile sp).length).drop (l.takeWhile sp).length = [] := by simp
  have hw : wgo [] (l.drop (l.takeWhile sp).length) = words l := by rw [words, wgo_skip l]
  obtain ⟨a', na', fs', g1, g2, g3, done, g4, g5, g6⟩ := lf3 n l (by omega) (by omega) l.length n (List.replicate (cntW true l) ByteArray.empty) 0 (l.takeWhile sp).length (l.takeWhile sp).length (by omega) (by omega) (Nat.le_refl _) hk (fun _ c hc => takeWhile_stop l c hc) (by rw [hself, hw, words_len]; simp) (by simp; omega)
  rw [hself, hw] at g4
  rw [p42, e1]
  simp only [Option.bind_some]
  rw [if_neg (by simp; omega)]
  unfold mkP
  rw [if_pos (by omega), if_pos (by omega), if_pos (by omega)]
  dsimp only
  rw [e2]
  simp only [Option.bind_some]
  rw [Int.toNat_natCast]
  rw [show ((0 : Nat) : Int) = 0 from rfl] at g1
  rw [g1]
  simp only [Option.bind_some, pj]
  simp only [List.length_replicate] at g3
  rw [Nat.zero_add] at g5
  simp only [List.take_zero, List.nil_append] at g6
  have hlen := congrArg List.length g4
  rw [words_len, List.length_append] at hlen
  by_cases hf : fs' < l.length
  · rw [if_pos hf] at g4 hlen
    simp only [List.length_singleton] at hlen
    have hna : na' < a'.length := by omega
    rw [if_pos (by simpa using hf), show (((mkB l).size : Nat) : Int) = ((l.length : Nat) : Int) by rw [mkB_size], subP_ok (by omega) (Nat.le_refl _), rd_nat (get_of_lt hna), List.take_length, Int.toNat_natCast]
    rw [g4, List.map_append, ← g6]
    congr 1
    have e3 : a'.set na' (mkB (l.drop fs')) = (a'.set na' (mkB (l.drop fs'))).take (na' + 1) := by rw [List.take_of_length_le (by simp; omega)]
    rw [e3, take_succ (x := mkB (l.drop fs')) (by rw [List.getElem?_set_self hna]), List.take_set_of_le (Nat.le_refl _)]
    rfl
  · rw [if_neg hf] at g4 hlen
    rw [if_neg (by simpa using hf), g4, List.append_nil, ← g6, List.take_of_length_le (by simp at hlen; omega)]
end Go.Proofs.YtckalckfihhldaaDoorF
