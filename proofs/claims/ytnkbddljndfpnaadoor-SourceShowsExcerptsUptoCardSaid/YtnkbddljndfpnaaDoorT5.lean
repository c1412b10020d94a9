/- Sources: positions and offsets, by the program. -/
import Derived.Test.YtnkbddljndfpnaaDoorT4
set_option linter.unusedVariables false
set_option linter.unusedSimpArgs false
namespace Go.Proofs.YtnkbddljndfpnaaDoorF
open Go Go.Proofs
set_option maxRecDepth 100000

theorem fault_if {ρ : Type} {c : Int × Int} {X Y : Option ρ} : (if (!((c.1 == 0) && ((c.2 == 0) && true))) = true then X else Y) = if c = (0, 0) then Y else X := by
  obtain ⟨a, b⟩ := c
  by_cases h1 : a = 0 <;> by_cases h2 : b = 0 <;> simp [h1, h2]
theorem p33_ok {n : Nat} (hn : 1 ≤ n) {l : List UInt8} (hl : l.length ≤ 16000) : p33 n (mkB l) 10 = some (Lib.lastIndexByte (mkB l) 10) := by
  obtain ⟨n, rfl⟩ : ∃ m, n = m + 1 := ⟨n - 1, by omega⟩
  simp only [p33, liP]
  rw [if_pos (by rw [mkB_size]; omega)]
theorem p34_ok {n : Nat} (hn : 1 ≤ n) (l : List UInt8) : p34 n (mkB l) (⟨#[10]⟩ : ByteArray) = some (Lib.countByte l 10 : Int) := by
  obtain ⟨n, rfl⟩ : ∃ m, n = m + 1 := ⟨n - 1, by omega⟩
  rfl
theorem p35_ok {n : Nat} (hn : 1 ≤ n) {l : List UInt8} (hl : l.length ≤ 16000) : p35 n (mkB l) = some (Lib.runeCount (mkB l) : Int) := by
  obtain ⟨n, rfl⟩ : ∃ m, n = m + 1 := ⟨n - 1, by omega⟩
  simp only [p35, rcP]
  rw [if_pos (by rw [mkB_size]; omega)]
theorem p36_ok {n : Nat} (hn : 1 ≤ n) {l : List UInt8} (hl : l.length ≤ 16000) {k : Int} (h1 : -9223372036854775808 ≤ k) (h2 : k ≤ 9223372036854775807) : p36 n (mkB l) k = some (findR (mkB l) k) := by
  obtain ⟨n, rfl⟩ : ∃ m, n = m + 1 := ⟨n - 1, by omega⟩
  simp only [p36, fiP]
  rw [if_pos ⟨by rw [mkB_size]; omega, h1, h2⟩]
theorem start_tab : ∀ x, x < 256 → (IntKind.wrap .u8 (((BitVec.ofInt (IntKind.bits .u8) (x : Nat) &&& BitVec.ofInt (IntKind.bits .u8) 192).toNat : Nat)) != 128) = decide (x / 64 ≠ 2) := by decide
theorem p32_ok {n : Nat} (hn : 1 ≤ n) (a : UInt8) : p32 n (a.toNat : Int) = some (decide (a.toNat / 64 ≠ 2)) := by
  obtain ⟨n, rfl⟩ : ∃ m, n = m + 1 := ⟨n - 1, by omega⟩
  rw [p32]
  have := start_tab a.toNat (by have := a.toNat_lt; omega)
  rw [this]
section
variable {cs : List (List UInt8)}
theorem chars_le (hg : Gds cs) : cs.length ≤ cs.flatten.length := by
  induction cs with
  | nil => simp
  | cons c pre ih =>
    have := ih (fun x hx => hg x (by simp [hx]))
    obtain ⟨r, hc, -⟩ := hg c (by simp)
    have := hc.len
    simp only [List.flatten_cons, List.length_append, List.length_cons]
    omega
theorem p10_bad {n : Nat} {l : List UInt8} (hn : l.length + 60 ≤ n) (h : chk l ≠ (0, 0)) (o : Int) : p10 n (mkB l) o = some (0, 0, chk l) := by
  obtain ⟨n, rfl⟩ : ∃ m, n = m + 1 := ⟨n - 1, by omega⟩
  rw [p10, p16_ok (by omega)]
  simp only [Option.bind_some]
  rw [fault_if, if_neg h]
theorem p10_out {n : Nat} {l : List UInt8} (hn : l.length + 60 ≤ n) (h : chk l = (0, 0)) {o : Int} (ho : o < 0 ∨ (l.length : Int) < o) : p10 n (mkB l) o = some (0, 0, (4, -2)) := by
  obtain ⟨n, rfl⟩ : ∃ m, n = m + 1 := ⟨n - 1, by omega⟩
  rw [p10, p16_ok (by omega)]
  simp only [Option.bind_some]
  rw [fault_if, if_pos h]
  simp only [pj, mkB_size]
  by_cases h0 : o < 0
  · simp [h0]
  · have h1 : (l.length : Int) < o := by omega
    simp [h0, h1]
theorem p10_mid {n : Nat} {l : List UInt8} (hn : l.length + 60 ≤ n) (h : chk l = (0, 0)) {i : Nat} {a : UInt8} (ha : l[i]? = some a) (h2 : a.toNat / 64 = 2) : p10 n (mkB l) i = some (0, 0, (6, -2)) := by
  obtain ⟨n, rfl⟩ : ∃ m, n = m + 1 := ⟨n - 1, by omega⟩
  have hi := (List.getElem?_eq_some_iff.1 ha).1
  rw [p10, p16_ok (by omega)]
  simp only [Option.bind_some]
  rw [fault_if, if_pos h]
  simp only [pj, mkB_size]
  rw [if_neg (by simp)]
  have h1 : ¬ ((i : Int) > (l.length : Nat)) := by omega
  rw [if_neg (by simpa using h1), if_pos (by simpa using hi), idxP_ok ha, p32_ok (by omega)]
  simp [h2]
theorem p10_at {n : Nat} (hg : Gds cs) (hn : cs.flatten.length + 60 ≤ n) (h : chk cs.flatten = (0, 0)) (hl : cs.flatten.length ≤ 16000) {pre post : List (List UInt8)} (e : cs = pre ++ post) :
    p10 n (mkB cs.flatten) (pre.flatten.length : Nat) = some ((place pre).1, (place pre).2, (0, 0)) := by
  obtain ⟨n, rfl⟩ : ∃ m, n = m + 1 := ⟨n - 1, by omega⟩
  have hle : pre.flatten.length ≤ cs.flatten.length := by rw [e]; simp
  have hgp : Gds pre := fun x hx => hg x (by rw [e]; simp [hx])
  have htake : cs.flatten.take pre.flatten.length = pre.flatten := by rw [e, List.flatten_append, List.take_left]
  rw [p10, p16_ok (by omega)]
  simp only [Option.bind_some]
  rw [fault_if, if_pos h]
  simp only [pj, mkB_size]
  rw [if_neg (by simp)]
  have h1 : ¬ ((pre.flatten.length : Int) > (cs.flatten.length : Nat)) := by omega
  rw [if_neg (by simpa using h1)]
  have main : subP (mkB cs.flatten) 0 (pre.flatten.length : Nat) (fun z46 => ((p33 n z46 10).bind fun r47 => ((p34 n z46 (⟨#[10]⟩ : ByteArray)).bind fun r52 => subP z46 (IntKind.wrap .i64 (r47 + 1)) (z46.size : Nat) (fun z57 => (p35 n z57).bind fun r58 => (some (((IntKind.wrap .i64 (r52 + 1)), (IntKind.wrap .i64 (r58 + 1)), (0, 0)) : (Int × Int × (Int × Int)))))))) = some ((place pre).1, (place pre).2, (0, 0)) := by
    have h0 := subP_ok (l := cs.flatten) (i := 0) (j := pre.flatten.length) (K := fun z46 => ((p33 n z46 10).bind fun r47 => ((p34 n z46 (⟨#[10]⟩ : ByteArray)).bind fun r52 => subP z46 (IntKind.wrap .i64 (r47 + 1)) (z46.size : Nat) (fun z57 => (p35 n z57).bind fun r58 => (some (((IntKind.wrap .i64 (r52 + 1)), (IntKind.wrap .i64 (r58 + 1)), (0, 0)) : (Int × Int × (Int × Int)))))))) (Nat.zero_le _) hle
    rw [show ((0 : Nat) : Int) = 0 from rfl] at h0
    rw [h0, htake, List.drop_zero, p33_ok (by omega) (by omega), p34_ok (by omega)]
    simp only [Option.bind_some]
    obtain ⟨m, m1, m2, m3⟩ := col_chars hgp
    rw [m1, wr (by omega) (by omega), mkB_size, subP_ok m2 (Nat.le_refl _), List.take_length, p35_ok (by omega) (by rw [List.length_drop]; omega)]
    simp only [Option.bind_some]
    have hb := place_bounds pre
    have hc := count_chars hgp (1, 1)
    have hlen : pre.length ≤ 16000 := by have := chars_le hgp; omega
    have hc' : (Lib.countByte pre.flatten 10 : Int) + 1 = (place pre).1 := by
      unfold place
      rw [hc]
      simp
      omega
    rw [m3, hc', wr (by omega) (by omega), wr (by omega) (by omega)]
  rw [main]
  cases post with
  | nil =>
    have : pre.flatten.length = cs.flatten.length := by rw [e]; simp
    rw [if_neg (by simp [this])]
    simp
  | cons c post =>
    obtain ⟨a, t, e1, e2, -⟩ := (hg c (by rw [e]; simp)).head
    have hat : cs.flatten[pre.flatten.length]? = some a := by
      rw [e, List.flatten_append, List.getElem?_append_right (Nat.le_refl _), Nat.sub_self, e1]; rfl
    have hlt := (List.getElem?_eq_some_iff.1 hat).1
    rw [if_pos (by simpa using hlt), idxP_ok hat, p32_ok (by omega)]
    simp [e2]
/-- The place of a line and a column. -/
def offF (cs : List (List UInt8)) (k c : Int) : Int × (Int × Int) :=
  if k < 1 then (0, (4, -2)) else match (linesC cs)[k.toNat - 1]? with
    | none => (0, (4, -2))
    | some ln => if c < 1 ∨ (ln.length : Int) + 1 < c then (0, (4, -3)) else (((lineOff ((linesC cs).map List.flatten) (k.toNat - 1) + (ln.take (c.toNat - 1)).flatten.length : Nat) : Int), (0, 0))
theorem lineOff_le : ∀ (l : List UInt8) (k : Nat), lineOff (linesL l) k ≤ l.length + 1 := by
  intro l k
  exact offB_le ⟨#[]⟩ l ((linesL l).take k) (List.take_prefix _ _)
theorem find_some {k : Int} (hk : 1 ≤ k) (hg : Gds cs) {ln : List (List UInt8)} (h : (linesC cs)[k.toNat - 1]? = some ln) : findR (mkB cs.flatten) k = (((lineOff ((linesC cs).map List.flatten) (k.toNat - 1) : Nat) : Int), mkB ln.flatten, true) := by
  unfold findR
  rw [if_pos hk, mkB_list, linesL_chars hg, List.getElem?_map, h]
  rfl
theorem find_none {k : Int} (hg : Gds cs) (h : k < 1 ∨ (linesC cs)[k.toNat - 1]? = none) : findR (mkB cs.flatten) k = (0, ByteArray.empty, false) := by
  unfold findR
  by_cases hk : 1 ≤ k
  · rw [if_pos hk, mkB_list, linesL_chars hg, List.getElem?_map, h.resolve_left (by omega)]
    rfl
  · rw [if_neg hk]
theorem line_len (hg : Gds cs) {k : Nat} {ln : List (List UInt8)} (h : (linesC cs)[k]? = some ln) : lineOff ((linesC cs).map List.flatten) k + ln.flatten.length ≤ cs.flatten.length := by
  obtain ⟨pre, post, e, -, h2⟩ := lines_pre cs.length cs 1 (Nat.le_refl _) k ln h ln.length (Nat.le_refl _)
  rw [List.take_length] at h2
  rw [← h2, e]
  simp
theorem b11 {n : Nat} {ln : List (List UInt8)} (hg : Gds ln) (off c : Int) (h0 : 0 ≤ off) (h1 : off + ln.flatten.length ≤ 100000) (hc : 1 ≤ c) (hc2 : c ≤ 100000) (j : Nat) (hj : (j : Int) < c) (hjl : j ≤ ln.length) :
    pb11_1 n (off, mkB ln.flatten, true) (c - j, (ln.take j).flatten.length) =
      if j < ln.length then (if c - j = 1 then some (.inr (.inl (off + (ln.take j).flatten.length))) else some (.inl (c - ((j + 1 : Nat) : Int), (ln.take (j + 1)).flatten.length))) else some (.inr (.inr (c - j, (ln.take j).flatten.length))) := by
  unfold pb11_1 nxP
  dsimp only
  by_cases h : j < ln.length
  · have e : ln = ln.take j ++ ln[j] :: ln.drop (j + 1) := by simp
    obtain ⟨r, hch, -⟩ := hg ln[j] (List.getElem_mem h)
    have hlen := hch.len
    have hle : (ln.take j).flatten.length + ln[j].length ≤ ln.flatten.length := by
      have e2 := congrArg (fun x : List (List UInt8) => x.flatten.length) e
      simp only [List.flatten_append, List.length_append, List.flatten_cons] at e2
      omega
    have hdrop : ln.flatten.drop (ln.take j).flatten.length = ln[j] ++ (ln.drop (j + 1)).flatten := by
      conv => lhs; rw [e]
      have : ln.take j ++ ln[j] :: ln.drop (j + 1) = ln := e.symm
      rw [List.flatten_append, List.take_append_of_le_length (by simp; omega), List.take_take, Nat.min_self, List.drop_left, List.flatten_cons]
    rw [if_pos (by rw [mkB_size]; omega), if_pos h, decode_drop, hdrop, dec_ch hch]
    dsimp only
    rw [wr (by omega) (by omega)]
    by_cases hz : c - j = 1
    · rw [if_pos hz, if_pos (by simp; omega), wr (by omega) (by omega)]
    · rw [if_neg hz, if_neg (by simp; omega)]
      have htk : ln.take (j + 1) = ln.take j ++ [ln[j]] := take_succ (get_of_lt h)
      rw [htk, List.flatten_append, List.length_append, List.flatten_cons, List.flatten_nil, List.append_nil]
      congr 3
      omega
  · have hjl' : j = ln.length := by omega
    rw [if_neg (by rw [mkB_size, hjl', List.take_length]; omega), if_neg h]
theorem p11_ok {n : Nat} (hg : Gds cs) (hn : cs.flatten.length + 60 ≤ n) (h : chk cs.flatten = (0, 0)) (hl : cs.flatten.length ≤ 16000) {k c : Int} (k1 : -9223372036854775808 ≤ k) (k2 : k ≤ 9223372036854775807) : p11 n (mkB cs.flatten) k c = some (offF cs k c) := by
  obtain ⟨n, rfl⟩ : ∃ m, n = m + 1 := ⟨n - 1, by omega⟩
  rw [p11, p16_ok (by omega)]
  simp only [Option.bind_some]
  rw [fault_if, if_pos h, p36_ok (by omega) hl k1 k2]
  simp only [Option.bind_some]
  unfold offF
  by_cases hk : k < 1
  · rw [find_none hg (.inl hk), if_pos hk]; rfl
  rw [if_neg hk]
  cases hln : (linesC cs)[k.toNat - 1]? with
  | none => rw [find_none hg (.inr hln)]; rfl
  | some ln =>
    have hgl := line_gds hg hln
    have hlo := line_len hg hln
    have hcl := chars_le hgl
    rw [find_some (by omega) hg hln]
    dsimp only
    rw [if_neg (by simp), p35_ok (by omega) (by omega), runeCount_chars hgl]
    simp only [Option.bind_some, pj]
    have w1 : IntKind.wrap .i64 ((ln.length : Int) + 1) = (ln.length : Int) + 1 := wr (by omega) (by omega)
    have w2 : IntKind.wrap .i64 (((lineOff ((linesC cs).map List.flatten) (k.toNat - 1) : Nat) : Int) + ((mkB ln.flatten).size : Nat)) = ((lineOff ((linesC cs).map List.flatten) (k.toNat - 1) + ln.flatten.length : Nat) : Int) := by
      rw [mkB_size, wr (by omega) (by omega)]; simp
    rw [w1, w2]
    by_cases hc1 : c < 1
    · have : c < 1 ∨ (ln.length : Int) + 1 < c := .inl hc1
      rw [if_pos this]; simp [hc1]
    by_cases hc2 : (ln.length : Int) + 1 < c
    · have : c < 1 ∨ (ln.length : Int) + 1 < c := .inr hc2
      rw [if_pos this]
      have e1 : decide (c < 1) = false := by simpa using hc1
      have e2 : decide (c > (ln.length : Int) + 1) = true := by simpa using hc2
      rw [e1, e2]
      rfl
    have hc3 : ¬ (c < 1 ∨ (ln.length : Int) + 1 < c) := by omega
    rw [if_neg hc3]
    have e1 : decide (c < 1) = false := by simpa using hc1
    have e2 : decide (c > (ln.length : Int) + 1) = false := by simpa using hc2
    rw [e1, e2]
    simp only [Bool.false_eq_true, if_false]
    generalize hoff : lineOff ((linesC cs).map List.flatten) (k.toNat - 1) = off at *
    obtain ⟨t, e, hq⟩ := loop_inv (body := pb11_1 n ((off : Int), mkB ln.flatten, true)) (fun st => ∃ j : Nat, (j : Int) < c ∧ j ≤ ln.length ∧ st = (c - j, (ln.take j).flatten.length)) (fun st => ln.length + 1 - (c - st.1).toNat)
      (fun r => match r with | .inl x => x = ((off + (ln.take (c.toNat - 1)).flatten.length : Nat) : Int) | .inr _ => c = ln.length + 1) (fun st ⟨j, j1, j2, e⟩ => by
        subst e
        rw [b11 hgl off c (by omega) (by omega) (by omega) (by omega) j j1 j2]
        by_cases hj : j < ln.length
        · rw [if_pos hj]
          by_cases hz : c - j = 1
          · rw [if_pos hz]
            refine .inr ⟨_, rfl, ?_⟩
            have : c.toNat - 1 = j := by omega
            simp [this]
          · rw [if_neg hz]
            exact .inl ⟨_, rfl, ⟨j + 1, by omega, by omega, rfl⟩, by simp; omega⟩
        · rw [if_neg hj]
          exact .inr ⟨_, rfl, by simp only; omega⟩) n (c, 0) ⟨0, by omega, by omega, by simp⟩ (by simp; omega)
    rw [e]
    cases t with
    | inl x => simp only [Option.bind_some]; rw [hq]
    | inr x =>
      have hq : c = ln.length + 1 := hq
      simp only [Option.bind_some]
      have : c.toNat - 1 = ln.length := by omega
      rw [this, List.take_length]
theorem p11_bad {n : Nat} {l : List UInt8} (hn : l.length + 60 ≤ n) (h : chk l ≠ (0, 0)) (k c : Int) : p11 n (mkB l) k c = some (0, chk l) := by
  obtain ⟨n, rfl⟩ : ∃ m, n = m + 1 := ⟨n - 1, by omega⟩
  rw [p11, p16_ok (by omega)]
  simp only [Option.bind_some]
  rw [fault_if, if_neg h]
theorem offF_at (hg : Gds cs) {pre post : List (List UInt8)} (e : cs = pre ++ post) : offF cs (place pre).1 (place pre).2 = (((pre.flatten.length : Nat) : Int), (0, 0)) := by
  obtain ⟨k, ln, j, h1, h2, h3⟩ := pre_lines pre.length pre post 1 (Nat.le_refl _)
  rw [← e] at h1
  obtain ⟨pre', post', e', h4, h5⟩ := lines_pre cs.length cs 1 (Nat.le_refl _) k ln h1 j h2
  have hp : place pre = (1 + (k : Int), (j : Int) + 1) := h3
  have : pre' = pre := place_inj e' e (by rw [hp]; exact h4)
  subst this
  rw [hp]
  unfold offF
  rw [if_neg (by omega)]
  have : (1 + (k : Int)).toNat - 1 = k := by omega
  rw [this, h1]
  simp only
  rw [if_neg (by omega), h5]
  simp
end
end Go.Proofs.YtnkbddljndfpnaaDoorF
