/- Sources: the laws of places, plain. -/
import Derived.Test.YtnkbddljndfpnaaDoorT7
set_option linter.unusedVariables false
set_option linter.unusedSimpArgs false
namespace Go.Proofs.YtnkbddljndfpnaaDoorF
open Go Go.Proofs
set_option maxRecDepth 100000

theorem mkB_toList (l : List UInt8) : (mkB l).toList = l := by rw [ByteArray.toList_eq]; rfl
theorem chk_vals (l : List UInt8) : chk l = (0, 0) ∨ ((chk l).1 ≠ 0 ∧ 1 ≤ (chk l).1 ∧ (chk l).1 ≤ 3) := by
  unfold chk
  split
  · simp
  · cases fbad l <;> simp
theorem at_wid {cs : List (List UInt8)} (hg : Gds cs) {pre post : List (List UInt8)} (e : cs = pre ++ post) : (wids cs.flatten)[pre.flatten.length]? ≠ some 0 := by
  intro h
  have hi : pre.flatten.length < cs.flatten.length := by
    have := (List.getElem?_eq_some_iff.1 h).1
    rwa [wids_length] at this
  have hm := Mp.mid hg (p := pre) (i := pre.flatten.length) ⟨⟨post, e⟩, Nat.le_refl _, fun p' d hp => by
    rw [hp, List.flatten_append, List.length_append, List.flatten_cons, List.flatten_nil, List.append_nil]
    obtain ⟨_, hd, -⟩ := hg d (by rw [e, hp]; simp)
    have := hd.len
    omega⟩ hi h
  have := hm.2.1
  omega
/-- The position of a place leads back to it. -/
theorem law3 {n : Nat} {l : List UInt8} (hn : l.length + 400 ≤ n) (a b : Int) : p3 n (mkB l) a b = some true := by
  obtain ⟨n, rfl⟩ : ∃ m, n = m + 1 := ⟨n - 1, by omega⟩
  rw [p3, p9_ok (by omega)]
  simp only [Option.bind_some]
  rw [if_neg (by simp)]
  rcases chk_vals l with h | ⟨h, h1, h2⟩
  · obtain ⟨hl, cs, rfl, hg⟩ := chk_ok h
    have two : ∀ o, (∃ c : Int, (c = 4 ∨ c = 6) ∧ p10 n (mkB cs.flatten) o = some (0, 0, (c, -2))) ∨ ∃ pre post, cs = pre ++ post ∧ o = (pre.flatten.length : Nat) ∧ p10 n (mkB cs.flatten) o = some ((place pre).1, (place pre).2, (0, 0)) := fun o => by
      rcases p10_all (n := n) hg (by omega) h hl o with ⟨_, h2⟩ | ⟨_, _, _, _, h2⟩ | h2
      · exact .inl ⟨4, .inl rfl, h2⟩
      · exact .inl ⟨6, .inr rfl, h2⟩
      · exact .inr h2
    rcases two a with ⟨c, hc, ha⟩ | ⟨pa, qa, ea, ha1, ha⟩ <;> rcases two b with ⟨d, hd, hb⟩ | ⟨pb, qb, eb, hb1, hb⟩
    · rw [ha, hb]; simp only [Option.bind_some]; rcases hc with rfl | rfl <;> rcases hd with rfl | rfl <;> rfl
    · rw [ha, hb]; simp only [Option.bind_some]; rcases hc with rfl | rfl <;> rfl
    · rw [ha, hb]; simp only [Option.bind_some]; rcases hd with rfl | rfl <;> rfl
    · rw [ha, hb]
      simp only [Option.bind_some]
      rw [if_neg (by decide)]
      have ba := place_bounds pa
      have bb := place_bounds pb
      have la := chars_le hg
      have lpa : pa.length ≤ cs.length := by rw [ea]; simp
      have lpb : pb.length ≤ cs.length := by rw [eb]; simp
      rw [p11_ok hg (by omega) h hl (by omega) (by omega), p11_ok hg (by omega) h hl (by omega) (by omega), offF_at hg ea, offF_at hg eb]
      simp only [Option.bind_some, pj]
      rw [if_neg (by decide), if_neg (by simp [ha1]), if_neg (by simp [hb1])]
      by_cases hab : a ≥ b
      · rw [if_pos (by simpa using hab)]
      · rw [if_neg (by simpa using hab)]
        have hlt : Lt (place pa) (place pb) := by
          rcases List.append_eq_append_iff.1 (ea.symm.trans eb) with ⟨x, q, -⟩ | ⟨x, q, -⟩
          · rw [q]
            refine place_lt pa x fun hx => ?_
            subst hx
            rw [q, List.append_nil] at hb1
            omega
          · exfalso
            rw [ha1, hb1, q, List.flatten_append, List.length_append] at hab
            omega
        rcases hlt with h1 | ⟨h1, h2⟩
        · rw [if_pos (by simpa using h1)]
        · by_cases h3 : (place pa).1 < (place pb).1
          · rw [if_pos (by simpa using h3)]
          · rw [if_neg (by simpa using h3), if_pos (by simpa using h1)]
            simp [h2]
  · have hne : chk l ≠ (0, 0) := fun e => h (by rw [e])
    rw [p10_bad (by omega) hne, p10_bad (by omega) hne]
    simp only [Option.bind_some]
    rw [if_pos]
    rw [wr (by omega) (by omega)]
    simp
    omega
/-- Lines, positions and offsets. -/
theorem law4 {n : Nat} {l : List UInt8} (hn : l.length + 400 ≤ n) (hl0 : l.length ≤ 8796093022000) (a k c : Int) (k1 : -9223372036854775808 ≤ k) (k2 : k ≤ 9223372036854775807) : p4 n (mkB l) a k c = some true := by
  obtain ⟨n, rfl⟩ : ∃ m, n = m + 1 := ⟨n - 1, by omega⟩
  rw [p4, p9_ok (by omega)]
  simp only [Option.bind_some]
  rw [if_neg (by simp), p12_ok (by omega), p13_ok (by omega) hl0, p14_ok (by omega), p15_ok (by omega) k1 k2]
  simp only [Option.bind_some]
  rw [p16_ok (by omega)]
  simp only [Option.bind_some, List.length_map]
  have self : ∀ q : Int × Int, (!((q.1 == q.1) && ((q.2 == q.2) && true))) = false := fun q => by simp
  have hsl : ∀ b : ByteArray, (!(b.toList == b.toList)) = false := fun b => by simp
  rcases chk_vals l with h | ⟨h, h1, h2⟩
  · obtain ⟨hl, cs, rfl, hg⟩ := chk_ok h
    -- what is behind
    have tail : ((p10 n (mkB cs.flatten) a).bind fun r2182 => (p18 n (mkB cs.flatten) a).bind fun r2537 => if (r2537.1 == 0) = true then (p19 n (mkB cs.flatten) a).bind fun r2722 => (p11 n (mkB cs.flatten) k c).bind fun r2908 => (p20 n (mkB cs.flatten) k c).bind fun r3091 => if ((r2182.2.2.1 == r2537.1) && ((r2182.2.2.2 == r2537.2) && true)) = true then (if (r2182.1 == r2722.1) = true then (if (r2182.2.1 == r2722.2) = true then (if (r2908.1 == r3091.1) = true then some ((r2908.2.1 == r3091.2.1) && ((r2908.2.2 == r3091.2.2) && true)) else some false) else some false) else some false) else some false
        else (p11 n (mkB cs.flatten) k c).bind fun r2908 => (p20 n (mkB cs.flatten) k c).bind fun r3091 => if ((r2182.2.2.1 == r2537.1) && ((r2182.2.2.2 == r2537.2) && true)) = true then (if (r2182.1 == 0) = true then (if (r2182.2.1 == 0) = true then (if (r2908.1 == r3091.1) = true then some ((r2908.2.1 == r3091.2.1) && ((r2908.2.2 == r3091.2.2) && true)) else some false) else some false) else some false) else some false) = some true := by
      rw [p18_ok (by omega), if_pos h, p11_ok hg (by omega) h hl k1 k2, p20_ok hg (by omega) h hl k1 k2]
      rcases p10_all (n := n) hg (by omega) h hl a with ⟨g1, g2⟩ | ⟨i, rfl, g1, g2, g3⟩ | ⟨pre, post, g1, g2, g3⟩
      · rw [g2, if_pos g1]; simp
      · rw [g3, if_neg (by omega), Int.toNat_natCast, if_pos g2]; simp
      · have hle : pre.flatten.length ≤ cs.flatten.length := by rw [g1, List.flatten_append, List.length_append]; omega
        rw [g3, if_neg (by omega), g2, Int.toNat_natCast, if_neg (at_wid hg g1), p19_ok hg (by omega) hl g1]; simp
    have hc0 : Lib.countByte cs.flatten 10 ≤ cs.flatten.length := List.count_le_length
    have hlc := lines_count cs.flatten
    simp only [pj]
    rw [if_pos h, h, p17_ok (by omega)]
    unfold lineF
    rw [if_pos h]
    simp only [Option.bind_some]
    by_cases hk : k < 1
    · rw [if_pos hk]
      have e1 : decide (k ≥ 1) = false := by simpa using hk
      simp only [e1]
      simpa [hsl] using tail
    · rw [if_neg hk]
      have e1 : decide (k ≥ 1) = true := by simp; omega
      simp only [e1]
      cases hx : (linesL cs.flatten)[k.toNat - 1]? with
      | none =>
        have := List.getElem?_eq_none_iff.1 hx
        have e2 : decide (k ≤ ((linesL cs.flatten).length : Nat)) = false := by simp; omega
        simp only [e2]
        simpa [hsl] using tail
      | some s =>
        have hlt := (List.getElem?_eq_some_iff.1 hx).1
        have e2 : decide (k ≤ ((linesL cs.flatten).length : Nat)) = true := by simp; omega
        have hrd : ∀ {ρ : Type} (K : ByteArray → Option ρ), rd ((linesL cs.flatten).map mkB) (IntKind.wrap .i64 (k - 1)) K = K (mkB s) := fun K => by
          rw [wr (by omega) (by omega)]
          refine rd_int (by omega) ?_
          rw [List.getElem?_map, show (k - 1).toNat = k.toNat - 1 by omega, hx]
          rfl
        simp only [e2, hrd]
        simpa [hsl] using tail
  · have hne : chk l ≠ (0, 0) := fun e => h (by rw [e])
    rw [p10_bad (by omega) hne, p11_bad (by omega) hne, p18_ok (by omega), p20_bad (by omega) hl0 hne]
    unfold lineF
    simp only [if_neg hne, Option.bind_some, pj, self, hsl, Bool.false_eq_true, if_false, if_true]
    have c0 : ((chk l).1 != 0) = true := by simpa using h
    have c1 : ((chk l).1 == 0) = false := by simpa using h
    simp [c0, c1, h]
end Go.Proofs.YtnkbddljndfpnaaDoorF
