/- Whether a name is that of a library function. -/
import Derived.Test.YtckalckfihhldaaDoorT7
set_option linter.unusedVariables false
set_option linter.unusedSimpArgs false
namespace Go.Proofs.YtckalckfihhldaaDoorF
open Go Go.Proofs
set_option maxRecDepth 100000
set_option maxHeartbeats 4000000

theorem lib_words : ∀ x ∈ cutAt 10 libs, (∀ c ∈ x, c.toNat < 128) ∧ (words x)[0]? = some (headAt 32 x) ∧ (words x).length ≤ 20 ∧ (words x).length ≥ 1 ∧ ∀ y ∈ words x, y.length ≤ 1000 := by decide +kernel
theorem p43_zero : ∃ r, p43 3997 0 = some r := ⟨(2, (false, []), (false, []), ByteArray.empty, 0), by kernel_rfl⟩
/-- The parameters are read to the end. -/
theorem pb27_2_ok (ys : List (List UInt8)) (hl : ys.length ≤ 100) (hy : ∀ y ∈ ys, y.length ≤ 1000) : ∃ t, loopP (pb27_2 3997 (ys.map mkB)) 3997 ([], [], ys.map mkB, 0) = some t := by
  obtain ⟨rp, ep⟩ := p43_zero
  obtain ⟨t, et, -⟩ := loop_inv (body := pb27_2 3997 (ys.map mkB)) (fun t => ∃ i : Nat, t.2.2 = (ys.map mkB, (i : Int)) ∧ i ≤ ys.length ∧ t.1.length ≤ i ∧ t.2.1.length ≤ i) (fun t => ys.length - t.2.2.2.toNat) (fun _ => True)
    (fun t ⟨i, e, h1, h2, h3⟩ => by
      obtain ⟨a, b, c, d⟩ := t
      dsimp only at e h2 h3
      injection e with e1 e2
      subst e1
      subst e2
      unfold pb27_2
      dsimp only
      by_cases hi : i < ys.length
      · left
        obtain ⟨r, er⟩ := cut_head (n := 3997) (by omega) ys[i] 61 (by have := hy ys[i] (List.getElem_mem hi); omega)
        have hw : IntKind.wrap .i64 ((i : Int) + 1) = ((i + 1 : Nat) : Int) := by rw [wr (by omega) (by omega)]; simp
        rw [if_pos (by simpa using hi), rd_nat (x := mkB ys[i]) (by rw [List.getElem?_map, get_of_lt hi]; rfl), show (⟨#[61]⟩ : ByteArray) = mkB [61] from rfl, er, Option.bind_some]
        simp only [pj]
        by_cases hr : r.2 = true
        · rw [if_pos hr]
          unfold mkP
          rw [if_pos (by omega), if_pos (by omega), if_pos (by decide), ep, Option.bind_some, apP_ok (by simp; omega), apP_ok (by simp; omega)]
          exact ⟨_, rfl, ⟨i + 1, by dsimp only; rw [hw], by omega, by simp; omega, by simp; omega⟩, by dsimp only; rw [hw]; omega⟩
        · rw [if_neg hr, apP_ok (by simp; omega)]
          exact ⟨_, rfl, ⟨i + 1, by dsimp only; rw [hw], by omega, by simp; omega, by dsimp only; omega⟩, by dsimp only; rw [hw]; omega⟩
      · right
        rw [if_neg (by simp; omega)]
        exact ⟨_, rfl, trivial⟩) 3997 ([], [], ys.map mkB, 0) ⟨0, rfl, by omega, by simp, by simp⟩ (by dsimp only; omega)
  exact ⟨t, et⟩
theorem p10_ok (name : List UInt8) : p10 3999 (mkB name) = some (decide (name ∈ libHeads)) := by
  have hs : p22 3997 (mkB libs) (mkB [10]) = some ((cutAt 10 libs).map mkB) := split_ok libs 10 (by decide) (by decide)
  have hsz : (cutAt 10 libs).length ≤ 200 := by decide
  obtain ⟨ls, els⟩ : ∃ ls, ls = cutAt 10 libs := ⟨_, rfl⟩
  have hsl : ∀ x ∈ ls, x.length ≤ 1000 := by rw [els]; exact lib_len
  have hsw : ∀ x ∈ ls, (∀ c ∈ x, c.toNat < 128) ∧ (words x)[0]? = some (headAt 32 x) ∧ (words x).length ≤ 20 ∧ (words x).length ≥ 1 ∧ ∀ y ∈ words x, y.length ≤ 1000 := by rw [els]; exact lib_words
  have hh : libHeads = ls.map (headAt 32) := by rw [els]; rfl
  rw [← els] at hs hsz
  obtain ⟨t, et, q⟩ := loop_inv (body := pb27_1 3997 (mkB name) (ls.map mkB)) (fun t => ∃ i : Nat, t = (i : Int) ∧ i ≤ ls.length ∧ ∀ k, k < i → libHeads[k]? ≠ some name) (fun t => ls.length - t.toNat)
    (fun t => (∃ y, t = .inl y ∧ name ∉ libHeads) ∨ ∃ y, t = .inr y ∧ name ∈ libHeads)
    (fun t ⟨i, e, h1, h2⟩ => by
      subst e
      unfold pb27_1
      by_cases hi : i < ls.length
      · have hgi : libHeads[i]? = some (headAt 32 ls[i]) := by rw [hh, List.getElem?_map, get_of_lt hi]; rfl
        obtain ⟨w1, w2, w3, w4, w5⟩ := hsw ls[i] (List.getElem_mem hi)
        have hf : p42 3997 (mkB ls[i]) = some ((words ls[i]).map mkB) := by
          have := hsl ls[i] (List.getElem_mem hi)
          exact fields_ok ls[i] w1 (by omega) (by omega)
        rw [if_pos (by simpa using hi), rd_nat (x := mkB ls[i]) (by rw [List.getElem?_map, get_of_lt hi]; rfl), hf, Option.bind_some,
          show (0 : Int) = ((0 : Nat) : Int) from rfl, rd_nat (x := mkB (headAt 32 ls[i])) (by rw [List.getElem?_map, w2]; rfl), toList_mkB, toList_mkB]
        by_cases he : headAt 32 ls[i] = name
        · right
          rw [if_neg (by simp [he])]
          unfold slP
          rw [if_pos (by omega), if_pos (by simp; omega), if_pos (Int.le_refl _)]
          have hd : ((List.map mkB (words ls[i])).take (((List.map mkB (words ls[i])).length : Nat) : Int).toNat).drop (1 : Int).toNat = ((words ls[i]).drop 1).map mkB := by rw [Int.toNat_natCast, List.take_length]; simp
          rw [hd]
          obtain ⟨t2, e2⟩ := pb27_2_ok ((words ls[i]).drop 1) (by rw [List.length_drop]; omega) (fun y hy => w5 y (List.mem_of_mem_drop hy))
          have e3 : loopP (pb27_2 3997 (((words ls[i]).drop 1).map mkB)) 3997 ([], [], ((words ls[i]).drop 1).map mkB, ((0 : Nat) : Int)) = some t2 := e2
          dsimp only
          rw [e3]
          exact ⟨_, rfl, .inr ⟨_, rfl, List.mem_of_getElem? (by rw [hgi, he])⟩⟩
        · left
          rw [if_pos (by simp [he])]
          refine ⟨_, rfl, ⟨i + 1, by rw [wr (by omega) (by omega)]; simp, by omega, fun k hk => ?_⟩, by rw [wr (by omega) (by omega)]; omega⟩
          rcases Nat.lt_or_ge k i with h | h
          · exact h2 k h
          · obtain rfl : k = i := by omega
            rw [hgi]
            exact fun h => he (Option.some.inj h)
      · right
        rw [if_neg (by simpa using hi)]
        refine ⟨_, rfl, .inl ⟨_, rfl, fun hm => ?_⟩⟩
        obtain ⟨k, hk, ek⟩ := List.mem_iff_getElem.1 hm
        have hk2 : k < ls.length := by rw [hh, List.length_map] at hk; exact hk
        exact h2 k (by omega) (by rw [List.getElem?_eq_getElem hk, ek])) 3997 0 ⟨0, rfl, by omega, fun k hk => by omega⟩ (by simp; omega)
  rw [p10, p27]
  refine Eq.trans (b := ((p22 3997 (mkB libs) (mkB [10])).bind _).bind _) rfl ?_
  rw [hs, Option.bind_some, et, Option.bind_some]
  rcases q with ⟨y, e, hn⟩ | ⟨y, e, hn⟩
  · rw [e]
    simp [hn]
  · rw [e]
    simp [hn]
theorem under_mem (hd tl : List UInt8) : tl ∈ libHeads.filterMap (under hd) ↔ hd ++ 46 :: tl ∈ libHeads := by
  rw [List.mem_filterMap]
  constructor
  · rintro ⟨h, h1, h2⟩
    unfold under at h2
    split at h2
    · rename_i hp
      obtain ⟨rest, e⟩ := List.isPrefixOf_iff_prefix.1 hp
      injection h2 with h2
      subst e
      have : tl = rest := by rw [← h2]; simp
      subst this
      simpa using h1
    · cases h2
  · intro h
    refine ⟨_, h, ?_⟩
    unfold under
    rw [if_pos (List.isPrefixOf_iff_prefix.2 ⟨tl, by simp⟩)]
    simp
theorem lib_dot : ∀ x ∈ libHeads, (46 : UInt8) ∈ x := by decide +kernel
theorem p11_ok (name : List UInt8) (hl : name.length ≤ 4611686018427387904) : p11 3999 (mkB name) = some (decide (name ∈ libHeads)) := by
  rw [p11]
  refine Eq.trans (b := (p23 3998 (mkB name) (mkB [46])).bind _) rfl ?_
  rcases p23_ok (n := 3998) (by omega) name 46 hl with ⟨h, e⟩ | ⟨x, rest, e1, h, e⟩
  · rw [e]
    have : name ∉ libHeads := fun hm => h (lib_dot _ hm)
    simp [pj, this]
  · subst e1
    have hx : x.length ≤ 4611686018427387904 := by simp at hl; omega
    have hk := p26_ok x hx
    have hfl : (libHeads.filterMap (under x)).length ≤ 200 := Nat.le_trans (List.length_filterMap_le _ _) (by decide +kernel)
    have hc := p14_ok (n := 3998) ((libHeads.filterMap (under x)).map mkB) (mkB rest) (by rw [List.length_map]; omega) (by rw [List.length_map]; omega)
    rw [e, Option.bind_some]
    simp only [pj, if_true]
    rw [hk, Option.bind_some, hc, Option.bind_some, decide_eq_decide.2 ((mem_mkB (x := rest)).trans (under_mem x rest))]
end Go.Proofs.YtckalckfihhldaaDoorF
