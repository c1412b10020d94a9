/- Plain laws of the tables, 10: the law of unpacking. -/
import Derived.Test.YtmjignphadnadaaT9
import Derived.Test.YtmjignphadnadaaQ4
set_option linter.unusedVariables false
set_option linter.unusedSimpArgs false
namespace Go.Proofs.YtmjignphadnadaaF
open Go Go.Proofs

theorem chkM_ne' {l : List (Int × Int)} (h : chkM l ≠ (0, 0)) : (chkM l).1 ≠ 0 := by
  unfold chkM at h ⊢
  split
  · decide
  · rename_i hl
    rw [if_neg hl] at h
    exact fun h0 => h (fault_of h0)
theorem marksF_length : ∀ (ps : List (Int × Int)) (a k : Int), (marksF a k ps).length = ps.length
  | [], _, _ => rfl
  | p :: r, a, k => by simp [marksF, marksF_length r]
theorem catchesF_length : ∀ (gs : List (List Int)) (a : Int), (catchesF a gs).length = gs.length
  | [], _ => rfl
  | p :: r, a => by simp [catchesF, catchesF_length r]
def markS (t : List (Int × Int) × Int × Int) (p : List Int) : List (Int × Int) × Int × Int := (t.1 ++ [(t.2.1 + p.getD 0 0, t.2.2 + unf (p.getD 1 0))], t.2.1 + p.getD 0 0, t.2.2 + unf (p.getD 1 0))
theorem markS_fold : ∀ (ps : List (Int × Int)) (m : List (Int × Int)) (a k : Int), ((ps.map fun p => [p.1, p.2]).foldl markS (m, a, k)).1 = m ++ marksF a k ps
  | [], m, a, k => by simp [marksF]
  | p :: r, m, a, k => by
    simp only [List.map_cons, List.foldl_cons]
    rw [show markS (m, a, k) [p.1, p.2] = (m ++ [(a + p.1, k + unf p.2)], a + p.1, k + unf p.2) from rfl, markS_fold r]
    simp [marksF]
/-- The reference makes the same marks. -/
theorem l4_1 (n : Nat) (gs : List (List Int)) (x : Int) (hn : 10 ≤ n) (hg : ∀ l ∈ gs, l.length = 2 ∧ ∀ y ∈ l, 0 ≤ y ∧ y < 2097152) (hl : gs.length ≤ 1000000000) (hm : gs.length < n) :
    ∃ u, loopP (pb4_1 n (gs, x)) n ([], 0, 0, 0) = some u ∧ u.1 = (gs.foldl markS ([], 0, 0)).1 := by
  let st : Nat → List (Int × Int) × Int × Int × Int := fun i => let t := (gs.take i).foldl markS ([], 0, 0); (t.1, t.2.1, t.2.2, (i : Int))
  have bd : ∀ i, i ≤ gs.length → ((gs.take i).foldl markS ([], 0, 0)).1.length = i ∧ 0 ≤ ((gs.take i).foldl markS ([], 0, 0)).2.1 ∧ ((gs.take i).foldl markS ([], 0, 0)).2.1 ≤ 2097152 * i ∧ -2097152 * (i : Int) ≤ ((gs.take i).foldl markS ([], 0, 0)).2.2 ∧ ((gs.take i).foldl markS ([], 0, 0)).2.2 ≤ 2097152 * i := by
    intro i
    induction i with
    | zero => intro _; simp
    | succ i ih =>
      intro hi
      obtain ⟨i1, i2, i3, i4, i5⟩ := ih (by omega)
      have hx := get_of_lt (show i < gs.length by omega)
      obtain ⟨g1, g2⟩ := hg _ (List.mem_of_getElem? hx)
      rw [fold_take hx]
      generalize gs[i] = l at g1 g2
      match l, g1 with
      | [p, q], _ =>
        have hp := g2 p (by simp)
        have hq := unf_bound (g2 q (by simp))
        simp only [markS, List.length_append, List.length_singleton, List.getD_cons_zero, List.getD_cons_succ]
        omega
  refine ⟨st gs.length, loop_to st gs.length n _ hm (fun i hi => ?_) ?_ (by simp [st]), by simp [st]⟩
  · have hx := get_of_lt hi
    obtain ⟨i1, i2, i3, i4, i5⟩ := bd i (by omega)
    obtain ⟨g1, g2⟩ := hg _ (List.mem_of_getElem? hx)
    have e : st (i + 1) = (let t := markS ((gs.take i).foldl markS ([], 0, 0)) gs[i]; (t.1, t.2.1, t.2.2, ((i + 1 : Nat) : Int))) := by simp only [st]; rw [fold_take hx]
    rw [e]
    simp only [st]
    generalize (gs.take i).foldl markS ([], 0, 0) = t at i1 i2 i3 i4 i5
    generalize gs[i] = l at hx g1 g2
    obtain ⟨m, a, k⟩ := t
    dsimp only at i1 i2 i3 i4 i5
    match l, g1 with
    | [p, q], _ =>
      have hp := g2 p (by simp)
      have hq0 := g2 q (by simp)
      have hq := unf_bound hq0
      unfold pb4_1
      dsimp only
      rw [if_pos (by simp; omega), rd_nat hx, rd_int (x := p) (by omega) rfl, rd_int (x := q) (by omega) rfl, s17 q (by omega) (by omega)]
      simp only [Option.bind_some]
      rw [wr (x := a + p) (by omega) (by omega), wr (x := k + unf q) (by omega) (by omega), apP_ok (by simp; omega), wr (x := (i : Int) + 1) (by omega) (by omega)]
      rfl
  · unfold pb4_1
    simp only [st]
    rw [if_neg (by simp)]
def catchS (t : List Ct × Int) (p : List Int) : List Ct × Int :=
  let f := t.2 + unf (p.getD 0 0)
  let to := f + p.getD 1 0
  (t.1 ++ [(f, to, to + unf (p.getD 2 0), p.getD 3 0)], f)
theorem catchS_fold : ∀ (gs : List (List Int)) (m : List Ct) (a : Int), (gs.foldl catchS (m, a)).1 = m ++ catchesF a gs
  | [], m, a => by simp [catchesF]
  | g :: r, m, a => by
    simp only [List.foldl_cons]
    show (r.foldl catchS (m ++ [_], a + unf (g.getD 0 0))).1 = _
    rw [catchS_fold r]
    simp [catchesF]
theorem l4_2 (n : Nat) (gs : List (List Int)) (x : Int) (hn : 10 ≤ n) (hg : ∀ l ∈ gs, l.length = 4 ∧ ∀ y ∈ l, 0 ≤ y ∧ y < 2097152) (hl : gs.length ≤ 1000000000) (hm : gs.length < n) :
    ∃ u, loopP (pb4_2 n (gs, x)) n ([], 0, 0) = some u ∧ u.1 = catchesF 0 gs := by
  let st : Nat → List Ct × Int × Int := fun i => let t := (gs.take i).foldl catchS ([], 0); (t.1, t.2, (i : Int))
  have bd : ∀ i, i ≤ gs.length → ((gs.take i).foldl catchS ([], 0)).1.length = i ∧ -2097152 * (i : Int) ≤ ((gs.take i).foldl catchS ([], 0)).2 ∧ ((gs.take i).foldl catchS ([], 0)).2 ≤ 2097152 * i := by
    intro i
    induction i with
    | zero => intro _; simp
    | succ i ih =>
      intro hi
      obtain ⟨i1, i2, i3⟩ := ih (by omega)
      have hx := get_of_lt (show i < gs.length by omega)
      obtain ⟨g1, g2⟩ := hg _ (List.mem_of_getElem? hx)
      rw [fold_take hx]
      generalize gs[i] = l at g1 g2
      match l, g1 with
      | [p, q, r, s], _ =>
        have hp := unf_bound (g2 p (by simp))
        simp only [catchS, List.length_append, List.length_singleton, List.getD_cons_zero, List.getD_cons_succ]
        omega
  refine ⟨st gs.length, loop_to st gs.length n _ hm (fun i hi => ?_) ?_ (by simp [st]), by simp only [st, List.take_length, catchS_fold, List.nil_append]⟩
  · have hx := get_of_lt hi
    obtain ⟨i1, i2, i3⟩ := bd i (by omega)
    obtain ⟨g1, g2⟩ := hg _ (List.mem_of_getElem? hx)
    have e : st (i + 1) = (let t := catchS ((gs.take i).foldl catchS ([], 0)) gs[i]; (t.1, t.2, ((i + 1 : Nat) : Int))) := by simp only [st]; rw [fold_take hx]
    rw [e]
    simp only [st]
    generalize (gs.take i).foldl catchS ([], 0) = t at i1 i2 i3
    generalize gs[i] = l at hx g1 g2
    obtain ⟨m, a⟩ := t
    dsimp only at i1 i2 i3
    match l, g1 with
    | [p, q, r, s], _ =>
      have hp0 := g2 p (by simp)
      have hp := unf_bound hp0
      have hq := g2 q (by simp)
      have hr0 := g2 r (by simp)
      have hr := unf_bound hr0
      have hs := g2 s (by simp)
      unfold pb4_2
      dsimp only
      rw [if_pos (by simp; omega), rd_nat hx, rd_int (x := p) (by omega) rfl, s17 p (by omega) (by omega)]
      simp only [Option.bind_some]
      rw [rd_int (x := q) (by omega) rfl, rd_int (x := r) (by omega) rfl, s17 r (by omega) (by omega)]
      simp only [Option.bind_some]
      rw [rd_int (x := s) (by omega) rfl, wr (x := a + unf p) (by omega) (by omega), wr (x := a + unf p + q) (by omega) (by omega), wr (x := a + unf p + q + unf r) (by omega) (by omega), apP_ok (by simp; omega), wr (x := (i : Int) + 1) (by omega) (by omega)]
      rfl
  · unfold pb4_2
    simp only [st]
    rw [if_neg (by simp)]
theorem same43 : pb4_3 = pb4_2 := rfl
theorem same44 : pb4_4 = pb4_2 := rfl
theorem chkM_nil : chkM [] = (0, 0) := rfl
theorem chkC_nil : chkC [] = (0, 0) := rfl
/-- What the law asks behind the lines. -/
theorem tail4 {n : Nat} (b : List Int) (hb : byteL b) (hl : b.length ≤ 1048576) (hn : 1900000 ≤ n) : (p18 n b).bind (fun r562 => ((p16 n b 4).bind fun r575 => ((((if (decide ((r575.2 : Int) ≥ 0)) then ((p10 n 16 r575.2).bind fun r587 => (pj (fun (b1176 : Bool) => if b1176 then (((some false))) else (((p21 n r562.1).bind fun r1180 => (pj (fun (b1208 : Bool) => some b1208) (fun J1207 => if ((r562.2.1 : Int) != 0) then ((J1207 true)) else (if ((r1180.2.1 : Int) == 0) then ((p12 n b r1180.1).bind fun r1202 => (J1207 r1202)) else ((J1207 false)))))))) (fun J1175 => if (!(((r562.2.1 : Int) == r587.1) && (((r562.2.2 : Int) == r587.2) && true))) then ((J1175 true)) else ((p20 n r562.1 ([] : (List (Int × Int × Int × Int)))).bind fun r1170 => (J1175 (!r1170)))))) else ((((loopP (pb4_2 n r575) n (([] : List (Int × Int × Int × Int)), 0, 0)).bind fun t861 => (p19 n t861.1).bind fun r1049 => ((if ((r1049.1 : Int) != 0) then ((p10 n r1049.1 (-1)).bind fun r1066 => pj (fun (b1084 : Bool) => if b1084 then (((some false))) else (((p21 n r562.1).bind fun r1088 => (pj (fun (b1116 : Bool) => some b1116) (fun J1115 => if ((r562.2.1 : Int) != 0) then ((J1115 true)) else (if ((r1088.2.1 : Int) == 0) then ((p12 n b r1088.1).bind fun r1110 => (J1115 r1110)) else ((J1115 false)))))))) (fun J1083 => if (!(((r562.2.1 : Int) == r1066.1) && (((r562.2.2 : Int) == r1066.2) && true))) then ((J1083 true)) else ((p20 n r562.1 ([] : (List (Int × Int × Int × Int)))).bind fun r1078 => (J1083 (!r1078))))) else (pj (fun (b1130 : Bool) => if b1130 then (((some false))) else (((p21 n r562.1).bind fun r1134 => (pj (fun (b1162 : Bool) => some b1162) (fun J1161 => if ((r562.2.1 : Int) != 0) then ((J1161 true)) else (if ((r1134.2.1 : Int) == 0) then ((p12 n b r1134.1).bind fun r1156 => (J1161 r1156)) else ((J1161 false)))))))) (fun J1129 => if (!(((r562.2.1 : Int) == 0) && (((r562.2.2 : Int) == 0) && true))) then ((J1129 true)) else ((p20 n r562.1 t861.1).bind fun r1124 => (J1129 (!r1124)))))))))))))))) = some true := by
  have h18 := s18 (n := n) b hb (by omega) (by omega)
  have h16 : p16 n b 4 = some (match groupsF b 4 b.length 0 with | .inl gs => (gs, -1) | .inr e => ([], (e : Int))) := s16 b 3 (by omega) hb (by omega) (by omega)
  have h21 : p21 n [] = some ([], (0, 0)) := by rw [s21 [] (by omega)]; rfl
  have h20 : p20 n [] [] = some true := by rw [s20 [] [] (by simp; omega) (by simp)]; rfl
  have h12 : p12 n b b = some true := by rw [s12 b b (by omega) (by omega)]; simp
  rw [h18, h16]
  simp only [Option.bind_some, pj, unpackC]
  cases hg : groupsF b 4 b.length 0 with
  | inr e =>
    dsimp only
    simp [s10 (show 0 < n by omega), h20, h21]
  | inl gs =>
    obtain ⟨k1, k2⟩ := groups_bytes hb 3 (by omega) (by omega) hg
    rw [List.drop_zero] at k1
    have hlen : gs.length ≤ b.length := by
      rw [k1]
      have : ∀ (l : List (List Int)), (∀ x ∈ l, x.length = 4) → l.length ≤ (l.flatMap (fun l => l.flatMap (sept 2))).length := by
        intro l
        induction l with
        | nil => simp
        | cons y l ih =>
          intro h
          have h1 := ih fun x hx => h x (by simp [hx])
          have h2 := h y (by simp)
          match y, h2 with
          | [a, b, c, d], _ =>
            have h3 := sept_pos 2 a
            simp only [List.flatMap_cons, List.length_append, List.length_cons]
            omega
      exact this gs fun x hx => (k2 x hx).1
    obtain ⟨u, hu1, hu2⟩ := l4_2 n gs (-1) (by omega) k2 (by omega) (by omega)
    have h19 := s19 (n := n) (catchesF 0 gs) (by omega)
    have hcl := catchesF_length gs 0
    have h20' : p20 n (catchesF 0 gs) (catchesF 0 gs) = some true := by rw [s20 _ _ (by omega) (by omega)]; simp
    by_cases hc : chkC (catchesF 0 gs) = (0, 0)
    · have h21' : p21 n (catchesF 0 gs) = some (b, (0, 0)) := by
        rw [s21 _ (by omega), if_pos hc, packC_catchesF gs 0 (fun l hl => ⟨(k2 l hl).1, fun x hx => ((k2 l hl).2 x hx).1⟩), ← k1]
      simp [hc, hu1, hu2, h19, h20', h21', h12]
    · have hne := chkC_ne hc
      simp [hc, hu1, hu2, h19, hne, s10 (show 0 < n by omega), h20, h21]
theorem law4 (b : List Int) (hb : byteL b) (hl : b.length ≤ 1048576) : p4 2000000 b = some true := by
  obtain ⟨n, hn, e⟩ : ∃ n, 1900000 ≤ n ∧ 2000000 = n + 1 := ⟨1999999, by omega, rfl⟩
  have tl := tail4 (n := n) b hb hl hn
  have h14 := s14 (n := n) b hb (by omega) (by omega)
  have h16 : p16 n b 2 = some (match groupsF b 2 b.length 0 with | .inl gs => (gs, -1) | .inr e => ([], (e : Int))) := s16 b 1 (by omega) hb (by omega) (by omega)
  have h8 : p8 n [] = some ([], (0, 0)) := by rw [s8 [] (by omega)]; rfl
  have h15 : p15 n [] [] = some true := by rw [s15 [] [] (by simp; omega) (by simp)]; rfl
  have h12 : p12 n b b = some true := by rw [s12 b b (by omega) (by omega)]; simp
  rw [e, p4, same43, same44, tl, h14, h16]
  simp only [Option.bind_some, unpackM, pj]
  have hpg := pairs_groups b b.length 0 (by omega)
  rw [List.drop_zero] at hpg
  cases hp : pairsF b.length b 0 with
  | inr e =>
    rw [hp] at hpg
    rw [hpg]
    simp [s10 (show 0 < n by omega), h15, h8]
  | inl ps =>
    rw [hp] at hpg
    rw [hpg]
    obtain ⟨k1, k2⟩ := groups_bytes hb 1 (by omega) (by omega) hpg
    rw [List.drop_zero] at k1
    have hlen : ps.length ≤ b.length := by
      rw [k1]
      have : ∀ (l : List (Int × Int)), l.length ≤ ((l.map fun p => [p.1, p.2]).flatMap (fun l => l.flatMap (sept 2))).length := by
        intro l
        induction l with
        | nil => simp
        | cons y l ih =>
          have h3 := sept_pos 2 y.1
          simp only [List.map_cons, List.flatMap_cons, List.length_append, List.length_cons]
          omega
      exact this ps
    have hml := marksF_length ps 0 0
    obtain ⟨u, hu1, hu2⟩ := l4_1 n (ps.map fun p => [p.1, p.2]) (-1) (by omega) k2 (by simp; omega) (by simp; omega)
    rw [markS_fold, List.nil_append] at hu2
    have h9 := s9 (n := n) (marksF 0 0 ps) (by omega)
    have h15' : p15 n (marksF 0 0 ps) (marksF 0 0 ps) = some true := by rw [s15 _ _ (by omega) (by omega)]; simp
    have hp2 : ∀ p ∈ ps, 0 ≤ p.2 := fun p hp => by
      have := (k2 [p.1, p.2] (List.mem_map.2 ⟨p, hp, rfl⟩)).2 p.2 (by simp)
      exact this.1
    by_cases hc : chkM (marksF 0 0 ps) = (0, 0)
    · have h8' : p8 n (marksF 0 0 ps) = some (b, (0, 0)) := by
        rw [s8 _ (by omega), if_pos hc, packS_marksF ps 0 0 hp2, ← k1]
      simp [hc, hu1, hu2, h9, h15', h8', h12]
    · have hne := chkM_ne' hc
      simp [hc, hu1, hu2, h9, hne, s10 (show 0 < n by omega), h15, h8]
end Go.Proofs.YtmjignphadnadaaF
