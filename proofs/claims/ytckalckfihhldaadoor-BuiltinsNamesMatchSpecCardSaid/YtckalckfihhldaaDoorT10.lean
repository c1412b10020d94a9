/- The document's header of a built-in function: it is found under the names that the list of headers holds. -/
import Derived.Test.YtckalckfihhldaaDoorT9
import Derived.Lib.IndexMore
set_option linter.unusedVariables false
set_option linter.unusedSimpArgs false
namespace Go.Proofs.YtckalckfihhldaaDoorF
open Go Go.Proofs
set_option maxRecDepth 100000
set_option maxHeartbeats 4000000

/-! ### 1. Places of texts in texts -/
theorem occ_spec (s q : List UInt8) : (Lib.index s q = -1 ∧ ¬ ∃ a b, s = a ++ (q ++ b)) ∨ ∃ a b, s = a ++ (q ++ b) ∧ Lib.index s q = (a.length : Int) := by
  rcases Lib.index_spec s q with ⟨h1, h2⟩ | ⟨i, h1, h2, h3, -⟩
  · refine .inl ⟨h1, ?_⟩
    rintro ⟨a, b, e⟩
    have := h2 a.length (by rw [e]; simp)
    unfold Lib.occAt at this
    rw [e, List.drop_left, List.isPrefixOf_iff_prefix.2 ⟨b, rfl⟩] at this
    cases this
  · right
    unfold Lib.occAt at h3
    obtain ⟨b, hb⟩ := List.isPrefixOf_iff_prefix.1 h3
    refine ⟨s.take i, b, by rw [hb, List.take_append_drop], ?_⟩
    rw [h1, List.length_take]
    congr 1
    omega
theorem cutAt_app (c : UInt8) (rest : List UInt8) : ∀ a, cutAt c (a ++ c :: rest) = cutAt c a ++ cutAt c rest
  | [] => by
    rw [List.nil_append, cutAt_cons, if_pos rfl]
    rfl
  | d :: a => by
    have ih := cutAt_app c rest a
    rw [List.cons_append, cutAt_cons, cutAt_cons, ih]
    by_cases h : d = c
    · rw [if_pos h, if_pos h]; rfl
    · rw [if_neg h, if_neg h]
      cases e : cutAt c a with
      | nil => exact absurd e (cutAt_ne c a)
      | cons x xs => rfl
theorem cutAt_head {c : UInt8} {b : List UInt8} : ∀ {x : List UInt8}, c ∉ x → ∃ y ys, cutAt c (x ++ b) = (x ++ y) :: ys
  | [], _ => by
    cases e : cutAt c b with
    | nil => exact absurd e (cutAt_ne c b)
    | cons y ys => exact ⟨y, ys, by simpa using e⟩
  | d :: x, h => by
    obtain ⟨y, ys, e⟩ := cutAt_head (c := c) (b := b) (x := x) fun hm => h (by simp [hm])
    refine ⟨y, ys, ?_⟩
    rw [List.cons_append, cutAt_cons, if_neg (fun e2 => h (by simp [e2])), e]
    rfl
theorem cutAt_first {c : UInt8} {l y : List UInt8} {ys : List (List UInt8)} (h : cutAt c l = y :: ys) : ∃ b, l = y ++ b := by
  rcases cutAt_step c l with ⟨-, e⟩ | ⟨x, rest, e1, -, e⟩
  · rw [e] at h
    injection h with h _
    exact ⟨[], by simp [h]⟩
  · rw [e] at h
    injection h with h _
    exact ⟨c :: rest, by rw [e1, h]⟩
theorem cutAt_tail (c : UInt8) : ∀ (n : Nat) (l x : List UInt8), l.length ≤ n → x ∈ (cutAt c l).tail → ∃ a b, l = a ++ c :: (x ++ b)
  | 0, l, x, hl, hx => by
    obtain rfl : l = [] := List.length_eq_zero_iff.1 (by omega)
    simp [cutAt] at hx
  | n + 1, l, x, hl, hx => by
    rcases cutAt_step c l with ⟨-, e⟩ | ⟨x0, rest, e1, -, e⟩
    · rw [e] at hx; simp at hx
    · rw [e, List.tail_cons] at hx
      cases hc : cutAt c rest with
      | nil => exact absurd hc (cutAt_ne c rest)
      | cons y ys =>
        rw [hc] at hx
        rcases List.mem_cons.1 hx with rfl | hx
        · obtain ⟨b, hb⟩ := cutAt_first hc
          exact ⟨x0, b, by rw [e1, ← hb]⟩
        · obtain ⟨a, b, h⟩ := cutAt_tail c n rest x (by have := congrArg List.length e1; simp at this; omega) (by rw [hc]; exact hx)
          exact ⟨x0 ++ c :: a, b, by rw [e1, h]; simp⟩
theorem indexAny_mem (cs : List UInt8) : ∀ l : List UInt8, 0 ≤ Lib.indexAny l cs ↔ ∃ c ∈ l, c ∈ cs
  | [] => by simp [Lib.indexAny]
  | d :: l => by
    have ih := indexAny_mem cs l
    have hg := Lib.indexAny_ge cs l
    unfold Lib.indexAny
    by_cases hd : d ∈ cs
    · rw [if_pos (by simpa using hd)]
      simp [hd]
    · rw [if_neg (by simpa using hd)]
      have e : (∃ c ∈ d :: l, c ∈ cs) ↔ ∃ c ∈ l, c ∈ cs := by simp [hd]
      rw [e, ← ih]
      split <;> rename_i h <;> simp at h <;> constructor <;> intro _ <;> omega

/-! ### 2. The list of headers -/
theorem hdr_cut : cutAt 32 (32 :: hdr) = [] :: words hdr := by decide +kernel
theorem hdr_paren : ∀ f ∈ words hdr, (40 : UInt8) ∈ f := by decide +kernel
theorem hdr_clean : ∀ x ∈ hdrHeads, ∀ c ∈ ([32, 40, 41, 44, 61] : List UInt8), c ∉ x := by decide +kernel
theorem hdr_of_occ {name a b : List UInt8} (h32 : (32 : UInt8) ∉ name) (h40 : (40 : UInt8) ∉ name) (h : 32 :: hdr = a ++ ((32 :: (name ++ [40])) ++ b)) : name ∈ hdrHeads := by
  have e := hdr_cut
  obtain ⟨y, ys, e2⟩ := cutAt_head (c := 32) (b := b) (x := name ++ [40]) (by simp [h32])
  rw [h, List.cons_append, cutAt_app, e2] at e
  have hm : name ++ [40] ++ y ∈ [] :: words hdr := by rw [← e]; simp
  rcases List.mem_cons.1 hm with hm | hm
  · simp at hm
  · unfold hdrHeads
    refine List.mem_map.2 ⟨_, hm, ?_⟩
    have := headAt_some (c := 40) (rest := y) h40
    simpa using this
theorem occ_of_hdr {name : List UInt8} (h : name ∈ hdrHeads) : ∃ a b, 32 :: hdr = a ++ ((32 :: (name ++ [40])) ++ b) := by
  unfold hdrHeads at h
  obtain ⟨f, hf, e⟩ := List.mem_map.1 h
  obtain ⟨a, b, h2⟩ := cutAt_tail 32 (32 :: hdr).length (32 :: hdr) f (Nat.le_refl _) (by rw [hdr_cut]; exact hf)
  have h3 := headAt_split (hdr_paren f hf)
  rw [e] at h3
  refine ⟨a, f.drop (name.length + 1) ++ b, ?_⟩
  rw [h2]
  conv => lhs; rw [h3]
  simp
theorem hdr_asc1 : ∀ c ∈ (32 :: hdr), c.toNat < 128 := by
  intro c hc
  rcases List.mem_cons.1 hc with rfl | hc
  · decide
  · exact hdr_asc c hc

/-! ### 3. What is found is read to its end -/
theorem p72_ok : (p72 3995 (-1)).isSome = true ∧ (p72 3995 1).isSome = true ∧ (p72 3995 10).isSome = true ∧ (p72 3995 0).isSome = true := by
  refine ⟨?_, ?_, ?_, ?_⟩ <;> kernel_rfl
theorem some_of {α : Type} {o : Option α} (h : o.isSome = true) : ∃ x, o = some x := by
  cases o with
  | none => cases h
  | some x => exact ⟨x, rfl⟩
theorem p50_ok (x : ByteArray) : ∃ r, p50 3996 x = some r := by
  obtain ⟨k1, k2, k3, k4⟩ := p72_ok
  obtain ⟨r1, k1⟩ := some_of k1
  obtain ⟨r2, k2⟩ := some_of k2
  obtain ⟨r3, k3⟩ := some_of k3
  obtain ⟨r4, k4⟩ := some_of k4
  rw [p50]
  simp only [k1, k2, k3, k4, Option.bind_some]
  split
  · exact ⟨_, rfl⟩
  split
  · exact ⟨_, rfl⟩
  split
  · exact ⟨_, rfl⟩
  split
  · exact ⟨_, rfl⟩
  split
  · exact ⟨_, rfl⟩
  split
  · exact ⟨_, rfl⟩
  split
  · exact ⟨_, rfl⟩
  split
  · exact ⟨_, rfl⟩
  split
  · exact ⟨_, rfl⟩
  exact ⟨_, rfl⟩
theorem p35_loop (ps : List (List UInt8)) (hl : ps.length ≤ 2000) (hp : ∀ y ∈ ps, y.length ≤ 2000) : ∃ t, loopP (pb35_1 3996 (ps.map mkB)) 3996 ([], [], false, 0) = some t := by
  obtain ⟨t, et, -⟩ := loop_inv (body := pb35_1 3996 (ps.map mkB)) (fun t => ∃ i : Nat, t.2.2.2 = (i : Int) ∧ i ≤ ps.length ∧ t.1.length ≤ i ∧ t.2.1.length ≤ i) (fun t => ps.length - t.2.2.2.toNat) (fun _ => True)
    (fun t ⟨i, e, h1, h2, h3⟩ => by
      obtain ⟨a, b, c, d⟩ := t
      dsimp only at e h2 h3
      subst e
      unfold pb35_1
      dsimp only
      by_cases hi : i < ps.length
      · left
        have hpi := hp ps[i] (List.getElem_mem hi)
        have hhi : (headAt 61 ps[i]).length ≤ 2000 := Nat.le_trans (List.takeWhile_sublist (p := fun x => x != 61) (l := ps[i])).length_le hpi
        obtain ⟨r, er⟩ := cut_head (n := 3996) (by omega) ps[i] 61 (by omega)
        obtain ⟨v, ev⟩ := p50_ok r.1
        have e25 := p25_ok (n := 3996) (by omega) (headAt 61 ps[i]) [42]
        have hw : IntKind.wrap .i64 ((i : Int) + 1) = ((i + 1 : Nat) : Int) := by rw [wr (by omega) (by omega)]; simp
        have ha1 : ∀ {ρ : Type} (K : List Unit → Option ρ), apP 48 a [()] K = K (a ++ [()]) := fun K => apP_ok (by simp; omega)
        have ha2 : ∀ {ρ : Type} (x : Int × (Bool × List Int) × (Bool × List Int) × ByteArray × Int) (K : List (Int × (Bool × List Int) × (Bool × List Int) × ByteArray × Int) → Option ρ), apP 96 b [x] K = K (b ++ [x]) := fun x K => apP_ok (by simp; omega)
        rw [if_pos (by simpa using hi)]
        simp only [pj]
        rw [rd_nat (x := mkB ps[i]) (by rw [List.getElem?_map, get_of_lt hi]; rfl), show (⟨#[61]⟩ : ByteArray) = mkB [61] from rfl, show (⟨#[42]⟩ : ByteArray) = mkB [42] from rfl]
        simp only [er, Option.bind_some, e25, ev, ha1, ha2]
        have fin : ∀ (a' : List Unit) (b' : List (Int × (Bool × List Int) × (Bool × List Int) × ByteArray × Int)) (c' : Bool), a'.length ≤ i + 1 → b'.length ≤ i + 1 →
            ∃ s', (some (Sum.inl (a', b', c', IntKind.wrap .i64 ((i : Int) + 1))) : Option ((List Unit × List (Int × (Bool × List Int) × (Bool × List Int) × ByteArray × Int) × Bool × Int) ⊕ (List Unit × List (Int × (Bool × List Int) × (Bool × List Int) × ByteArray × Int) × Bool × Int))) = some (.inl s') ∧
              (∃ j : Nat, s'.2.2.2 = (j : Int) ∧ j ≤ ps.length ∧ s'.1.length ≤ j ∧ s'.2.1.length ≤ j) ∧ ps.length - s'.2.2.2.toNat < ps.length - ((i : Int)).toNat := fun a' b' c' q1 q2 =>
          ⟨_, rfl, ⟨i + 1, by dsimp only; rw [hw], by omega, q1, q2⟩, by dsimp only; rw [hw]; omega⟩
        have la : (a ++ [()]).length ≤ i + 1 := by simp; omega
        have lb : ∀ x, (b ++ [x]).length ≤ i + 1 := fun x => by simp; omega
        have lb0 : b.length ≤ i + 1 := by omega
        have la0 : a.length ≤ i + 1 := by omega
        repeat' split
        all_goals first | exact fin _ _ _ la (lb _) | exact fin _ _ _ la lb0 | exact fin _ _ _ la0 lb0
      · right
        rw [if_neg (by simp; omega)]
        exact ⟨_, rfl, trivial⟩) 3996 ([], [], false, 0) ⟨0, rfl, by omega, by simp, by simp⟩ (by dsimp only; omega)
  exact ⟨t, et⟩

/-! ### 4. The header -/
theorem idP_two (b q : List UInt8) (hq : 2 ≤ q.length) (hb : b.length < 4294967281) : idP (mkB b) (mkB q) = some (Lib.index b q) := by
  unfold idP
  split
  · rename_i c h
    have : q = [c] := h
    rw [this] at hq
    simp at hq
  · rw [if_pos (by rw [mkB_size]; exact hb)]
    rfl
theorem mkB_append (a b : List UInt8) : mkB a ++ mkB b = mkB (a ++ b) := by
  apply ByteArray.ext
  simp [mkB]
theorem p35_ok (name : List UInt8) (hl : name.length ≤ 2305843009213693952) : ∃ x y, p35 3997 (mkB name) = some (x, y, decide (name ∈ hdrHeads)) := by
  have hcat : ∀ {ρ : Type} (a b : List UInt8) (K : ByteArray → Option ρ), a.length + b.length ≤ 4611686018427387904 → catP (mkB a) (mkB b) K = K (mkB (a ++ b)) := fun a b K h => by
    unfold catP
    rw [if_pos (by rw [mkB_size, mkB_size]; omega), mkB_append]
  have hlen : (32 :: hdr).length = 1883 := by rw [List.length_cons, hdr_size]
  have hi : p32 3996 (mkB (32 :: hdr)) (mkB ([32] ++ name ++ [40])) = some (Lib.index (32 :: hdr) (32 :: (name ++ [40]))) := by
    have : p32 3996 (mkB (32 :: hdr)) (mkB ([32] ++ name ++ [40])) = (idP (mkB (32 :: hdr)) (mkB ([32] ++ name ++ [40]))).bind some := rfl
    rw [this, idP_two _ _ (by simp) (by rw [hlen]; omega)]
    rfl
  rw [p35]
  refine Exists.imp (fun x => Exists.imp fun y h => Eq.trans (b := catP (mkB [32]) (mkB name) fun z1 => catP z1 (mkB [40]) fun z2 => (p32 3996 (mkB (32 :: hdr)) z2).bind _) rfl h) ?_
  rw [hcat _ _ _ (by simp; omega), hcat _ _ _ (by simp; omega), hi, Option.bind_some]
  rcases occ_spec (32 :: hdr) (32 :: (name ++ [40])) with ⟨h1, h2⟩ | ⟨a, b, e, h1⟩
  · have hn : name ∉ hdrHeads := fun hm => h2 (occ_of_hdr hm)
    refine ⟨[], [], ?_⟩
    rw [h1, decide_eq_false hn]
    rfl
  · have hel := congrArg List.length e
    rw [hlen] at hel
    simp only [List.length_append, List.length_cons, List.length_nil] at hel
    have hasc : ∀ c ∈ name, c.toNat < 128 := fun c hc => hdr_asc1 c (by rw [e]; simp [hc])
    have hca : p49 3996 (mkB name) (mkB [32, 40, 41, 44, 61]) = some (Lib.containsAny name [32, 40, 41, 44, 61]) := by
      show caP _ _ = _
      unfold caP
      rw [if_pos ⟨by rw [mkB_size]; omega, by decide, List.all_eq_true.2 fun c hc => decide_eq_true (hasc c hc), by decide⟩]
      rfl
    refine Exists.imp (fun x => Exists.imp fun y h => Eq.trans (b := if decide ((Lib.index (32 :: hdr) (32 :: (name ++ [40])) : Int) < 0) then _ else (p49 3996 (mkB name) (mkB [32, 40, 41, 44, 61])).bind fun r8 => if r8 then _ else _) rfl h) ?_
    rw [h1, if_neg (by simp), hca, Option.bind_some]
    by_cases hc : Lib.containsAny name [32, 40, 41, 44, 61] = true
    · have hn : name ∉ hdrHeads := fun hm => by
        unfold Lib.containsAny at hc
        obtain ⟨c, h2, h3⟩ := (indexAny_mem _ _).1 (of_decide_eq_true hc)
        exact hdr_clean name hm c h3 h2
      rw [if_pos hc, decide_eq_false hn]
      exact ⟨_, _, rfl⟩
    · have hno : ∀ c ∈ ([32, 40, 41, 44, 61] : List UInt8), c ∉ name := fun c h2 h3 => hc (decide_eq_true ((indexAny_mem _ _).2 ⟨c, h3, h2⟩))
      have hy : name ∈ hdrHeads := hdr_of_occ (hno 32 (by simp)) (hno 40 (by simp)) e
      rw [if_neg hc, decide_eq_true hy]
      have hb : hdr.drop (a.length + name.length + 1) = b := by
        have : (32 :: hdr).drop (a.length + name.length + 2) = b := by
          rw [e, ← List.append_assoc]
          exact List.drop_left' (by simp; omega)
        simpa using this
      have hbl : b.length ≤ 1882 := by omega
      have hhl : (headAt 41 b).length ≤ 1882 := Nat.le_trans (List.takeWhile_sublist (p := fun x => x != 41) (l := b)).length_le hbl
      obtain ⟨r, er⟩ := cut_head (n := 3996) (by omega) b 41 (by omega)
      have hs : p22 3996 (mkB (headAt 41 b)) (mkB [44]) = some ((cutAt 44 (headAt 41 b)).map mkB) := split_ok _ _ (by omega) (by omega)
      obtain ⟨t, et⟩ := p35_loop (cutAt 44 (headAt 41 b))
        (by rw [cutAt_count]; have : Lib.countByte (headAt 41 b) 44 ≤ (headAt 41 b).length := List.count_le_length; omega)
        (fun y hy => by
          cases hcc : cutAt 44 (headAt 41 b) with
          | nil => exact absurd hcc (cutAt_ne _ _)
          | cons z zs =>
            rw [hcc] at hy
            rcases List.mem_cons.1 hy with rfl | hy
            · obtain ⟨q, hq⟩ := cutAt_first hcc
              have := congrArg List.length hq
              rw [List.length_append] at this
              omega
            · obtain ⟨q1, q2, hq⟩ := cutAt_tail 44 _ _ y (Nat.le_refl _) (by rw [hcc]; exact hy)
              have := congrArg List.length hq
              simp at this
              omega)
      refine Exists.imp (fun x => Exists.imp fun y h => Eq.trans (b := subP (mkB hdr) (IntKind.wrap .i64 (IntKind.wrap .i64 ((a.length : Int) + ((mkB name).size : Nat)) + 1)) ((mkB hdr).size : Nat) fun z18 => (p23 3996 z18 (mkB [41])).bind fun r19 => (p22 3996 r19.1 (mkB [44])).bind _) rfl h) ?_
      have hx : (mkB hdr).extract (a.length + name.length + 1) hdr.length = mkB b := by
        rw [mkB_extract, List.take_length, hb]
      have hdl := hdr_size
      unfold subP
      rw [mkB_size, mkB_size, wr (x := (a.length : Int) + (name.length : Nat)) (by omega) (by omega), wr (by omega) (by omega), if_pos (by omega), if_pos (by omega), if_pos (Int.le_refl _), Int.toNat_natCast,
        show ((a.length : Int) + (name.length : Nat) + 1).toNat = a.length + name.length + 1 by omega, hx]
      dsimp only
      rw [er, Option.bind_some]
      dsimp only
      rw [hs, Option.bind_some, et]
      exact ⟨_, _, rfl⟩
end Go.Proofs.YtckalckfihhldaaDoorF
