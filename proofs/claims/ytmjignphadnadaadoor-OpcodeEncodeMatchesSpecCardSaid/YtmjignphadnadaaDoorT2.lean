/- Plain laws of the opcodes, 2: instructions encoded. -/
import Derived.Test.YtmjignphadnadaaDoorT1
import Derived.Test.YtmjignphadnadaaDoorL2
set_option linter.unusedVariables false
set_option linter.unusedSimpArgs false
namespace Go.Proofs.YtmjignphadnadaaDoorF
open Go Go.Proofs

/-- A loop that stops at the first bad index, with something in its hands. -/
theorem loop_badS {σ α β : Type} {body : σ → Option (σ ⊕ (α ⊕ β))} {f : Nat → Int} {n m : Nat} {S : Nat → σ} {mk : Int → Int → β} {e : α} (hm : n < m)
    (hs : ∀ i : Nat, i < n → (∀ j, j ≤ i → f j = 0) → body (S i) = some (.inl (S (i + 1)))) (hb : ∀ i : Nat, i < n → f i ≠ 0 → (∀ j, j < i → f j = 0) → body (S i) = some (.inr (.inr (mk (f i) i)))) (he : (∀ j, j < n → f j = 0) → body (S n) = some (.inr (.inl e))) {s0 : σ} (h0 : s0 = S 0) :
    loopP body m s0 = some (if (firstBad f n).1 = 0 then .inl e else .inr (mk (firstBad f n).1 (firstBad f n).2)) := by
  rcases first_or (fun i => f i ≠ 0) n with h1 | ⟨j, h1, h2, h3⟩
  · have h1' : ∀ i, i < n → f i = 0 := fun i hi => by simpa using h1 i hi
    rw [firstBad_none h1']
    exact loop_to S n m _ hm (fun i hi => hs i hi fun j hj => h1' j (by omega)) (he h1') h0
  · have h3' : ∀ i, i < j → f i = 0 := fun i hi => by simpa using h3 i hi
    rw [firstBad_some h1 h2 h3']
    simp only [if_neg h2]
    exact loop_to S j m _ (by omega) (fun i hi => hs i (by omega) fun k hk => h3' k (by omega)) (hb j h1 h2 h3') h0
abbrev Ins := Int × Int × Int
/-- How many operands are encoded. -/
def kk (o : Int) : Int := (tab.map opn).getD o.toNat 0
theorem kk_tab {o : Int} (h0 : 0 ≤ o) (h1 : o < 80) : ∃ e, tab[o.toNat]? = some e ∧ opn e = kk o := by
  have hx := get_of_lt (l := tab) (i := o.toNat) (by rw [tab_len]; omega)
  refine ⟨_, hx, ?_⟩
  unfold kk
  rw [List.getD_eq_getElem?_getD, List.getElem?_map, hx]
  rfl
theorem kk_ops {o : Int} (h0 : 0 ≤ o) (h1 : o < 80) : ∃ e, cO[o.toNat]? = some e ∧ ((e.size : Nat) : Int) = kk o := by
  have hx := get_of_lt (l := cW) (i := o.toNat) (by rw [cW_len]; omega)
  refine ⟨_, by rw [cO, List.getElem?_map, hx]; rfl, ?_⟩
  unfold kk
  rw [tab_ops, List.getD_eq_getElem?_getD, List.getElem?_map, hx, mkB_size]
  rfl
theorem opn_cases (e : ByteArray × Int × Int) : opn e = 0 ∨ opn e = 1 ∨ opn e = 2 := by
  unfold opn
  split
  · simp
  · split <;> simp
theorem kk_cases (o : Int) : kk o = 0 ∨ kk o = 1 ∨ kk o = 2 := by
  unfold kk
  rw [List.getD_eq_getElem?_getD, List.getElem?_map]
  cases tab[o.toNat]? with
  | none => simp
  | some e => exact opn_cases e
/-- What is wrong with instruction i. -/
def insF (l : List Ins) (i : Nat) : Int :=
  let x := l.getD i (0, 0, 0)
  if x.1 < 0 ∨ x.1 ≥ 80 then 5 else if x.2.1 < 0 ∨ x.2.2 < 0 ∨ x.2.1 > 16000 ∨ x.2.2 > 16000 ∨ (kk x.1 < 2 ∧ x.2.2 ≠ 0) ∨ (kk x.1 < 1 ∧ x.2.1 ≠ 0) then 4 else 0
theorem insF_get {l : List Ins} {i : Nat} {x : Ins} (h : l[i]? = some x) : insF l i = if x.1 < 0 ∨ x.1 ≥ 80 then 5 else if x.2.1 < 0 ∨ x.2.2 < 0 ∨ x.2.1 > 16000 ∨ x.2.2 > 16000 ∨ (kk x.1 < 2 ∧ x.2.2 ≠ 0) ∨ (kk x.1 < 1 ∧ x.2.1 ≠ 0) then 4 else 0 := by
  unfold insF
  rw [List.getD_eq_getElem?_getD, h]
  rfl
/-- The bytes of an instruction. -/
def insB (x : Ins) : List Int := [x.1] ++ (if kk x.1 ≥ 1 then sept 1 x.2.1 else []) ++ (if kk x.1 ≥ 2 then sept 1 x.2.2 else [])
theorem insB_len (x : Ins) : (insB x).length ≤ 5 := by
  have h1 := sept_length 1 x.2.1
  have h2 := sept_length 1 x.2.2
  unfold insB
  split <;> split <;> simp <;> omega
theorem flat_len (l : List Ins) : (l.flatMap insB).length ≤ 5 * l.length := by
  induction l with
  | nil => simp
  | cons x l ih =>
    have := insB_len x
    simp only [List.flatMap_cons, List.length_append, List.length_cons]
    omega
theorem flat_take {l : List Ins} {i : Nat} {x : Ins} (h : l[i]? = some x) : (l.take (i + 1)).flatMap insB = (l.take i).flatMap insB ++ insB x := by
  rw [take_succ h, List.flatMap_append]
  simp
def encR (l : List Ins) : List Int × (Int × Int) := if l.length > 60000 then ([], (2, -1)) else if (firstBad (insF l) l.length).1 = 0 then (l.flatMap insB, (0, 0)) else ([], firstBad (insF l) l.length)
theorem s18 {n : Nat} (a b : Int) (hn : 0 < n) : p18 n a b = some (decide (0 ≤ a ∧ a < b)) := by
  obtain ⟨n, rfl⟩ : ∃ m, n = m + 1 := ⟨n - 1, by omega⟩
  rw [p18]
  simp only [pj]
  by_cases h : a ≥ 0
  · rw [if_pos (by simpa using h)]
    simp [h]
  · rw [if_neg (by simpa using h)]
    simp [h]
theorem s23 {n : Nat} (a b c : Int) (hn : 0 < n) : p23 n a b c = some (decide (b ≤ a ∧ a ≤ c)) := by
  obtain ⟨n, rfl⟩ : ∃ m, n = m + 1 := ⟨n - 1, by omega⟩
  rw [p23]
  simp only [pj]
  by_cases h : b ≤ a
  · rw [if_pos (by simpa using h)]
    simp [h]
  · rw [if_neg (by simpa using h)]
    simp [h]
theorem s20 {n : Nat} (a b : Int) (hn : 0 < n) : p20 n a b = some (a, b) := by
  obtain ⟨n, rfl⟩ : ∃ m, n = m + 1 := ⟨n - 1, by omega⟩
  rfl
theorem s22 {n : Nat} (a b : Int) (hn : 0 < n) : p22 n a b = some (a, b) := by
  obtain ⟨n, rfl⟩ : ∃ m, n = m + 1 := ⟨n - 1, by omega⟩
  rfl
theorem s19 {n : Nat} (e : ByteArray × Int × Int) (hn : 0 < n) : p19 n e = some (opn e) := by
  obtain ⟨n, rfl⟩ : ∃ m, n = m + 1 := ⟨n - 1, by omega⟩
  rw [p19]
  unfold opn
  by_cases h : e.2.2 = 0
  · by_cases h2 : e.2.1 = 0 <;> simp [h, h2]
  · simp [h]
theorem slP_ok {ρ α : Type} {xs : List α} {l h : Int} {K : List α → Option ρ} (h0 : 0 ≤ l) (h1 : l ≤ h) (h2 : h ≤ xs.length) : slP xs l h K = K ((xs.take h.toNat).drop l.toNat) := by
  unfold slP
  rw [if_pos h0, if_pos h1, if_pos h2]
theorem sV1 {n : Nat} (b : List Int) (x : Int) (h0 : 0 ≤ x) (h1 : x ≤ 16000) (hb : b.length ≤ 1000000000) (hn : 5 ≤ n) : p21 n b x = some (b ++ sept 1 x) := by
  obtain ⟨n, rfl⟩ : ∃ m, n = m + 1 := ⟨n - 1, by omega⟩
  obtain ⟨b', x', g1, g2, g3, g4, g5⟩ := lV n 1 n b x h0 (by omega) (by omega) (by omega) (by omega)
  rw [p21, g1]
  simp only [Option.bind_some]
  rw [wr8 g2 (by omega), apP_ok (by simp; omega), g4]
theorem l9_2 (n : Nat) (ys : List Int) (b : List Int) (hn : 10 ≤ n) (hy : ∀ y ∈ ys, 0 ≤ y ∧ y ≤ 16000) (hl : ys.length ≤ 2) (hb : b.length ≤ 1000000) : loopP (pb9_2 n ys) n (b, 0) = some (b ++ ys.flatMap (sept 1), (ys.length : Int)) := by
  have hlen : ∀ i, ((ys.take i).flatMap (sept 1)).length ≤ 4 := by
    intro i
    match ys, hl with
    | [], _ => simp
    | [p], _ =>
      have := sept_length 1 p
      cases i <;> simp <;> omega
    | [p, q], _ =>
      have := sept_length 1 p
      have := sept_length 1 q
      match i with
      | 0 => simp
      | 1 => simp; omega
      | i + 2 => simp; omega
  refine loop_to (fun i => (b ++ (ys.take i).flatMap (sept 1), (i : Int))) ys.length n _ (by omega) (fun i hi => ?_) ?_ (by simp)
  · have hx := get_of_lt hi
    have hr := hy _ (List.mem_of_getElem? hx)
    have := hlen i
    unfold pb9_2
    rw [if_pos (by simp; omega), rd_nat hx]
    dsimp only
    rw [sV1 _ _ hr.1 hr.2 (by rw [List.length_append]; omega) (by omega)]
    simp only [Option.bind_some]
    rw [wr (x := (i : Int) + 1) (by omega) (by omega), take_succ hx, List.flatMap_append]
    simp
  · unfold pb9_2
    rw [if_neg (by simp), List.take_length]
theorem s9 {n : Nat} (l : List Ins) (hn : 60030 ≤ n) : p9 n l = some (encR l) := by
  obtain ⟨n, rfl⟩ : ∃ m, n = m + 1 := ⟨n - 1, by omega⟩
  rw [p9]
  unfold encR
  by_cases h0 : l.length > 60000
  · rw [if_pos (by simp; omega), if_pos h0, s20 _ _ (by omega)]
    rfl
  · rw [if_neg (by simp; omega), if_neg h0, s17 (by omega)]
    simp only [Option.bind_some]
    rw [loop_badS (f := insF l) (n := l.length) (S := fun i => ((l.take i).flatMap insB, (i : Int))) (mk := fun c i => (c, i)) (e := (l.flatMap insB, (l.length : Int))) (by omega) ?_ ?_ ?_ (by simp)]
    · by_cases hf : (firstBad (insF l) l.length).1 = 0
      · simp [hf]
      · simp [hf]
    · intro i hi hok
      have hx := get_of_lt hi
      have hf := hok i (Nat.le_refl _)
      rw [insF_get hx] at hf
      rw [flat_take hx]
      have hfl := flat_len (l.take i)
      have hlt := List.length_take_le i l
      generalize l[i] = x at hx hf
      obtain ⟨o, a, b⟩ := x
      dsimp only at hf
      split at hf
      · cases hf
      · rename_i ho
        split at hf
        · cases hf
        · rename_i hr
          obtain ⟨e, e1, e2⟩ := kk_tab (o := o) (by omega) (by omega)
          have hkc := kk_cases o
          unfold pb9_1
          rw [if_pos (by simp; omega), rd_nat hx, s18 _ _ (by omega), tab_len]
          simp only [Option.bind_some]
          rw [if_neg (by simp; omega), rd_int (by omega) e1]
          rw [s19 _ (by omega)]
          simp only [Option.bind_some, pj]
          have e2' : opn (e.1, e.2.1, e.2.2) = kk o := e2
          rw [e2', if_neg (by simp; omega), if_neg (by simp; omega), if_neg (by simp; omega), if_neg (by simp; omega)]
          rw [wr8 (x := o) (by omega) (by omega), wr (x := (i : Int) + 1) (by omega) (by omega)]
          have run : apP 1 ((l.take i).flatMap insB) [o] (fun y249 => slP [a, b] 0 (kk o) (fun y268 => (loopP (pb9_2 n y268) n ((l.take i).flatMap insB ++ [o], 0)).bind fun t406 => (some (.inl (t406.1, ((i : Int) + 1))) : Option ((List Int × Int) ⊕ ((List Int × Int) ⊕ (Int × Int)))))) = some (.inl ((l.take i).flatMap insB ++ insB (o, a, b), ((i + 1 : Nat) : Int))) := by
            rw [apP_ok (by rw [List.length_singleton]; omega), slP_ok (by omega) (by omega) (by simp; omega)]
            rw [l9_2 n _ _ (by omega) (fun y hy => by
              have := List.mem_of_mem_take (List.mem_of_mem_drop hy)
              simp at this
              rcases this with rfl | rfl <;> omega) (by simp; omega) (by rw [List.length_append, List.length_singleton]; omega)]
            simp only [Option.bind_some]
            congr 3
            rcases hkc with hk | hk | hk <;> simp [insB, hk]
          by_cases k2 : kk o < 2
          · rw [if_pos (by simpa using k2)]
            have hb0 : b = 0 := by omega
            rw [if_neg (by simpa using hb0)]
            by_cases k1 : kk o < 1
            · rw [if_pos (by simpa using k1), if_neg (by simp; omega)]
              exact run
            · rw [if_neg (by simpa using k1), if_neg (by simp)]
              exact run
          · rw [if_neg (by simpa using k2), if_neg (by simp; omega), if_neg (by simp)]
            exact run
    · intro i hi hne hok
      have hx := get_of_lt hi
      rw [insF_get hx] at hne ⊢
      generalize l[i] = x at hx hne
      obtain ⟨o, a, b⟩ := x
      dsimp only at hne ⊢
      unfold pb9_1
      rw [if_pos (by simp; omega), rd_nat hx, s18 _ _ (by omega), tab_len]
      simp only [Option.bind_some]
      by_cases ho : o < 0 ∨ o ≥ 80
      · rw [if_pos ho, if_pos (by simp; omega), s20 _ _ (by omega)]
        rfl
      · rw [if_neg ho] at hne ⊢
        obtain ⟨e, e1, e2⟩ := kk_tab (o := o) (by omega) (by omega)
        have e2' : opn (e.1, e.2.1, e.2.2) = kk o := e2
        rw [if_neg (by simp; omega), rd_int (by omega) e1]
        rw [s19 _ (by omega), e2']
        simp only [Option.bind_some, pj]
        split at hne
        · rename_i hr
          rw [if_pos hr]
          simp only [s20 4 _ (show 0 < n by omega), Option.bind_some]
          by_cases g1 : a < 0
          · simp [g1]
          by_cases g2 : b < 0
          · simp [g1, g2]
          by_cases g3 : a > 16000
          · simp [g1, g2, g3]
          by_cases g4 : b > 16000
          · simp [g1, g2, g3, g4]
          by_cases k2 : kk o < 2
          · by_cases hb0 : b = 0
            · have k1 : kk o < 1 := by omega
              have ha0 : a ≠ 0 := by omega
              simp [g1, g3, hb0, k2, k1, ha0]
            · simp [g1, g2, g3, g4, k2, hb0]
          · omega
        · exact absurd rfl hne
    · intro _
      unfold pb9_1
      rw [if_neg (by simp), List.take_length]
end Go.Proofs.YtmjignphadnadaaDoorF
