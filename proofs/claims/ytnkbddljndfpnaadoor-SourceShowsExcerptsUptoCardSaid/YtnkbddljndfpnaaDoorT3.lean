/- Sources: faults, letters, places. -/
import Derived.Test.YtnkbddljndfpnaaDoorT2
set_option linter.unusedVariables false
set_option linter.unusedSimpArgs false
namespace Go.Proofs.YtnkbddljndfpnaaDoorF
open Go Go.Proofs
set_option maxRecDepth 100000

theorem wid_fb : ∀ (k : Nat) (l : List UInt8) (p : Nat), l.length < k → (fb k l p = none → ∀ x ∈ wid k l, 0 ≤ x) ∧ ∀ q, fb k l p = some q → ∃ A B, wid k l = A ++ (-1) :: B ∧ (∀ x ∈ A, 0 ≤ x) ∧ q = p + A.length
  | 0, l, p, h => by omega
  | k + 1, l, p, h => by
    unfold fb wid
    by_cases h0 : l = []
    · simp [h0]
    rw [if_neg h0, if_neg h0]
    have hw := dec_w h0
    by_cases hb : badB (dec l).1 (dec l).2 = true
    · rw [if_pos hb, if_pos hb]
      refine ⟨fun e => (by cases e), fun q e => ⟨[], _, rfl, by simp, by injection e with e; simp [e]⟩⟩
    · rw [if_neg hb, if_neg hb]
      obtain ⟨h1, h2⟩ := wid_fb k (l.drop (dec l).2) (p + (dec l).2) (by rw [List.length_drop]; omega)
      refine ⟨fun e x hx => ?_, fun q e => ?_⟩
      · rcases List.mem_cons.1 hx with rfl | hx
        · omega
        · rcases List.mem_append.1 hx with hx | hx
          · have := List.eq_of_mem_replicate hx; omega
          · exact h1 e x hx
      · obtain ⟨A, B, e1, e2, e3⟩ := h2 q e
        refine ⟨(((dec l).2 : Nat) : Int) :: (List.replicate ((dec l).2 - 1) 0 ++ A), B, by rw [e1]; simp, fun x hx => ?_, by simp; omega⟩
        rcases List.mem_cons.1 hx with rfl | hx
        · omega
        · rcases List.mem_append.1 hx with hx | hx
          · have := List.eq_of_mem_replicate hx; omega
          · exact e2 x hx
theorem wid_length : ∀ (k : Nat) (l : List UInt8), l.length < k → (wid k l).length = l.length
  | 0, l, h => by omega
  | k + 1, l, h => by
    unfold wid
    by_cases h0 : l = []
    · simp [h0]
    rw [if_neg h0]
    have hw := dec_w h0
    split
    · rw [List.length_cons, wid_length k _ (by rw [List.length_drop]; omega), List.length_drop]; omega
    · rw [List.length_cons, List.length_append, List.length_replicate, wid_length k _ (by rw [List.length_drop]; omega), List.length_drop]; omega
theorem wids_length (l : List UInt8) : (wids l).length = l.length := wid_length _ l (by omega)
theorem p12_ok {n : Nat} {l : List UInt8} (hn : l.length + 40 ≤ n) : p12 n (mkB l) = some (chk l) := by
  obtain ⟨n, rfl⟩ : ∃ m, n = m + 1 := ⟨n - 1, by omega⟩
  rw [p12]
  unfold chk
  rw [mkB_size]
  by_cases hb : l.length > 16000
  · rw [if_pos hb, if_pos (by simp; omega), p17_ok (by omega)]; rfl
  rw [if_neg hb, if_neg (by simp; omega), p37_ok (by omega) (by omega)]
  simp only [Option.bind_some]
  have hl := wids_length l
  have hbody : ∀ (i : Nat) (x : Int), (wids l)[i]? = some x → pb12_1 n (wids l) (i : Int) = some (if x < 0 then .inr (.inr (1, (i : Int))) else .inl ((i + 1 : Nat) : Int)) := fun i x hx => by
    have hi := (List.getElem?_eq_some_iff.1 hx).1
    unfold pb12_1
    rw [if_pos (by simpa using hi), rd_nat hx]
    by_cases h : x < 0
    · rw [if_pos (by simpa using h), p17_ok (by omega), if_pos h]; rfl
    · rw [if_neg (by simpa using h), if_neg h, wr (by omega) (by omega)]; simp
  obtain ⟨h1, h2⟩ := wid_fb (l.length + 1) l 0 (by omega)
  cases hf : fbad l with
  | none =>
    have hp := h1 hf
    have e := loop_to (s0 := 0) (body := pb12_1 n (wids l)) (fun i => (i : Int)) (wids l).length n (Sum.inl ((wids l).length : Int)) (by omega) (fun i hi => by
      have hx := get_of_lt hi
      rw [hbody i _ hx, if_neg]
      have := hp _ (List.mem_of_getElem? hx)
      omega) (by unfold pb12_1; rw [if_neg (by simp)]) rfl
    rw [e]
    rfl
  | some q =>
    obtain ⟨A, B, e1, e2, e3⟩ := h2 q hf
    have e1' : wids l = A ++ (-1) :: B := e1
    have hAl : A.length < (wids l).length := by rw [e1']; simp
    have e := loop_to (s0 := 0) (body := pb12_1 n (wids l)) (fun i => (i : Int)) A.length n (Sum.inr (1, (A.length : Int))) (by omega) (fun i hi => by
      have hx := get_of_lt (show i < (wids l).length by omega)
      have hx' : A[i]? = some (wids l)[i] := by rw [← hx, e1', List.getElem?_append_left hi]
      rw [hbody i _ hx, if_neg]
      have := e2 _ (List.mem_of_getElem? hx')
      omega) (by rw [hbody A.length (-1) (by rw [e1']; simp), if_pos (by omega)]) rfl
    rw [e]
    simp [e3]

/-! ### Letters -/
def Gds (cs : List (List UInt8)) : Prop := ∀ c ∈ cs, Gd c
theorem chk_ok {l : List UInt8} (h : chk l = (0, 0)) : l.length ≤ 16000 ∧ ∃ cs, l = cs.flatten ∧ Gds cs := by
  unfold chk at h
  by_cases hb : l.length > 16000
  · rw [if_pos hb] at h; cases h
  rw [if_neg hb] at h
  cases hf : fbad l with
  | some p => rw [hf] at h; cases h
  | none => exact ⟨by omega, fb_none _ l 0 (by omega) hf⟩
theorem chk_code (l : List UInt8) : (chk l).1 = 0 ↔ chk l = (0, 0) := by
  unfold chk
  split
  · simp
  · cases fbad l <;> simp
theorem wid_chars : ∀ (cs : List (List UInt8)) (k : Nat), Gds cs → cs.flatten.length < k → wid k cs.flatten = cs.flatMap fun c => (c.length : Int) :: List.replicate (c.length - 1) 0
  | [], k, _, h => by
    obtain ⟨k, rfl⟩ : ∃ m, k = m + 1 := ⟨k - 1, by omega⟩
    simp [wid]
  | c :: cs, k, hg, h => by
    obtain ⟨k, rfl⟩ : ∃ m, k = m + 1 := ⟨k - 1, by omega⟩
    obtain ⟨r, hc, hr⟩ := hg c (by simp)
    have hd := dec_ch hc cs.flatten
    have hl := hc.len
    simp only [List.flatten_cons, List.length_append] at h
    unfold wid
    rw [if_neg (by intro e; have := congrArg List.length e; rw [List.flatten_cons, List.length_append, List.length_nil] at this; omega), List.flatten_cons, hd]
    simp only [badB_good hc hr, Bool.false_eq_true, if_false]
    rw [List.drop_left, wid_chars cs k (fun x hx => hg x (by simp [hx])) (by omega)]
    simp
theorem wids_chars {cs : List (List UInt8)} (hg : Gds cs) : wids cs.flatten = cs.flatMap fun c => (c.length : Int) :: List.replicate (c.length - 1) 0 := wid_chars cs _ hg (by omega)
theorem Gd.head {c : List UInt8} (h : Gd c) : ∃ a t, c = a :: t ∧ a.toNat / 64 ≠ 2 ∧ (∀ x ∈ t, x.toNat / 64 = 2) ∧ (a = 10 → t = []) := by
  obtain ⟨r, hc, hr⟩ := h
  obtain ⟨a, t, e, h1, h2, h3, h4⟩ := hc.head
  refine ⟨a, t, e, h1, h2, fun ha => ?_⟩
  by_cases ht : t = []
  · exact ht
  · have := h4 ht; subst ha; simp at this
theorem Gd.ne10 {c : List UInt8} (h : Gd c) (hc : c ≠ [10]) : 10 ∉ c := by
  obtain ⟨a, t, e, h1, h2, h3⟩ := h.head
  subst e
  intro hm
  rcases List.mem_cons.1 hm with rfl | hm
  · rw [h3 rfl] at hc; exact hc rfl
  · have := h2 _ hm; simp at this
/-- Every place of a text begins a letter, or lies in one. -/
theorem place_at : ∀ (cs : List (List UInt8)) (i : Nat), Gds cs → i < cs.flatten.length →
    (∃ pre c post, cs = pre ++ c :: post ∧ i = pre.flatten.length ∧ ∃ a, cs.flatten[i]? = some a ∧ a.toNat / 64 ≠ 2 ∧ (wids cs.flatten)[i]? = some (c.length : Int)) ∨
    (∃ a, cs.flatten[i]? = some a ∧ a.toNat / 64 = 2 ∧ (wids cs.flatten)[i]? = some 0)
  | [], i, _, h => by simp at h
  | c :: cs, i, hg, h => by
    have hgc := hg c (by simp)
    obtain ⟨a, t, e, h1, h2, h3⟩ := hgc.head
    have hw := wids_chars hg
    have hw' := wids_chars (cs := cs) (fun x hx => hg x (by simp [hx]))
    rw [List.flatMap_cons, ← hw'] at hw
    rw [hw]
    by_cases hi : i < c.length
    · by_cases h0 : i = 0
      · left
        subst h0
        exact ⟨[], c, cs, rfl, rfl, a, by rw [e]; rfl, h1, rfl⟩
      · right
        obtain ⟨j, rfl⟩ : ∃ j, i = j + 1 := ⟨i - 1, by omega⟩
        have hj : j < t.length := by rw [e] at hi; simpa using hi
        refine ⟨t[j], by rw [e, List.flatten_cons, List.cons_append, List.getElem?_cons_succ, List.getElem?_append_left hj, List.getElem?_eq_getElem hj], h2 _ (List.getElem_mem hj), ?_⟩
        rw [List.cons_append, List.getElem?_cons_succ, List.getElem?_append_left (by rw [e]; simpa using hj), List.getElem?_replicate, if_pos (by rw [e]; simpa using hj)]
    · have hi' : i - c.length < cs.flatten.length := by rw [List.flatten_cons, List.length_append] at h; omega
      have hcl : 1 ≤ c.length := by rw [e]; simp
      have e1 : (List.flatten (c :: cs))[i]? = cs.flatten[i - c.length]? := by rw [List.flatten_cons, List.getElem?_append_right (by omega)]
      have e2 : (((c.length : Int) :: List.replicate (c.length - 1) 0) ++ wids cs.flatten)[i]? = (wids cs.flatten)[i - c.length]? := by
        rw [List.getElem?_append_right (by simp; omega)]
        congr 1
        simp; omega
      rw [e1, e2]
      rcases place_at cs (i - c.length) (fun x hx => hg x (by simp [hx])) hi' with ⟨pre, d, post, q1, q2, q3⟩ | h
      · left
        exact ⟨c :: pre, d, post, by rw [q1]; rfl, by rw [List.flatten_cons, List.length_append]; omega, q3⟩
      · right; exact h

/-! ### Places -/
def pstep (q : Int × Int) (c : List UInt8) : Int × Int := if c = [10] then (q.1 + 1, 1) else (q.1, q.2 + 1)
def place (cs : List (List UInt8)) : Int × Int := cs.foldl pstep (1, 1)
theorem place_snoc (cs : List (List UInt8)) (c : List UInt8) : place (cs ++ [c]) = pstep (place cs) c := by simp [place]
theorem fold_bounds : ∀ (cs : List (List UInt8)) (q : Int × Int), 1 ≤ q.2 → q.1 ≤ (cs.foldl pstep q).1 ∧ (cs.foldl pstep q).1 ≤ q.1 + cs.length ∧ 1 ≤ (cs.foldl pstep q).2 ∧ (cs.foldl pstep q).2 ≤ q.2 + cs.length
  | [], q, h => by simp [h]
  | c :: cs, q, h => by
    have := fold_bounds cs (pstep q c) (by unfold pstep; split <;> simp; omega)
    rw [List.foldl_cons]
    unfold pstep at this ⊢
    split at this <;> rename_i hc <;> simp only [hc, if_true, if_false] at this ⊢ <;> simp at this ⊢ <;> omega
theorem place_bounds (cs : List (List UInt8)) : 1 ≤ (place cs).1 ∧ (place cs).1 ≤ 1 + cs.length ∧ 1 ≤ (place cs).2 ∧ (place cs).2 ≤ 1 + cs.length := by
  have := fold_bounds cs (1, 1) (by simp)
  unfold place
  simp at this ⊢
  omega
/-- Later is later. -/
def Lt (a b : Int × Int) : Prop := a.1 < b.1 ∨ (a.1 = b.1 ∧ a.2 < b.2)
theorem place_lt (pre : List (List UInt8)) : ∀ (more : List (List UInt8)), more ≠ [] → Lt (place pre) (place (pre ++ more)) := by
  have key : ∀ (more : List (List UInt8)) (q : Int × Int), 1 ≤ q.2 → more ≠ [] → Lt q (more.foldl pstep q) := by
    intro more
    induction more with
    | nil => intro q _ h; exact absurd rfl h
    | cons c more ih =>
      intro q hq _
      rw [List.foldl_cons]
      have h1 : Lt q (pstep q c) := by
        unfold pstep Lt
        split <;> simp <;> omega
      by_cases hm : more = []
      · subst hm; exact h1
      · have h2 := ih (pstep q c) (by unfold pstep; split <;> simp; omega) hm
        unfold Lt at h1 h2 ⊢
        omega
  intro more hm
  unfold place
  rw [List.foldl_append]
  exact key more _ (place_bounds pre).2.2.1 hm
theorem place_inj {cs p q p' q' : List (List UInt8)} (h1 : cs = p ++ p') (h2 : cs = q ++ q') (h : place p = place q) : p = q := by
  have lt_irr : ∀ a, ¬ Lt a a := fun a h => by unfold Lt at h; omega
  rcases List.append_eq_append_iff.1 (h1.symm.trans h2) with ⟨a, e, -⟩ | ⟨a, e, -⟩
  · by_cases ha : a = []
    · subst ha; simpa using e.symm
    · have := place_lt p a ha
      rw [← e, h] at this
      exact absurd this (lt_irr _)
  · by_cases ha : a = []
    · subst ha; simpa using e
    · have := place_lt q a ha
      rw [← e, h] at this
      exact absurd this (lt_irr _)
end Go.Proofs.YtnkbddljndfpnaaDoorF
