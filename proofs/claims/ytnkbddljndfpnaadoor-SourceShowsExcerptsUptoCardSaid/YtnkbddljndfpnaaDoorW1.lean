/- source.find, walked. -/
import Derived.Test.YtnkbddljndfpnaaDoorW0
set_option linter.unusedVariables false
set_option linter.unusedSimpArgs false
namespace Go.Proofs.YtnkbddljndfpnaaDoorF
open Go Go.RowKit Go.Shelf
def offB (xs : List ByteArray) : Nat := (xs.map fun x => x.size + 1).sum
theorem offB_snoc (xs : List ByteArray) (x : ByteArray) : offB (xs ++ [x]) = offB xs + (x.size + 1) := by simp [offB]
theorem offB_le (b : ByteArray) : ∀ (l : List UInt8) (xs : List (List UInt8)), xs <+: linesL l → (xs.map fun x => x.length + 1).sum ≤ l.length + 1 := by
  have key : ∀ l : List UInt8, ((linesL l).map fun x => x.length + 1).sum = l.length + 1 := by
    intro l
    induction l with
    | nil => rfl
    | cons c l ih =>
      unfold linesL
      split
      · simp [ih]; omega
      · split
        · rename_i x xs h; rw [h] at ih; simp at ih ⊢; omega
        · rename_i h; exact absurd h (linesL_ne l)
  intro l xs ⟨ys, h⟩
  have := key l
  rw [← h] at this
  simp at this
  omega
theorem linesB_map (b : ByteArray) : (linesB b).map (fun x => x.data.toList) = linesL b.data.toList := by
  unfold linesB
  rw [List.map_map]
  conv => rhs; rw [← List.map_id (linesL b.data.toList)]
  exact List.map_congr_left fun l _ => by simp
theorem offB_le' {b : ByteArray} {xs : List ByteArray} (h : xs <+: linesB b) : offB xs ≤ b.size + 1 := by
  obtain ⟨ys, h⟩ := h
  have := offB_le b b.data.toList (xs.map fun x => x.data.toList) ⟨ys.map fun x => x.data.toList, by rw [← List.map_append, h]; exact linesB_map b⟩
  have hl : b.data.toList.length = b.size := Array.length_toList
  rw [hl] at this
  refine Nat.le_trans (Nat.le_of_eq ?_) this
  unfold offB
  rw [List.map_map]
  congr 1
theorem linesB_len {b : ByteArray} {xs : List ByteArray} (h : xs <+: linesB b) : xs.length ≤ b.size + 1 := by
  have h1 := offB_le' h
  have : ∀ ys : List ByteArray, ys.length ≤ offB ys := fun ys => by
    induction ys with
    | nil => simp
    | cons y ys ih => simp [offB] at ih ⊢; omega
  exact Nat.le_trans (this xs) h1
theorem findR_out {b : ByteArray} {line : Int} (h : ∀ k : Nat, k < (linesB b).length → line ≠ (k : Int) + 1) : findR b line = (0, ByteArray.empty, false) := by
  unfold findR
  split
  · rename_i h0
    split
    · rename_i l hl
      have hlt := (List.getElem?_eq_some_iff.1 hl).1
      exact absurd (show line = ((line.toNat - 1 : Nat) : Int) + 1 by omega) (h _ (by unfold linesB; simpa using hlt))
    · rfl
  · rfl
theorem findR_in {b : ByteArray} {pre : List ByteArray} {x : ByteArray} (h : pre ++ [x] <+: linesB b) : findR b ((pre.length : Int) + 1) = ((offB pre : Int), x, true) := by
  unfold findR
  rw [if_pos (by omega)]
  have hn : ((pre.length : Int) + 1).toNat - 1 = pre.length := by omega
  rw [hn]
  obtain ⟨ys, hy⟩ := h
  have hy' : linesL b.data.toList = (pre.map fun x => x.data.toList) ++ x.data.toList :: ys.map fun x => x.data.toList := by
    have := congrArg (List.map fun x : ByteArray => x.data.toList) hy
    rw [linesB_map] at this
    simpa using this.symm
  rw [hy', List.getElem?_append_right (by simp), show pre.length - (List.map (fun x : ByteArray => x.data.toList) pre).length = 0 by simp]
  simp only [List.getElem?_cons_zero]
  unfold lineOff offB
  rw [List.take_left' (by simp), List.map_map]
  rfl
theorem wrap64_id {n : Int} (h2 : -9223372036854775808 ≤ n) (h3 : n ≤ 9223372036854775807) : wrap64 n = n := by unfold wrap64; omega
theorem run_loadVar1 {P : Program} {W : World} {ty : TypeId} {B : Nat} {v : Value} (ha : ∀ w, (isAgg ty).run P w = .ok false w) (h : Boxed W B ty v) : (loadVar ty ⟨B, 0, none⟩).run P W = .ok v W := by
  have hc := h.cell
  unfold loadVar
  simp only [Sem.run_bind, ha, Result.andThen]
  simp [go_sem, hc]
theorem results_cell3 {fn : Func} {P : Program} {W : World} {a b c : Tmp} {t u v : TypeId} (h : fn.results = #[.cell a t, .cell b u, .cell c v]) (tmps : Array Value) {A B C : Nat} {x y z : Value}
    (ha : tmps.getD a undef = .pointer (some ⟨A, 0, none⟩)) (hb : tmps.getD b undef = .pointer (some ⟨B, 0, none⟩)) (hc : tmps.getD c undef = .pointer (some ⟨C, 0, none⟩))
    (xa : ∀ w, (isAgg t).run P w = .ok false w) (xb : ∀ w, (isAgg u).run P w = .ok false w) (xc : ∀ w, (isAgg v).run P w = .ok false w) (h1 : Boxed W A t x) (h2 : Boxed W B u y) (h3 : Boxed W C v z) :
    (results fn tmps).run P W = .ok (.tuple #[x, y, z]) W := by
  simp only [results, h]
  rw [Array.getD_eq_getD_getElem?] at ha hb hc
  simp [Sem.run_bind, Result.andThen, asAddr, ha, hb, hc, run_loadVar1 xa h1, run_loadVar1 xb h2, run_loadVar1 xc h3]
theorem ar1 {line : Int} {n : Nat} (h2 : -9223372036854775808 ≤ line) (h3 : line ≤ 9223372036854775807) (hn : n ≤ 4611686018427387905) (h : wrap64 (wrap64 (line - n) - 1) = 0) : line = (n : Int) + 1 := by
  unfold wrap64 at h
  omega
theorem ar2 {line : Int} {n m : Nat} (hm : m = n + 1) : wrap64 (wrap64 (line - n) - 1) = wrap64 (line - m) := by
  subst hm
  unfold wrap64
  omega
theorem ar3 {n m k : Nat} (hk : k = n + (m + 1)) (h : k ≤ 4611686018427387905) : wrap64 ((n : Int) + wrap64 ((m : Int) + 1)) = k := by
  subst hk
  unfold wrap64
  omega
theorem ar4 {n : Nat} : wrap64 (wrap64 (((n : Int) + 1) - n) - 1) = 0 := by
  unfold wrap64
  omega
attribute [local go_sem] Oper.semAt_some
set_option maxRecDepth 100000 in
set_option maxHeartbeats 4000000 in
theorem find_calls (b : ByteArray) (line : Int) (w : World) (h1 : b.size < 4611686018427387904) (h2 : -9223372036854775808 ≤ line) (h3 : line ≤ 9223372036854775807) :
      Calls Tryd.prog 36 #[.string b, .int .i64 line] w fun e w' => e = .returned (.tuple #[.int .i64 (findR b line).1, .string (findR b line).2.1, .bool (findR b line).2.2]) ∧ Below w.heap.size w w' := by
  refine (callsIn_wide (n := 3)).1 ?_
  refine callsIn_of_wp_marks Tryd.func36 rfl trivial ?_ rfl
  simp only [Tryd.ntmps36, List.size_toArray, List.length_cons, List.length_nil, Nat.reduceAdd, Nat.reduceSub, Array.replicate_succ, Array.replicate_zero, List.push_toArray, List.append_toArray, List.nil_append, List.cons_append]
  gi_wp2_with (refine ⟨trivial, ?_⟩; gi_at_call 59; refine (SplitSeq_in _ b ⟨#[10]⟩ _).mono ?_; rintro e w' ⟨rfl, rfl⟩)
  have z : ∀ (W : World) o, (W.alloc o).heap.size = W.heap.size + 1 := fun W o => World.size_alloc W o
  obtain ⟨W0, hW0⟩ : ∃ W0, W0 = ((((((((w.alloc (.cells #[.int .i64 line] 3)).alloc (.cells #[.int .i64 0] 3)).alloc (.cells #[.string ⟨#[]⟩] 9)).alloc (.cells #[.bool false] 4)).alloc (.cells #[.int .i64 0] 3)).alloc (.cells #[.string b] 9)).alloc (.cells #[.string ⟨#[10]⟩] 9)).alloc (.cells #[.int .i64 0] 3)) := ⟨_, rfl⟩
  rw [← hW0]
  have hs0 : W0.heap.size = w.heap.size + 8 := by rw [hW0]; simp only [z]
  have hB0 : Below w.heap.size w W0 := by
    rw [hW0]
    exact ((((((((Below.refl _ w).alloc (Nat.le_refl _) _).alloc (by simp only [z]; omega) _).alloc (by simp only [z]; omega) _).alloc (by simp only [z]; omega) _).alloc (by simp only [z]; omega) _).alloc (by simp only [z]; omega) _).alloc (by simp only [z]; omega) _).alloc (by simp only [z]; omega) _
  have b0 : Boxed W0 w.heap.size 3 (.int .i64 line) := by rw [hW0]; exact ((((((((Boxed.new w 3 _).alloc _).alloc _).alloc _).alloc _).alloc _).alloc _).alloc _)
  have b1 : Boxed W0 (w.heap.size + 1) 3 (.int .i64 0) := by
    have := Boxed.new (w.alloc (.cells #[.int .i64 line] 3)) 3 (.int .i64 0)
    simp only [z] at this
    rw [hW0]; exact ((((((this.alloc _).alloc _).alloc _).alloc _).alloc _).alloc _)
  have b2 : Boxed W0 (w.heap.size + 1 + 1) 9 (.string ⟨#[]⟩) := by
    have := Boxed.new ((w.alloc (.cells #[.int .i64 line] 3)).alloc (.cells #[.int .i64 0] 3)) 9 (.string ⟨#[]⟩)
    simp only [z] at this
    rw [hW0]; exact (((((this.alloc _).alloc _).alloc _).alloc _).alloc _)
  have b3 : Boxed W0 (w.heap.size + 1 + 1 + 1) 4 (.bool false) := by
    have := Boxed.new (((w.alloc (.cells #[.int .i64 line] 3)).alloc (.cells #[.int .i64 0] 3)).alloc (.cells #[.string ⟨#[]⟩] 9)) 4 (.bool false)
    simp only [z] at this
    rw [hW0]; exact ((((this.alloc _).alloc _).alloc _).alloc _)
  have b4 : Boxed W0 (w.heap.size + 1 + 1 + 1 + 1) 3 (.int .i64 0) := by
    have := Boxed.new ((((w.alloc (.cells #[.int .i64 line] 3)).alloc (.cells #[.int .i64 0] 3)).alloc (.cells #[.string ⟨#[]⟩] 9)).alloc (.cells #[.bool false] 4)) 3 (.int .i64 0)
    simp only [z] at this
    rw [hW0]; exact (((this.alloc _).alloc _).alloc _)
  have b5 : Boxed W0 (w.heap.size + 1 + 1 + 1 + 1 + 1) 9 (.string b) := by
    have := Boxed.new (((((w.alloc (.cells #[.int .i64 line] 3)).alloc (.cells #[.int .i64 0] 3)).alloc (.cells #[.string ⟨#[]⟩] 9)).alloc (.cells #[.bool false] 4)).alloc (.cells #[.int .i64 0] 3)) 9 (.string b)
    simp only [z] at this
    rw [hW0]; exact ((this.alloc _).alloc _)
  have b6 : Boxed W0 (w.heap.size + 1 + 1 + 1 + 1 + 1 + 1) 9 (.string ⟨#[10]⟩) := by
    have := Boxed.new ((((((w.alloc (.cells #[.int .i64 line] 3)).alloc (.cells #[.int .i64 0] 3)).alloc (.cells #[.string ⟨#[]⟩] 9)).alloc (.cells #[.bool false] 4)).alloc (.cells #[.int .i64 0] 3)).alloc (.cells #[.string b] 9)) 9 (.string ⟨#[10]⟩)
    simp only [z] at this
    rw [hW0]; exact (this.alloc _)
  have b7 : Boxed W0 (w.heap.size + 1 + 1 + 1 + 1 + 1 + 1 + 1) 3 (.int .i64 0) := by
    have := Boxed.new (((((((w.alloc (.cells #[.int .i64 line] 3)).alloc (.cells #[.int .i64 0] 3)).alloc (.cells #[.string ⟨#[]⟩] 9)).alloc (.cells #[.bool false] 4)).alloc (.cells #[.int .i64 0] 3)).alloc (.cells #[.string b] 9)).alloc (.cells #[.string ⟨#[10]⟩] 9)) 3 (.int .i64 0)
    simp only [z] at this
    rw [hW0]; exact this
  clear hW0
  have put_ : ∀ (W : World) k o B t v, W0.heap.size ≤ k → B < W0.heap.size → Boxed W B t v → Boxed (W.putObj k o) B t v := fun W k o B t v hk hB h => (World.putObj_heap_other (by omega)).trans h
  have bput : ∀ (W : World) k o, W0.heap.size ≤ k → Below w.heap.size w W → Below w.heap.size w (W.putObj k o) := fun W k o hk h =>
    ⟨h.os, h.tape, h.output, by simpa [World.putObj] using h.size, fun j hj => (World.putObj_heap_other (by omega)).trans (h.block j hj)⟩
  refine rangeX (gf := 109) (lb := #[.pointer (some ⟨w.heap.size + 1 + 1 + 1 + 1 + 1 + 1, 0, none⟩), .pointer (some ⟨w.heap.size + 1 + 1 + 1 + 1 + 1, 0, none⟩), .pointer (some ⟨w.heap.size + 1 + 1 + 1 + 1 + 1 + 1 + 1, 0, none⟩)]) rfl (enters_of Tryd.func109 (by kernel_rfl) rfl)
    (encs := fun x : ByteArray => #[.string x]) (fun _ => rfl) (Bs := w.heap.size + 1 + 1 + 1 + 1 + 1) (split_iter _ b h1 _ _ _ (by omega) (by omega) W0 b6 b5 b7) (by omega)
    (fun h k => ⟨k.1.trans h.1, k.2.1.trans h.2.1, k.2.2.trans h.2.2⟩) (fun W k o hk => ⟨World.putObj_heap_other (by omega), World.putObj_heap_other (by omega), World.putObj_heap_other (by omega)⟩)
    (fun o o' => ⟨(b6.alloc o |>.alloc o').trans b6.symm, (b5.alloc o |>.alloc o').trans b5.symm, (b7.alloc o |>.alloc o').trans b7.symm⟩)
    (fun pre W => Below w.heap.size w W ∧ Boxed W w.heap.size 3 (.int .i64 (wrap64 (line - pre.length))) ∧ Boxed W (w.heap.size + 1) 3 (.int .i64 0) ∧ Boxed W (w.heap.size + 1 + 1) 9 (.string ⟨#[]⟩) ∧ Boxed W (w.heap.size + 1 + 1 + 1) 4 (.bool false) ∧ Boxed W (w.heap.size + 1 + 1 + 1 + 1) 3 (.int .i64 (offB pre)) ∧ ∀ k : Nat, k < pre.length → line ≠ (k : Int) + 1)
    (fun pre W => ∃ pre0 x, pre0 ++ [x] <+: linesB b ∧ line = (pre0.length : Int) + 1 ∧ Below w.heap.size w W ∧ Boxed W (w.heap.size + 1) 3 (.int .i64 (offB pre0)) ∧ Boxed W (w.heap.size + 1 + 1) 9 (.string x) ∧ Boxed W (w.heap.size + 1 + 1 + 1) 4 (.bool true))
    (fun xs W k o hk ⟨i0, i1, i2, i3, i4, i5, i6⟩ => ⟨bput _ _ _ hk i0, put_ _ _ _ _ _ _ hk (by omega) i1, put_ _ _ _ _ _ _ hk (by omega) i2, put_ _ _ _ _ _ _ hk (by omega) i3, put_ _ _ _ _ _ _ hk (by omega) i4, put_ _ _ _ _ _ _ hk (by omega) i5, i6⟩)
    (fun xs W k o hk ⟨p, x, i0, i1, i2, i3, i4, i5⟩ => ⟨p, x, i0, i1, bput _ _ _ hk i2, put_ _ _ _ _ _ _ hk (by omega) i3, put_ _ _ _ _ _ _ hk (by omega) i4, put_ _ _ _ _ _ _ hk (by omega) i5⟩)
    (fun xs W v ⟨i0, i1, i2, i3, i4, i5, i6⟩ => ⟨i0.setCell (p := ⟨_, 0, none⟩) (by show _ ≤ w.heap.size + 1 + 1 + 1 + 1 + 1; omega) _, i1.other (by omega) _, i2.other (by omega) _, i3.other (by omega) _, i4.other (by omega) _, i5.other (by omega) _, i6⟩)
    (fun xs W o ⟨i0, i1, i2, i3, i4, i5, i6⟩ => ⟨i0.alloc (by have := i0.size; omega) _, i1.alloc _, i2.alloc _, i3.alloc _, i4.alloc _, i5.alloc _, i6⟩)
    (fun o o' => ⟨(hB0.alloc (by omega) o).alloc (by simp only [z]; omega) o', by simpa [wrap64_id h2 h3] using (b0.alloc o).alloc o', (b1.alloc o).alloc o', (b2.alloc o).alloc o', (b3.alloc o).alloc o', (b4.alloc o).alloc o', fun k hk => absurd hk (by simp)⟩)
    (fun x => { tmps := #[.string b, .int .i64 line, undef, .pointer (some ⟨w.heap.size, 0, none⟩), .pointer (some ⟨w.heap.size + 1, 0, none⟩), .pointer (some ⟨w.heap.size + 1 + 1, 0, none⟩), .pointer (some ⟨w.heap.size + 1 + 1 + 1, 0, none⟩), .pointer (some ⟨w.heap.size + 1 + 1 + 1 + 1, 0, none⟩), .string x, .string b,
      .func (.func 109) #[] #[.pointer (some ⟨w.heap.size + 1 + 1 + 1 + 1 + 1 + 1, 0, none⟩), .pointer (some ⟨w.heap.size + 1 + 1 + 1 + 1 + 1, 0, none⟩), .pointer (some ⟨w.heap.size + 1 + 1 + 1 + 1 + 1 + 1 + 1, 0, none⟩)], .string x, undef, undef, undef, undef, undef, undef, undef, undef, undef, undef, undef], defers := [] }) ?assign ?body ?done ?stop
  case assign =>
    intro l x W K hK
    gi_wp2
    exact hK
  case body =>
    rintro l pre x W hl ⟨hB, c0, c1, c2, c3, c4, hne⟩ hok
    have k0 := c0.cell; have f0 := c0.frozen; have k1 := c1.cell; have f1 := c1.frozen; have k2 := c2.cell; have f2 := c2.frozen; have k3 := c3.cell; have f3 := c3.frozen; have k4 := c4.cell; have f4 := c4.frozen
    have hsc : ∀ (W : World) B v k, k ≠ B → (W.setCell ⟨B, 0, none⟩ v).heap[k]? = W.heap[k]? := fun W B v k hk => Below.heap_setCell _ _ _ k hk
    have hbs : ∀ (W : World) B v, w.heap.size ≤ B → Below w.heap.size w W → Below w.heap.size w (W.setCell ⟨B, 0, none⟩ v) := fun W B v hk h => h.setCell (p := ⟨B, 0, none⟩) hk v
    gi_wp2
    · rename_i hz
      have hz' : wrap64 (wrap64 (line - pre.length) - 1) = 0 := by simpa using hz
      have hlen := linesB_len hok
      simp only [List.length_append, List.length_cons, List.length_nil] at hlen
      have hline : line = (pre.length : Int) + 1 := ar1 h2 h3 (by omega) hz'
      refine ⟨fun k hk1 hk2 => ?_, pre, x, hok, hline, ?_, ?_, ?_, ?_⟩
      · rw [hsc _ _ _ _ (by omega), hsc _ _ _ _ (by omega), hsc _ _ _ _ (by omega), hsc _ _ _ _ (by omega)]
      · exact hbs _ _ _ (by omega) (hbs _ _ _ (by omega) (hbs _ _ _ (by omega) (hbs _ _ _ (by omega) hB)))
      · exact (((c1.other (by omega) _).set _).other (by omega) _).other (by omega) _
      · exact (((c2.other (by omega) _).other (by omega) _).set _).other (by omega) _
      · exact (((c3.other (by omega) _).other (by omega) _).other (by omega) _).set _
    · rename_i hz
      have hz' : ¬ wrap64 (wrap64 (line - pre.length) - 1) = 0 := by simpa using hz
      have hoff := offB_le' hok
      rw [ar2 (m := (pre ++ [x]).length) (by simp), ar3 (offB_snoc pre x) (by omega)]
      refine ⟨fun k hk1 hk2 => ?_, ⟨?_, ?_, ?_⟩, ?_, ?_, ?_, ?_, ?_, ?_, fun k hk => ?_⟩
      · rw [hsc _ _ _ _ (by omega), hsc _ _ _ _ (by omega)]
      · rw [hsc _ _ _ _ (by omega), hsc _ _ _ _ (by omega)]
      · rw [hsc _ _ _ _ (by omega), hsc _ _ _ _ (by omega)]
      · rw [hsc _ _ _ _ (by omega), hsc _ _ _ _ (by omega)]
      · exact hbs _ _ _ (by omega) (hbs _ _ _ (by omega) hB)
      · exact (c0.set _).other (by omega) _
      · exact (c1.other (by omega) _).other (by omega) _
      · exact (c2.other (by omega) _).other (by omega) _
      · exact (c3.other (by omega) _).other (by omega) _
      · exact (c4.other (by omega) _).set _
      · rcases Nat.lt_or_ge k pre.length with h | h
        · exact hne k h
        · simp only [List.length_append, List.length_cons, List.length_nil] at hk
          have : k = pre.length := by omega
          subst this
          rintro rfl
          exact hz' ar4
  case done =>
    rintro ys W rfl ⟨hB, c0, c1, c2, c3, c4, hne⟩ hK
    have k1 := c1.cell; have f1 := c1.frozen; have k2 := c2.cell; have f2 := c2.frozen; have k3 := c3.cell; have f3 := c3.frozen
    have hf := findR_out hne
    have hbs : ∀ (W : World) B v, w.heap.size ≤ B → Below w.heap.size w W → Below w.heap.size w (W.setCell ⟨B, 0, none⟩ v) := fun W B v hk h => h.setCell (p := ⟨B, 0, none⟩) hk v
    gi_wp2
    rw [hf]
    have hsc : ∀ (W : World) B v k, k ≠ B → (W.setCell ⟨B, 0, none⟩ v).heap[k]? = W.heap[k]? := fun W B v k hk => Below.heap_setCell _ _ _ k hk
    have e1 := ((c1.set (.int .i64 0)).other (B' := w.heap.size + 1 + 1) (by omega) (.string ⟨#[]⟩)).other (B' := w.heap.size + 1 + 1 + 1) (by omega) (.bool false)
    have e2 := ((c2.other (B' := w.heap.size + 1) (by omega) (.int .i64 0)).set (.string ⟨#[]⟩)).other (B' := w.heap.size + 1 + 1 + 1) (by omega) (.bool false)
    have e3 := ((c3.other (B' := w.heap.size + 1) (by omega) (.int .i64 0)).other (B' := w.heap.size + 1 + 1) (by omega) (.string ⟨#[]⟩)).set (.bool false)
    have hBf := hbs _ (w.heap.size + 1 + 1 + 1) (.bool false) (by omega) (hbs _ (w.heap.size + 1 + 1) (.string ⟨#[]⟩) (by omega) (hbs _ (w.heap.size + 1) (.int .i64 0) (by omega) hB))
    have hKf : (((W.setCell ⟨w.heap.size + 1, 0, none⟩ (.int .i64 0)).setCell ⟨w.heap.size + 1 + 1, 0, none⟩ (.string ⟨#[]⟩)).setCell ⟨w.heap.size + 1 + 1 + 1, 0, none⟩ (.bool false)).heap[W0.heap.size]? = some (.deferred (some [])) := by
      rw [hsc _ _ _ _ (by omega), hsc _ _ _ _ (by omega), hsc _ _ _ _ (by omega)]; exact hK
    generalize (((W.setCell ⟨w.heap.size + 1, 0, none⟩ (.int .i64 0)).setCell ⟨w.heap.size + 1 + 1, 0, none⟩ (.string ⟨#[]⟩)).setCell ⟨w.heap.size + 1 + 1 + 1, 0, none⟩ (.bool false)) = W9 at e1 e2 e3 hBf hKf ⊢
    refine ⟨by simp, .inl ⟨_, _, rfl, run_takeDeferred hKf, ?_⟩⟩
    exact ⟨_, results_cell3 rfl _ rfl rfl rfl Tryd.isAgg3 Tryd.isAgg9 Tryd.isAgg4 (put_ _ _ _ _ _ _ (Nat.le_refl _) (by omega) e1) (put_ _ _ _ _ _ _ (Nat.le_refl _) (by omega) e2) (put_ _ _ _ _ _ _ (Nat.le_refl _) (by omega) e3), rfl, bput _ _ _ (Nat.le_refl _) hBf⟩
  case stop =>
    rintro pre W ⟨p, x, i0, i1, i2, i3, i4, i5⟩ hK
    have k1 := i3.cell; have k2 := i4.cell; have k3 := i5.cell
    have hf := findR_in i0
    rw [← i1] at hf
    gi_wp2
    rw [hf]
    refine ⟨by simp, .inl ⟨_, _, rfl, run_takeDeferred hK, ?_⟩⟩
    exact ⟨_, results_cell3 rfl _ rfl rfl rfl Tryd.isAgg3 Tryd.isAgg9 Tryd.isAgg4 (put_ _ _ _ _ _ _ (Nat.le_refl _) (by omega) i3) (put_ _ _ _ _ _ _ (Nat.le_refl _) (by omega) i4) (put_ _ _ _ _ _ _ (Nat.le_refl _) (by omega) i5), rfl, bput _ _ _ (Nat.le_refl _) i2⟩
end Go.Proofs.YtnkbddljndfpnaaDoorF
