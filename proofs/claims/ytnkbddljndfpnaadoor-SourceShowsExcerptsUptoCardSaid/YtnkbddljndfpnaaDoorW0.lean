/- What strings.SplitSeq gives, at a separator of one byte. -/
import Derived.Test.YtnkbddljndfpnaaDoorS2
import Derived.Test.YtnkbddljndfpnaaDoorRX
import Derived.Test.YtnkbddljndfpnaaDoorL9
import Derived.Shelf.Abstract
import Derived.Shelf.RegionOpen
import Derived.WalkKit
import Derived.OwnWalkIn
import Derived.TacticsInMore
import Derived.LoopNIn
import Derived.LoopIn
set_option linter.unusedVariables false
set_option linter.unusedSimpArgs false
namespace Go.Proofs.YtnkbddljndfpnaaDoorF
open Go Go.RowKit Go.Shelf

theorem linesL_ne (l : List UInt8) : linesL l ≠ [] := by
  cases l with
  | nil => simp [linesL]
  | cons c l => unfold linesL; split; simp; split <;> simp
theorem linesL_none : ∀ {l : List UInt8}, Lib.indexByte l 10 < 0 → linesL l = [l]
  | [], _ => rfl
  | c :: l, h => by
    unfold Lib.indexByte at h
    by_cases hc : c = 10
    · subst hc; simp at h
    · have h' : Lib.indexByte l 10 < 0 := by
        have := Lib.indexByte_ge l 10
        simp [hc] at h
        split at h <;> omega
      unfold linesL
      rw [if_neg hc, linesL_none h']
theorem linesL_some : ∀ {l : List UInt8}, 0 ≤ Lib.indexByte l 10 → linesL l = l.take (Lib.indexByte l 10).toNat :: linesL (l.drop ((Lib.indexByte l 10).toNat + 1)) ∧ (Lib.indexByte l 10).toNat < l.length
  | [], h => by simp [Lib.indexByte] at h
  | c :: l, h => by
    have hge := Lib.indexByte_ge l 10
    by_cases hc : c = 10
    · subst hc
      have : Lib.indexByte (10 :: l) 10 = 0 := by simp [Lib.indexByte]
      rw [this]
      simp [linesL]
    · have hi : Lib.indexByte (c :: l) 10 = if Lib.indexByte l 10 = -1 then -1 else Lib.indexByte l 10 + 1 := by simp [Lib.indexByte, hc]
      rw [hi] at h ⊢
      by_cases h1 : Lib.indexByte l 10 = -1
      · rw [if_pos h1] at h; omega
      · rw [if_neg h1]
        obtain ⟨e, k⟩ := linesL_some (l := l) (by omega)
        have hn : (Lib.indexByte l 10 + 1).toNat = (Lib.indexByte l 10).toNat + 1 := by omega
        rw [hn]
        refine ⟨?_, by simpa using k⟩
        conv => lhs; unfold linesL
        rw [if_neg hc, e]
        simp
def linesB (b : ByteArray) : List ByteArray := (linesL b.data.toList).map fun l => ⟨l.toArray⟩
theorem linesB_none {b : ByteArray} (h : Lib.indexByte b.data.toList 10 < 0) : linesB b = [b] := by
  unfold linesB
  rw [linesL_none h]
  simp
theorem linesB_some {b : ByteArray} (h : 0 ≤ Lib.indexByte b.data.toList 10) : linesB b = b.extract 0 (Lib.indexByte b.data.toList 10).toNat :: linesB (b.extract ((Lib.indexByte b.data.toList 10).toNat + 1) b.size) ∧ (Lib.indexByte b.data.toList 10).toNat < b.size := by
  obtain ⟨e, k⟩ := linesL_some h
  have e1 : ∀ i j, b.extract i j = ⟨((b.data.toList.take j).drop i).toArray⟩ := fun i j => by
    apply ByteArray.ext
    rw [ByteArray.data_extract]
    apply Array.ext'
    simp [List.extract_eq_take_drop, List.drop_take]
  have hl : b.data.toList.length = b.size := Array.length_toList
  refine ⟨?_, by omega⟩
  unfold linesB
  rw [e, List.map_cons]
  congr 1
  · rw [e1, List.drop_zero]
  · rw [e1, List.take_of_length_le (by omega)]
theorem indexByte_len (b : ByteArray) : Lib.indexByte b.data.toList 10 < b.size ∨ Lib.indexByte b.data.toList 10 < 0 := by
  rcases Int.lt_or_le (Lib.indexByte b.data.toList 10) 0 with h | h
  · exact .inr h
  · have := (linesB_some h).2
    omega
/-- The room for the text that is left. -/
def strL : Option Value → Nat
  | some (.string r) => r.size
  | _ => 0
def leftB (B : Nat) (W : World) : Nat := strL (W.cell? ⟨B, 0, none⟩)
theorem leftB_eq {B : Nat} {W : World} {r : ByteArray} (h : Boxed W B 9 (.string r)) : leftB B W = r.size := by
  unfold leftB
  rw [h.cell]
  rfl
/-- The three boxes that the iterator reads. -/
def Kp3 (A B C : Nat) (W W' : World) : Prop := W'.heap[A]? = W.heap[A]? ∧ W'.heap[B]? = W.heap[B]? ∧ W'.heap[C]? = W.heap[C]?

attribute [local go_sem] Oper.semAt_some
set_option maxRecDepth 100000 in
set_option maxHeartbeats 4000000 in
theorem split_iter (n : Nat) (b : ByteArray) (hb : b.size < 4611686018427387904) (A B C : Nat) (hAB : A ≠ B) (hBC : B ≠ C) (w0 : World) (hA : Boxed w0 A 9 (.string ⟨#[10]⟩)) (hB : Boxed w0 B 9 (.string b)) (hC : Boxed w0 C 3 (.int .i64 0)) :
    Iter Tryd.prog n 109 #[.pointer (some ⟨A, 0, none⟩), .pointer (some ⟨B, 0, none⟩), .pointer (some ⟨C, 0, none⟩)] (fun x : ByteArray => #[.string x]) B (Kp3 A B C) (fun xs => xs = linesB b) (fun xs => xs <+: linesB b) w0 := by
  intro l J Jx W hk hJs hJa hY h0
  have hA1 : Boxed W A 9 (.string ⟨#[10]⟩) := hk.1.trans hA
  have hB1 : Boxed W B 9 (.string b) := hk.2.1.trans hB
  have hC1 : Boxed W C 3 (.int .i64 0) := hk.2.2.trans hC
  clear hA hB hC hk
  have cA := hA1.cell; have cB := hB1.cell; have cC := hC1.cell
  refine callsIn_of_wp Tryd.func109 rfl trivial ?_ rfl
  simp only [Tryd.ntmps109, List.size_toArray, List.length_cons, List.length_nil, Nat.reduceAdd, Nat.reduceSub, Array.replicate_succ, Array.replicate_zero, List.push_toArray, List.append_toArray, List.nil_append, List.cons_append]
  gi_wp2
  gi_loopw [] (fun wr => ∃ (pre : List ByteArray) (r : ByteArray), linesB b = pre ++ linesB r ∧ Boxed wr A 9 (.string ⟨#[10]⟩) ∧ Boxed wr B 9 (.string r) ∧ Boxed wr C 3 (.int .i64 0) ∧ J pre wr ∧ r.size ≤ b.size)
    (fun wr => leftB B wr)
  case atStart => exact ⟨[], b, rfl, hA1, hB1, hC1, h0, Nat.le_refl _⟩
  case round =>
    obtain ⟨pre, r, hx, hAr, hBr, hCr, hJ, hsz⟩ := hrel
    have cAr := hAr.cell; have cBr := hBr.cell; have cCr := hCr.cell; have fBr := hBr.frozen
    have hle := indexByte_len r
    rcases Int.lt_or_le (Lib.indexByte r.data.toList 10) 0 with hi | hi
    · obtain ⟨fn, tmps, assign, body, hy, hR⟩ := hY pre r wr hJ (by rw [hx, linesB_none hi]; exact List.prefix_refl _)
      gi_wp2_with (refine ⟨trivial, (fun h => by cases h), ?_⟩; gi_at_call 58; refine (callsIn_wide.2 (Tryd.strings_Index_one r 10 wr)).mono ?_; rintro e w' ⟨rfl, rfl⟩)
      refine ⟨(fun h => by cases h), hR.mono ?_⟩
      rintro e W3 (⟨rfl, hJ3, hk3⟩ | ⟨rfl, hJx3⟩)
      · gi_wp2
        go_end0
        exact ⟨⟨_, rfl⟩, .inl ⟨_, rfl, by rw [hx, linesB_none hi]; exact hJ3⟩⟩
      · gi_wp2
        go_end0
        exact ⟨⟨_, rfl⟩, .inr ⟨_, hJx3⟩⟩
    · obtain ⟨e1, hlt⟩ := linesB_some hi
      obtain ⟨i, hi'⟩ : ∃ i : Nat, Lib.indexByte r.data.toList 10 = i := ⟨(Lib.indexByte r.data.toList 10).toNat, by omega⟩
      rw [hi'] at e1 hlt
      simp only [Int.toNat_natCast] at e1 hlt
      obtain ⟨fn, tmps, assign, body, hy, hR⟩ := hY pre (r.extract 0 i) wr hJ ⟨_, by rw [hx, e1, List.append_assoc]; rfl⟩
      gi_wp2_with (refine ⟨trivial, (fun h => by cases h), ?_⟩; gi_at_call 58; refine (callsIn_wide.2 (Tryd.strings_Index_one r 10 wr)).mono ?_; rintro e w' ⟨rfl, rfl⟩; rw [hi'])
      refine ⟨(fun h => by cases h), hR.mono ?_⟩
      rintro e W3 (⟨rfl, hJ3, hk3⟩ | ⟨rfl, hJx3⟩)
      · have hA3 : Boxed W3 A 9 (.string ⟨#[10]⟩) := hk3.1.trans hAr
        have hB3 : Boxed W3 B 9 (.string r) := hk3.2.1.trans hBr
        have hC3 : Boxed W3 C 3 (.int .i64 0) := hk3.2.2.trans hCr
        have cA3 := hA3.cell; have cB3 := hB3.cell; have cC3 := hC3.cell; have fB3 := hB3.frozen
        have hBr' := hBr
        clear hAr hBr hCr cAr cBr cCr fBr
        have w1 : wrap64 ((i : Int) + 1) = i + 1 := by unfold wrap64; omega
        gi_wp2
        have hne : (r.extract (i + 1) r.size).size = r.size - (i + 1) := by
          rw [ByteArray.size_extract]; omega
        refine ⟨⟨pre ++ [r.extract 0 i], r.extract (i + 1) r.size, by rw [hx, e1]; simp, hA3.other hAB _, hB3.set _, hC3.other (Ne.symm hBC) _, hJs _ _ _ hJ3, by omega⟩, ?_⟩
        rw [leftB_eq (hB3.set _), leftB_eq hBr', hne]
        omega
      · gi_wp2
        refine bodyPost_ret (results_none rfl _ _ _) rfl ?_
        exact ⟨⟨_, rfl⟩, .inr ⟨_, hJx3⟩⟩

set_option maxRecDepth 100000 in
theorem splitSeq_in (n : Nat) (s sep : ByteArray) (z : Int) (W : World) : CallsIn Fence.wide n Tryd.prog 87 #[.string s, .string sep, .int .i64 z] W fun e W' =>
    e = .returned (.func (.func 109) #[] #[.pointer (some ⟨W.heap.size + 1, 0, none⟩), .pointer (some ⟨W.heap.size, 0, none⟩), .pointer (some ⟨W.heap.size + 1 + 1, 0, none⟩)]) ∧
    W' = ((W.alloc (.cells #[.string s] 9)).alloc (.cells #[.string sep] 9)).alloc (.cells #[.int .i64 z] 3) := by
  refine callsIn_of_wp Tryd.func87 rfl trivial ?_ rfl
  simp only [Tryd.ntmps87, List.size_toArray, List.length_cons, List.length_nil, Nat.reduceAdd, Nat.reduceSub, Array.replicate_succ, Array.replicate_zero, List.push_toArray, List.append_toArray, List.nil_append, List.cons_append]
  gi_wp2
  go_ret
  exact ⟨rfl, rfl⟩
set_option maxRecDepth 100000 in
theorem SplitSeq_in (n : Nat) (s sep : ByteArray) (W : World) : CallsIn Fence.wide n Tryd.prog 59 #[.string s, .string sep] W fun e W' =>
    e = .returned (.func (.func 109) #[] #[.pointer (some ⟨W.heap.size + 1, 0, none⟩), .pointer (some ⟨W.heap.size, 0, none⟩), .pointer (some ⟨W.heap.size + 1 + 1, 0, none⟩)]) ∧
    W' = ((W.alloc (.cells #[.string s] 9)).alloc (.cells #[.string sep] 9)).alloc (.cells #[.int .i64 0] 3) := by
  refine callsIn_of_wp Tryd.func59 rfl trivial ?_ rfl
  simp only [Tryd.ntmps59, List.size_toArray, List.length_cons, List.length_nil, Nat.reduceAdd, Nat.reduceSub, Array.replicate_succ, Array.replicate_zero, List.push_toArray, List.append_toArray, List.nil_append, List.cons_append]
  gi_wp2_with (refine ⟨trivial, (fun h => by cases h), ?_⟩; gi_at_call 87; refine (splitSeq_in _ s sep 0 W).mono ?_; rintro e w' ⟨rfl, rfl⟩)
  go_ret
  exact ⟨rfl, rfl⟩
end Go.Proofs.YtnkbddljndfpnaaDoorF
