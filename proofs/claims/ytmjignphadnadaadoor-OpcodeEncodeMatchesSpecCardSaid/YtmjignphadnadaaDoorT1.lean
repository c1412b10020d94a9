/- Plain laws of the opcodes, 1: the tables. -/
import Derived.Test.YtmjignphadnadaaDoorL1
import Derived.KernelRfl
set_option linter.unusedVariables false
set_option linter.unusedSimpArgs false
namespace Go.Proofs.YtmjignphadnadaaDoorF
open Go Go.Proofs
set_option maxRecDepth 100000

/-- What stands ahead of the first ':' and behind it. -/
def cutL (l : List UInt8) : List UInt8 × List UInt8 := if Lib.indexByte l 58 ≥ 0 then (l.take (Lib.indexByte l 58).toNat, l.drop ((Lib.indexByte l 58).toNat + 1)) else (l, [])
theorem indexByte_lt : ∀ (l : List UInt8) (c : UInt8), Lib.indexByte l c < l.length
  | [], c => by simp [Lib.indexByte]
  | b :: l, c => by
    have := indexByte_lt l c
    unfold Lib.indexByte
    split
    · simp
    · split
      · simp; omega
      · simp; omega
@[simp] theorem mkB_toList (l : List UInt8) : (mkB l).toList = l := by rw [ByteArray.toList_eq]; rfl
theorem mkB_inj {a b : List UInt8} (h : mkB a = mkB b) : a = b := by
  have := congrArg (fun x => x.data.toList) h
  exact this
theorem s32 {n : Nat} (l : List UInt8) (hn : 0 < n) : p32 n (mkB l) 58 = some (Lib.indexByte l 58) := by
  obtain ⟨n, rfl⟩ : ∃ m, n = m + 1 := ⟨n - 1, by omega⟩
  rfl
theorem s29 {n : Nat} (l : List UInt8) (hn : 2 < n) : p29 n (mkB l) (mkB [58]) = some (Lib.indexByte l 58) := by
  obtain ⟨n, rfl⟩ : ∃ m, n = m + 1 := ⟨n - 1, by omega⟩
  rw [p29]
  simp only [pj]
  rw [if_neg (by simp), mkB_toList, mkB_toList]
  by_cases h : l = [58]
  · subst h
    rfl
  · have : (([58] : List UInt8) == l) = false := by
      rw [beq_eq_false_iff_ne]
      exact fun e => h e.symm
    rw [this]
    simp only [Bool.false_eq_true, if_false]
    rw [if_pos (by simp), show (0 : Int) = ((0 : Nat) : Int) from rfl, idxP_ok (c := 58) rfl]
    show (p32 n (mkB l) 58).bind _ = _
    rw [s32 l (by omega)]
    rfl
theorem s15 {n : Nat} (l : List UInt8) (hl : l.length ≤ 1000000000) (hn : 10 < n) : ∃ b, p15 n (mkB l) (mkB [58]) = some (mkB (cutL l).1, mkB (cutL l).2, b) := by
  obtain ⟨n, rfl⟩ : ∃ m, n = m + 2 := ⟨n - 2, by omega⟩
  rw [p15, p27, s29 l (by omega)]
  simp only [Option.bind_some]
  have hk := indexByte_lt l 58
  unfold cutL
  generalize Lib.indexByte l 58 = k at hk
  by_cases h0 : k ≥ 0
  · rw [if_pos (by simpa using h0), if_pos h0]
    obtain ⟨k, rfl⟩ := Int.eq_ofNat_of_zero_le h0
    have e1 : IntKind.wrap .i64 ((k : Int) + ((mkB [58]).size : Nat)) = ((k + 1 : Nat) : Int) := by rw [mkB_size, wr (by simp; omega) (by simp; omega)]; simp
    rw [show (0 : Int) = ((0 : Nat) : Int) from rfl, subP_ok (by omega) (by omega), e1, show (((mkB l).size : Nat) : Int) = ((l.length : Nat) : Int) by rw [mkB_size], subP_ok (by omega) (by omega)]
    refine ⟨true, ?_⟩
    simp
  · rw [if_neg (by simpa using h0), if_neg h0]
    exact ⟨false, rfl⟩
def cTxt : List UInt8 := [99, 111, 110, 115, 116, 58, 107, 32, 112, 111, 112, 58, 99, 32, 112, 105, 99, 107, 58, 100, 32, 114, 111, 108, 108, 58, 100, 32, 108, 111, 97, 100, 58, 112, 118, 32, 115, 116, 111, 114, 101, 58, 112, 118, 32, 100, 101, 108, 101, 116, 101, 58, 112, 118, 32, 102, 111, 114, 103, 101, 116, 58, 112, 118, 32, 114, 101, 102, 58, 108, 32, 97, 116, 116, 114, 58, 110, 32, 115, 101, 116, 97, 116, 116, 114, 58, 110, 32, 100, 101, 108, 97, 116, 116, 114, 58, 110, 32, 105, 116, 101, 109, 58, 32, 115, 101, 116, 105, 116, 101, 109, 58, 32, 100, 101, 108, 105, 116, 101, 109, 58, 32, 115, 108, 105, 99, 101, 58, 32, 115, 101, 116, 115, 108, 105, 99, 101, 58, 32, 100, 101, 108, 115, 108, 105, 99, 101, 58, 32, 117, 110, 97, 114, 121, 58, 117, 32, 98, 105, 110, 97, 114, 121, 58, 98, 32, 97, 117, 103, 109, 101, 110, 116, 58, 98, 32, 99, 111, 109, 112, 97, 114, 101, 58, 109, 32, 106, 117, 109, 112, 58, 116, 32, 106, 117, 109, 112, 116, 114, 117, 101, 58, 116, 32, 106, 117, 109, 112, 102, 97, 108, 115, 101, 58, 116, 32, 107, 101, 101, 112, 116, 114, 117, 101, 58, 116, 32, 107, 101, 101, 112, 102, 97, 108, 115, 101, 58, 116, 32, 116, 117, 112, 108, 101, 58, 99, 32, 108, 105, 115, 116, 58, 99, 32, 115, 101, 116, 58, 99, 32, 100, 105, 99, 116, 58, 99, 32, 98, 117, 105, 108, 100, 58, 32, 97, 100, 100, 58, 100, 32, 97, 100, 100, 97, 108, 108, 58, 100, 32, 97, 100, 100, 112, 97, 105, 114, 58, 100, 32, 97, 100, 100, 112, 97, 105, 114, 115, 58, 100, 32, 102, 105, 110, 105, 115, 104, 58, 121, 32, 97, 114, 103, 115, 58, 32, 97, 114, 103, 58, 32, 97, 114, 103, 115, 116, 97, 114, 58, 32, 97, 114, 103, 110, 97, 109, 101, 100, 58, 110, 32, 97, 114, 103, 112, 97, 105, 114, 115, 58, 32, 99, 97, 108, 108, 58, 32, 99, 97, 108, 108, 119, 105, 116, 104, 58, 99, 32, 102, 117, 110, 99, 116, 105, 111, 110, 58, 111, 99, 32, 99, 108, 97, 115, 115, 58, 111, 32, 105, 116, 101, 114, 58, 32, 110, 101, 120, 116, 58, 116, 32, 108, 111, 111, 112, 58, 32, 117, 110, 112, 97, 99, 107, 58, 99, 32, 117, 110, 112, 97, 99, 107, 97, 108, 108, 58, 99, 99, 32, 102, 111, 114, 109, 97, 116, 58, 120, 110, 32, 106, 111, 105, 110, 58, 99, 32, 105, 109, 112, 111, 114, 116, 58, 110, 32, 102, 114, 111, 109, 58, 110, 32, 119, 105, 116, 104, 58, 32, 108, 101, 97, 118, 101, 58, 32, 114, 97, 105, 115, 101, 58, 50, 32, 102, 97, 105, 108, 58, 49, 32, 109, 97, 116, 99, 104, 58, 97, 32, 104, 97, 110, 100, 108, 101, 58, 32, 117, 110, 104, 97, 110, 100, 108, 101, 58, 32, 109, 97, 116, 99, 104, 101, 115, 58, 32, 97, 103, 97, 105, 110, 58, 32, 112, 101, 110, 100, 58, 102, 32, 112, 101, 110, 100, 114, 97, 105, 115, 101, 58, 102, 32, 114, 111, 117, 116, 101, 58, 114, 32, 101, 110, 100, 58, 102, 32, 114, 101, 116, 117, 114, 110, 58, 32, 121, 105, 101, 108, 100, 58, 32, 100, 101, 108, 101, 103, 97, 116, 101, 58, 32, 97, 119, 97, 105, 116, 58, 32, 108, 105, 110, 101, 58, 105, 32, 115, 97, 102, 101, 58, 32, 103, 114, 111, 117, 112, 58, 32, 112, 97, 114, 116, 58, 32, 114, 97, 105, 115, 101, 100, 58, 32, 117, 110, 103, 114, 111, 117, 112, 58, 32, 115, 117, 112, 101, 114, 58, 108, 32, 114, 101, 115, 116, 58, 116]
def cW : List (List UInt8) := words cTxt
theorem cTxt_asc : asc cTxt := by
  have h : cTxt.all (fun c => decide (c.toNat < 128)) = true := by kernel_rfl
  intro c hc
  have := List.all_eq_true.1 h c hc
  simpa using this
theorem cTxt_len : cTxt.length = 663 := by kernel_rfl
theorem cW_len : cW.length = 80 := by kernel_rfl
theorem cW_short : ∀ w ∈ cW, w.length ≤ 1000 := by
  have h : cW.all (fun w => decide (w.length ≤ 1000)) = true := by kernel_rfl
  intro w hw
  have := List.all_eq_true.1 h w hw
  simpa using this
def cN : List ByteArray := cW.map fun w => mkB (cutL w).1
def cO : List ByteArray := cW.map fun w => mkB (cutL w).2
theorem s4 {n : Nat} (hn : 1000 < n) : p4 n = some (cN, cO) := by
  obtain ⟨n, rfl⟩ : ∃ m, n = m + 1 := ⟨n - 1, by omega⟩
  have hl := cTxt_len
  have hw := cW_len
  have e1 : p14 n (mkB cTxt) = some (cW.map mkB) := fields_ok cTxt cTxt_asc (by omega) (by omega)
  have e0 : p4 (n + 1) = (p14 n (mkB cTxt)).bind fun r1 => ((loopP (pb4_1 n r1) n (([] : List ByteArray), ([] : List ByteArray), 0)).bind fun t112 => (some ((t112.1, t112.2.1) : ((List ByteArray) × (List ByteArray))))) := rfl
  rw [e0, e1]
  simp only [Option.bind_some]
  rw [loop_to (s0 := (([] : List ByteArray), ([] : List ByteArray), (0 : Int))) (fun i => (cN.take i, cO.take i, (i : Int))) 80 n (cN, cO, 80) (by omega) ?_ ?_ rfl]
  · rfl
  · intro i hi
    have hx := get_of_lt (show i < cW.length by omega)
    have hsh := cW_short _ (List.mem_of_getElem? hx)
    obtain ⟨b, hb⟩ := s15 (n := n) cW[i] (by omega) (by omega)
    have hN : cN[i]? = some (mkB (cutL cW[i]).1) := by rw [cN, List.getElem?_map, hx]; rfl
    have hO : cO[i]? = some (mkB (cutL cW[i]).2) := by rw [cO, List.getElem?_map, hx]; rfl
    unfold pb4_1
    rw [if_pos (by simp [hw]; omega), rd_nat (x := mkB cW[i]) (by rw [List.getElem?_map, hx]; rfl)]
    have e58 : (⟨#[58]⟩ : ByteArray) = mkB [58] := rfl
    rw [e58, hb]
    simp only [Option.bind_some]
    have l1 := List.length_take_le i cN
    have l2 := List.length_take_le i cO
    rw [apP_ok (by simp; omega), apP_ok (by simp; omega), wr (x := (i : Int) + 1) (by omega) (by omega), take_succ hN, take_succ hO]
    rfl
  · unfold pb4_1
    rw [if_neg (by simp [hw])]
    have a1 : cN.length = 80 := by simp [cN, hw]
    have a2 : cO.length = 80 := by simp [cO, hw]
    rw [List.take_of_length_le (by omega), List.take_of_length_le (by omega)]
    rfl
/-! ### The program's table -/
def tab : List (ByteArray × Int × Int) := match p17 1 with | some x => x | none => []
theorem s17 {n : Nat} (hn : 0 < n) : p17 n = some tab := by
  obtain ⟨n, rfl⟩ : ∃ m, n = m + 1 := ⟨n - 1, by omega⟩
  rfl
def opn (x : ByteArray × Int × Int) : Int := if x.2.2 ≠ 0 then 2 else if x.2.1 ≠ 0 then 1 else 0
theorem tab_len : tab.length = 80 := by kernel_rfl
theorem tab_names : tab.map (fun x => x.1.data.toList) = cW.map (fun w => (cutL w).1) := by kernel_rfl
theorem tab_ops : tab.map opn = cW.map (fun w => (((cutL w).2.length : Nat) : Int)) := by kernel_rfl
end Go.Proofs.YtmjignphadnadaaDoorF
