/- The law, plain: the program's names are the document's. -/
import Derived.Test.YtckalckfihhldaaDoorT10
set_option linter.unusedVariables false
set_option linter.unusedSimpArgs false
namespace Go.Proofs.YtckalckfihhldaaDoorF
open Go Go.Proofs
set_option maxRecDepth 100000
set_option maxHeartbeats 4000000

def tree2 : List UInt8 := [111, 98, 106, 101, 99, 116, 32, 99, 108, 97, 115, 115, 58, 111, 98, 106, 101, 99, 116, 32, 110, 105, 108, 95, 116, 121, 112, 101, 58, 111, 98, 106, 101, 99, 116, 32, 98, 111, 111, 108, 58, 111, 98, 106, 101, 99, 116, 32, 105, 110, 116, 58, 111, 98, 106, 101, 99, 116, 32, 114, 97, 116, 105, 111, 58, 111, 98, 106, 101, 99, 116, 32, 116, 101, 120, 116, 58, 111, 98, 106, 101, 99, 116, 32, 98, 121, 116, 101, 115, 58, 111, 98, 106, 101, 99, 116, 32, 116, 117, 112, 108, 101, 58, 111, 98, 106, 101, 99, 116, 32, 108, 105, 115, 116, 58, 111, 98, 106, 101, 99, 116, 32, 100, 105, 99, 116, 58, 111, 98, 106, 101, 99, 116, 32, 115, 101, 116, 58, 111, 98, 106, 101, 99, 116, 32, 114, 97, 110, 103, 101, 58, 111, 98, 106, 101, 99, 116, 32, 99, 101, 108, 108, 58, 111, 98, 106, 101, 99, 116, 32, 102, 117, 110, 99, 116, 105, 111, 110, 58, 111, 98, 106, 101, 99, 116, 32, 98, 117, 105, 108, 116, 105, 110, 58, 111, 98, 106, 101, 99, 116, 32, 109, 101, 116, 104, 111, 100, 58, 111, 98, 106, 101, 99, 116, 32, 109, 111, 100, 117, 108, 101, 58, 111, 98, 106, 101, 99, 116, 32, 112, 114, 111, 112, 101, 114, 116, 121, 58, 111, 98, 106, 101, 99, 116, 32, 115, 116, 97, 116, 105, 99, 58, 111, 98, 106, 101, 99, 116, 32, 99, 108, 97, 115, 115, 95, 109, 101, 116, 104, 111, 100, 58, 111, 98, 106, 101, 99, 116, 32, 115, 117, 112, 101, 114, 95, 116, 121, 112, 101, 58, 111, 98, 106, 101, 99, 116, 32, 105, 116, 101, 114, 97, 116, 111, 114, 58, 111, 98, 106, 101, 99, 116, 32, 103, 101, 110, 101, 114, 97, 116, 111, 114, 58, 111, 98, 106, 101, 99, 116, 32, 119, 101, 97, 107, 58, 111, 98, 106, 101, 99, 116, 32, 116, 97, 115, 107, 58, 111, 98, 106, 101, 99, 116, 32, 116, 105, 109, 101, 114, 58, 111, 98, 106, 101, 99, 116, 32, 112, 97, 115, 115, 95, 116, 121, 112, 101, 58, 111, 98, 106, 101, 99, 116, 32, 82, 97, 105, 115, 101, 100, 58, 111, 98, 106, 101, 99, 116, 32, 69, 120, 105, 116, 58, 82, 97, 105, 115, 101, 100, 32, 67, 97, 110, 99, 101, 108, 58, 82, 97, 105, 115, 101, 100, 32, 69, 114, 114, 111, 114, 58, 82, 97, 105, 115, 101, 100, 32, 84, 121, 112, 101, 69, 114, 114, 111, 114, 58, 69, 114, 114, 111, 114, 32, 86, 97, 108, 117, 101, 69, 114, 114, 111, 114, 58, 69, 114, 114, 111, 114, 32, 78, 97, 109, 101, 69, 114, 114, 111, 114, 58, 69, 114, 114, 111, 114, 32, 85, 110, 98, 111, 117, 110, 100, 69, 114, 114, 111, 114, 58, 78, 97, 109, 101, 69, 114, 114, 111, 114, 32, 65, 116, 116, 114, 105, 98, 117, 116, 101, 69, 114, 114, 111, 114, 58, 69, 114, 114, 111, 114, 32, 76, 111, 111, 107, 117, 112, 69, 114, 114, 111, 114, 58, 69, 114, 114, 111, 114, 32, 73, 110, 100, 101, 120, 69, 114, 114, 111, 114, 58, 76, 111, 111, 107, 117, 112, 69, 114, 114, 111, 114, 32, 75, 101, 121, 69, 114, 114, 111, 114, 58, 76, 111, 111, 107, 117, 112, 69, 114, 114, 111, 114, 32, 65, 114, 105, 116, 104, 109, 101, 116, 105, 99, 69, 114, 114, 111, 114, 58, 69, 114, 114, 111, 114, 32, 68, 105, 118, 105, 115, 105, 111, 110, 69, 114, 114, 111, 114, 58, 65, 114, 105, 116, 104, 109, 101, 116, 105, 99, 69, 114, 114, 111, 114, 32, 76, 105, 109, 105, 116, 69, 114, 114, 111, 114, 58, 69, 114, 114, 111, 114, 32, 82, 101, 99, 117, 114, 115, 105, 111, 110, 69, 114, 114, 111, 114, 58, 76, 105, 109, 105, 116, 69, 114, 114, 111, 114, 32, 65, 115, 115, 101, 114, 116, 105, 111, 110, 69, 114, 114, 111, 114, 58, 69, 114, 114, 111, 114, 32, 73, 109, 112, 111, 114, 116, 69, 114, 114, 111, 114, 58, 69, 114, 114, 111, 114, 32, 83, 116, 111, 112, 69, 114, 114, 111, 114, 58, 69, 114, 114, 111, 114, 32, 83, 116, 97, 116, 101, 69, 114, 114, 111, 114, 58, 69, 114, 114, 111, 114, 32, 71, 114, 111, 117, 112, 69, 114, 114, 111, 114, 58, 69, 114, 114, 111, 114]
def tree2w : List (List UInt8) := [[111, 98, 106, 101, 99, 116], [99, 108, 97, 115, 115, 58, 111, 98, 106, 101, 99, 116], [110, 105, 108, 95, 116, 121, 112, 101, 58, 111, 98, 106, 101, 99, 116], [98, 111, 111, 108, 58, 111, 98, 106, 101, 99, 116], [105, 110, 116, 58, 111, 98, 106, 101, 99, 116], [114, 97, 116, 105, 111, 58, 111, 98, 106, 101, 99, 116], [116, 101, 120, 116, 58, 111, 98, 106, 101, 99, 116], [98, 121, 116, 101, 115, 58, 111, 98, 106, 101, 99, 116], [116, 117, 112, 108, 101, 58, 111, 98, 106, 101, 99, 116], [108, 105, 115, 116, 58, 111, 98, 106, 101, 99, 116], [100, 105, 99, 116, 58, 111, 98, 106, 101, 99, 116], [115, 101, 116, 58, 111, 98, 106, 101, 99, 116], [114, 97, 110, 103, 101, 58, 111, 98, 106, 101, 99, 116], [99, 101, 108, 108, 58, 111, 98, 106, 101, 99, 116], [102, 117, 110, 99, 116, 105, 111, 110, 58, 111, 98, 106, 101, 99, 116], [98, 117, 105, 108, 116, 105, 110, 58, 111, 98, 106, 101, 99, 116], [109, 101, 116, 104, 111, 100, 58, 111, 98, 106, 101, 99, 116], [109, 111, 100, 117, 108, 101, 58, 111, 98, 106, 101, 99, 116], [112, 114, 111, 112, 101, 114, 116, 121, 58, 111, 98, 106, 101, 99, 116], [115, 116, 97, 116, 105, 99, 58, 111, 98, 106, 101, 99, 116], [99, 108, 97, 115, 115, 95, 109, 101, 116, 104, 111, 100, 58, 111, 98, 106, 101, 99, 116], [115, 117, 112, 101, 114, 95, 116, 121, 112, 101, 58, 111, 98, 106, 101, 99, 116], [105, 116, 101, 114, 97, 116, 111, 114, 58, 111, 98, 106, 101, 99, 116], [103, 101, 110, 101, 114, 97, 116, 111, 114, 58, 111, 98, 106, 101, 99, 116], [119, 101, 97, 107, 58, 111, 98, 106, 101, 99, 116], [116, 97, 115, 107, 58, 111, 98, 106, 101, 99, 116], [116, 105, 109, 101, 114, 58, 111, 98, 106, 101, 99, 116], [112, 97, 115, 115, 95, 116, 121, 112, 101, 58, 111, 98, 106, 101, 99, 116], [82, 97, 105, 115, 101, 100, 58, 111, 98, 106, 101, 99, 116], [69, 120, 105, 116, 58, 82, 97, 105, 115, 101, 100], [67, 97, 110, 99, 101, 108, 58, 82, 97, 105, 115, 101, 100], [69, 114, 114, 111, 114, 58, 82, 97, 105, 115, 101, 100], [84, 121, 112, 101, 69, 114, 114, 111, 114, 58, 69, 114, 114, 111, 114], [86, 97, 108, 117, 101, 69, 114, 114, 111, 114, 58, 69, 114, 114, 111, 114], [78, 97, 109, 101, 69, 114, 114, 111, 114, 58, 69, 114, 114, 111, 114], [85, 110, 98, 111, 117, 110, 100, 69, 114, 114, 111, 114, 58, 78, 97, 109, 101, 69, 114, 114, 111, 114], [65, 116, 116, 114, 105, 98, 117, 116, 101, 69, 114, 114, 111, 114, 58, 69, 114, 114, 111, 114], [76, 111, 111, 107, 117, 112, 69, 114, 114, 111, 114, 58, 69, 114, 114, 111, 114], [73, 110, 100, 101, 120, 69, 114, 114, 111, 114, 58, 76, 111, 111, 107, 117, 112, 69, 114, 114, 111, 114], [75, 101, 121, 69, 114, 114, 111, 114, 58, 76, 111, 111, 107, 117, 112, 69, 114, 114, 111, 114], [65, 114, 105, 116, 104, 109, 101, 116, 105, 99, 69, 114, 114, 111, 114, 58, 69, 114, 114, 111, 114], [68, 105, 118, 105, 115, 105, 111, 110, 69, 114, 114, 111, 114, 58, 65, 114, 105, 116, 104, 109, 101, 116, 105, 99, 69, 114, 114, 111, 114], [76, 105, 109, 105, 116, 69, 114, 114, 111, 114, 58, 69, 114, 114, 111, 114], [82, 101, 99, 117, 114, 115, 105, 111, 110, 69, 114, 114, 111, 114, 58, 76, 105, 109, 105, 116, 69, 114, 114, 111, 114], [65, 115, 115, 101, 114, 116, 105, 111, 110, 69, 114, 114, 111, 114, 58, 69, 114, 114, 111, 114], [73, 109, 112, 111, 114, 116, 69, 114, 114, 111, 114, 58, 69, 114, 114, 111, 114], [83, 116, 111, 112, 69, 114, 114, 111, 114, 58, 69, 114, 114, 111, 114], [83, 116, 97, 116, 101, 69, 114, 114, 111, 114, 58, 69, 114, 114, 111, 114], [71, 114, 111, 117, 112, 69, 114, 114, 111, 114, 58, 69, 114, 114, 111, 114]]
theorem tree2_asc : asc tree2 := by unfold asc; decide +kernel
theorem tree2_size : tree2.length = 775 := by decide +kernel
theorem tree2_words : words tree2 = tree2w := by decide +kernel
abbrev Val := Int × (Bool × List Int) × (Bool × List Int) × ByteArray × Int
def t2names : List (List UInt8) := tree2w.map (headAt 58)
theorem t2names_eq : t2names = classes := by decide +kernel
theorem t2_len : tree2w.length = 49 := rfl
theorem t2_short : ∀ w ∈ tree2w, w.length ≤ 1000 := by decide +kernel
theorem t2_base : ((List.range 49).all fun i => match tree2w[i]? with | some w => !(w.contains 58) || (t2names.take i).contains (w.drop ((headAt 58 w).length + 1)) | none => true) = true := by decide +kernel
theorem t2_base' {i : Nat} {w : List UInt8} (h : tree2w[i]? = some w) (hi : i < 49) {x r : List UInt8} (e : w = x ++ 58 :: r) (hx : (58 : UInt8) ∉ x) : r ∈ t2names.take i := by
  have := List.all_eq_true.1 t2_base i (by simpa using hi)
  rw [h] at this
  simp only [Bool.or_eq_true, Bool.not_eq_true'] at this
  have hh : headAt 58 w = x := by rw [e]; exact headAt_some hx
  rcases this with h1 | h1
  · rw [e] at h1; simp at h1
  · rw [hh, e] at h1
    simpa using h1
theorem p33_loop : ∃ t, loopP (pb33_1 3996 (tree2w.map mkB)) 3996 ([], [], 0) = some t ∧ t.1.map (fun o => o.2.1.data.toList) = classes := by
  have hlen := t2_len
  obtain ⟨ls, els⟩ : ∃ ls, ls = tree2w := ⟨_, rfl⟩
  have hsl : ∀ x ∈ ls, x.length ≤ 1000 := by rw [els]; exact t2_short
  have hb : ∀ {i : Nat} {w : List UInt8}, ls[i]? = some w → i < 49 → ∀ {x r : List UInt8}, w = x ++ 58 :: r → (58 : UInt8) ∉ x → r ∈ t2names.take i := by rw [els]; exact t2_base'
  have hh : t2names = ls.map (headAt 58) := by rw [els]; rfl
  rw [← els] at hlen ⊢
  have hhl : t2names.length = ls.length := by rw [hh, List.length_map]
  refine loop_inv (body := pb33_1 3996 (ls.map mkB)) (fun t => ∃ i : Nat, t.2.2 = (i : Int) ∧ i ≤ ls.length ∧ t.2.1 = (t2names.take i).map mkB ∧ t.1.map (fun o => o.2.1.data.toList) = t2names.take i ∧ ∀ o ∈ t.1, o.2.2.2.2.1.length ≤ i) (fun t => ls.length - t.2.2.toNat)
    (fun t => t.1.map (fun o => o.2.1.data.toList) = classes)
    (fun t ⟨i, e, h1, h2, h3, h4⟩ => by
      obtain ⟨a, b, c⟩ := t
      dsimp only at e h2 h3 h4
      subst e
      unfold pb33_1
      dsimp only
      by_cases hi : i < ls.length
      · left
        have hw : IntKind.wrap .i64 ((i : Int) + 1) = ((i + 1 : Nat) : Int) := by rw [wr (by omega) (by omega)]; simp
        have hgi : t2names[i]? = some (headAt 58 ls[i]) := by rw [hh, List.getElem?_map, get_of_lt hi]; rfl
        have hal : a.length = i := by have := congrArg List.length h3; rw [List.length_map, List.length_take] at this; omega
        have hbl : b.length = i := by rw [h2, List.length_map, List.length_take]; omega
        have fin : ∀ (nm : List UInt8) (y : List Int) (z : List Int), headAt 58 ls[i] = nm → z.length ≤ i + 1 → ∃ s' : List (Int × ByteArray × Int × (List Int) × (List Int) × (List ByteArray) × (List (Int × (Bool × (List Int)) × (Bool × (List Int)) × ByteArray × Int)) × (List (Int × (Bool × (List Int)) × (Bool × (List Int)) × ByteArray × Int)) × Int × Int) × List ByteArray × Int,
            (apP 16 b [mkB nm] fun _ => apP 168 a [(9, mkB nm, 0, y, z, ([] : List ByteArray), ([] : List Val), ([] : List Val), 0, 0)] fun _ => some (Sum.inl (a ++ [(9, mkB nm, 0, y, z, ([] : List ByteArray), ([] : List Val), ([] : List Val), 0, 0)], b ++ [mkB nm], IntKind.wrap .i64 ((i : Int) + 1)))) = some (Sum.inl s' : _ ⊕ (List (Int × ByteArray × Int × (List Int) × (List Int) × (List ByteArray) × (List (Int × (Bool × (List Int)) × (Bool × (List Int)) × ByteArray × Int)) × (List (Int × (Bool × (List Int)) × (Bool × (List Int)) × ByteArray × Int)) × Int × Int) × List ByteArray × Int)) ∧
            (∃ j : Nat, s'.2.2 = (j : Int) ∧ j ≤ ls.length ∧ s'.2.1 = (t2names.take j).map mkB ∧ s'.1.map (fun o => o.2.1.data.toList) = t2names.take j ∧ ∀ o ∈ s'.1, o.2.2.2.2.1.length ≤ j) ∧ ls.length - s'.2.2.toNat < ls.length - ((i : Int)).toNat := fun nm y z en hz => by
          rw [apP_ok (by simp only [List.length_cons, List.length_nil]; omega), apP_ok (by simp only [List.length_cons, List.length_nil]; omega)]
          refine ⟨_, rfl, ⟨i + 1, by dsimp only; rw [hw], by omega, ?_, ?_, fun o ho => ?_⟩, by dsimp only; rw [hw]; omega⟩
          · dsimp only
            rw [take_succ hgi, List.map_append, h2, en]
            rfl
          · dsimp only
            rw [take_succ hgi, List.map_append, h3, en]
            rfl
          · rcases List.mem_append.1 ho with ho | ho
            · have := h4 o ho; omega
            · rw [List.mem_singleton.1 ho]
              exact hz
        rw [if_pos (by simpa using hi)]
        simp only [pj]
        rw [rd_nat (x := mkB ls[i]) (by rw [List.getElem?_map, get_of_lt hi]; rfl), show (⟨#[58]⟩ : ByteArray) = mkB [58] from rfl]
        rcases p23_ok (n := 3996) (by omega) ls[i] 58 (by have := hsl ls[i] (List.getElem_mem hi); omega) with ⟨hx, e⟩ | ⟨x, r, e1, hx, e⟩
        · rw [e, Option.bind_some, if_neg (by simp)]
          exact fin ls[i] _ _ (headAt_none hx) (by simp)
        · rw [e, Option.bind_some, if_pos rfl]
          have hm := hb (get_of_lt hi) (by omega) e1 hx
          have hm2 : mkB r ∈ b := by rw [h2]; exact List.mem_map_of_mem hm
          rcases p30_ok (n := 3996) b (mkB r) (by omega) (by omega) with ⟨k1, k2⟩ | ⟨k, k1, k2⟩
          · exact absurd hm2 k1
          · have hk : k < a.length := by
              have := (List.getElem?_eq_some_iff.1 k1).1
              omega
            have hko := h4 a[k] (List.getElem_mem hk)
            rw [k2, Option.bind_some, rd_nat (get_of_lt hk), apP_ok (by simp only [List.length_cons, List.length_nil]; omega)]
            exact fin x _ _ (by rw [e1]; exact headAt_some hx) (by simp; omega)
      · right
        obtain rfl : i = ls.length := by omega
        rw [if_neg (by simp)]
        refine ⟨_, rfl, ?_⟩
        dsimp only
        rw [h3, ← hhl, List.take_length, t2names_eq]) 3996 ([], [], 0) ⟨0, rfl, Nat.zero_le _, rfl, rfl, fun o ho => by cases ho⟩ (by dsimp only; omega)
theorem p33_ok : ∃ os, p33 3997 = some os ∧ os.map (fun o => o.2.1.data.toList) = classes := by
  have hf : p42 3996 (mkB tree2) = some (tree2w.map mkB) := by
    rw [fields_ok tree2 tree2_asc (by rw [tree2_size]; omega) (by rw [tree2_size]; omega), tree2_words]
  obtain ⟨t, h1, h2⟩ := p33_loop
  refine ⟨t.1, ?_, h2⟩
  rw [p33]
  refine Eq.trans (b := (p42 3996 (mkB tree2)).bind _) rfl ?_
  rw [hf, Option.bind_some, h1]
  rfl
def vCls (i : Nat) : Val × Bool := ((6, (false, []), (false, []), ByteArray.empty, (i : Int)), true)
def vPass : Val × Bool := ((8, (false, []), (false, []), ByteArray.empty, 0), true)
def vBlt (name : List UInt8) : Val × Bool := ((7, (false, []), (false, []), mkB name, 0), true)
def vNo : Val × Bool := ((0, (false, []), (false, []), ByteArray.empty, 0), false)
def pass : List UInt8 := [112, 97, 115, 115, 95]
def rest (name : List UInt8) : Val × Bool := if name = pass then vPass else if name ∈ sigHeads ∧ (46 : UInt8) ∉ name then vBlt name else vNo
theorem heads_sig : ∀ x ∈ hdrHeads, (46 : UInt8) ∉ x → x ∈ sigHeads := by decide +kernel
theorem sig_heads : ∀ x ∈ sigHeads, x ∈ hdrHeads := by decide +kernel
theorem classes_inj : ∀ i, i < 49 → ∀ j, j < 49 → classes[i]? = classes[j]? → i = j := by decide +kernel
theorem classes_len : classes.length = 49 := rfl

theorem p4_ok (name : List UInt8) : (∃ i : Nat, classes[i]? = some name ∧ p4 3999 (mkB name) = some (vCls i)) ∨ (name ∉ classes ∧ p4 3999 (mkB name) = some (rest name)) := by
  rcases p15_ok name with ⟨hc, e⟩ | ⟨i, hi, e⟩
  · refine .inr ⟨hc, ?_⟩
    rw [p4, e, Option.bind_some, if_neg (by simp)]
    unfold rest
    by_cases hp : name = pass
    · rw [if_pos hp, if_pos (by rw [toList_mkB, hp, show (⟨#[112, 97, 115, 115, 95]⟩ : ByteArray) = mkB pass from rfl, toList_mkB]; simp)]
      rfl
    · rw [if_neg hp, if_neg (by rw [toList_mkB, show (⟨#[112, 97, 115, 115, 95]⟩ : ByteArray) = mkB pass from rfl, toList_mkB]; simpa using hp)]
      rcases p17_ok name with ⟨h1, r, e1⟩ | ⟨h1, r, e1⟩
      · rw [e1, Option.bind_some, if_neg (fun h => h1 h.1)]
        rfl
      · rw [e1, Option.bind_some]
        simp only [pj, if_true]
        rw [show (⟨#[46]⟩ : ByteArray) = mkB [46] from rfl, p18_dot (by omega), Option.bind_some]
        by_cases hd : (46 : UInt8) ∈ name
        · rw [if_neg (by simp [hd]), if_neg (fun h => h.2 hd)]
          rfl
        · rw [if_pos (by simp [hd]), if_pos ⟨h1, hd⟩]
          rfl
  · refine .inl ⟨i, hi, ?_⟩
    rw [p4, e, Option.bind_some, if_pos rfl]
    rfl
theorem p19_ok (name : List UInt8) (hl : name.length ≤ 2305843009213693952) : (∃ i : Nat, classes[i]? = some name ∧ p19 3998 (mkB name) = some (vCls i)) ∨ (name ∉ classes ∧ p19 3998 (mkB name) = some (rest name)) := by
  obtain ⟨os, e0, hn⟩ := p33_ok
  have hlen : os.length = 49 := by
    have := congrArg List.length hn
    rw [List.length_map] at this
    exact this
  have hget : ∀ i (h : i < os.length), classes[i]? = some (os[i].2.1.data.toList) := fun i h => by rw [← hn, List.getElem?_map, get_of_lt h]; rfl
  obtain ⟨t, et, q⟩ := loop_inv (body := pb19_1 3997 (mkB name) os) (fun t => ∃ i : Nat, t = (i : Int) ∧ i ≤ os.length ∧ ∀ k, k < i → classes[k]? ≠ some name) (fun t => os.length - t.toNat)
    (fun t => (∃ y, t = .inl y ∧ name ∉ classes) ∨ ∃ i : Nat, t = .inr (6, false, [], false, [], ByteArray.empty, (i : Int)) ∧ classes[i]? = some name)
    (fun t ⟨i, e, h1, h2⟩ => by
      subst e
      unfold pb19_1
      by_cases hi : i < os.length
      · rw [if_pos (by simpa using hi), rd_nat (get_of_lt hi), toList_mkB, ByteArray.toList_eq]
        by_cases he : os[i].2.1.data.toList = name
        · right
          rw [if_pos (by rw [beq_iff_eq]; exact he)]
          exact ⟨_, rfl, .inr ⟨i, rfl, by rw [hget i hi, he]⟩⟩
        · left
          rw [if_neg (by rw [beq_iff_eq]; exact he)]
          refine ⟨_, rfl, ⟨i + 1, by rw [wr (by omega) (by omega)]; simp, by omega, fun k hk => ?_⟩, by rw [wr (by omega) (by omega)]; omega⟩
          rcases Nat.lt_or_ge k i with h | h
          · exact h2 k h
          · obtain rfl : k = i := by omega
            rw [hget k hi]
            exact fun h => he (Option.some.inj h)
      · right
        rw [if_neg (by simpa using hi)]
        refine ⟨_, rfl, .inl ⟨_, rfl, fun hm => ?_⟩⟩
        obtain ⟨k, hk, e⟩ := List.getElem_of_mem hm
        have hk2 : k < os.length := by
          have : classes.length = 49 := rfl
          omega
        exact h2 k (by omega) (by rw [get_of_lt hk, e])) 3997 0 ⟨0, rfl, Nat.zero_le _, fun k hk => by omega⟩ (by omega)
  rcases q with ⟨y, rfl, hc⟩ | ⟨i, rfl, h⟩
  · refine .inr ⟨hc, ?_⟩
    rw [p19, e0, Option.bind_some, et, Option.bind_some]
    dsimp only
    unfold rest
    by_cases hp : name = pass
    · rw [if_pos hp, if_pos (by rw [toList_mkB, hp, show (⟨#[112, 97, 115, 115, 95]⟩ : ByteArray) = mkB pass from rfl, toList_mkB]; simp)]
      rfl
    · rw [if_neg hp, if_neg (by rw [toList_mkB, show (⟨#[112, 97, 115, 115, 95]⟩ : ByteArray) = mkB pass from rfl, toList_mkB]; simpa using hp)]
      obtain ⟨a, b, e1⟩ := p35_ok name hl
      rw [e1, Option.bind_some]
      simp only [pj]
      by_cases hm : name ∈ hdrHeads
      · rw [if_neg (by simp [hm]), show (⟨#[46]⟩ : ByteArray) = mkB [46] from rfl, p18_dot (by omega), Option.bind_some]
        by_cases hd : (46 : UInt8) ∈ name
        · rw [if_pos (by simp [hd]), if_neg (fun h => h.2 hd)]
          rfl
        · rw [if_neg (by simp [hd]), if_pos ⟨heads_sig name hm hd, hd⟩]
          rfl
      · rw [if_pos (by simp [hm]), if_pos trivial, if_neg (fun h => hm (sig_heads name h.1))]
        rfl
  · refine .inl ⟨i, h, ?_⟩
    rw [p19, e0, Option.bind_some, et]
    rfl
theorem p5_ok (name : List UInt8) {v : Val × Bool} (h : p19 3998 (mkB name) = some v) : p5 3999 (mkB name) = some v := by
  rw [p5, h]
  rfl
theorem p7_ok (l : List ByteArray) (hl : l.length ≤ 3000) : p7 3999 l l = some true := by
  have e : p21 3998 l l = some true := by
    have h := eq_loop (body := pb21_1 3997 l l) l l 3997 rfl (by omega) (fun i x y h1 h2 => by
      rw [h1] at h2
      injection h2 with h2
      subst h2
      have hi := (List.getElem?_eq_some_iff.1 h1).1
      unfold pb21_1
      rw [if_pos (by simpa using hi), rd_nat h1, rd_nat h1, if_neg (by simp), wr (by omega) (by omega), if_pos rfl]
      rfl) (by
      unfold pb21_1
      rw [if_neg (by simp)])
    rw [p21, if_neg (by simp), h, if_pos rfl]
    rfl
  rw [p7, e]
  rfl
theorem p6_ok (k r : Int) (t : ByteArray) : p6 3999 (k, (false, []), (false, []), t, r) (k, (false, []), (false, []), t, r) = some true := by
  have e : p20 3998 (false, []) (false, []) = some true := by kernel_rfl
  rw [p6]
  simp only [pj]
  rw [if_pos (by simp), if_pos (by simp), if_pos (by simp), e, Option.bind_some, if_pos rfl, Option.bind_some]
theorem blts_no {name : List UInt8} (h : name ∈ classes ∨ name = pass ∨ name ∉ sigHeads ∨ (46 : UInt8) ∈ name) : name ∉ blts := by
  unfold blts
  intro hm
  obtain ⟨h1, h2⟩ := List.mem_filter.1 hm
  simp only [Bool.and_eq_true, decide_eq_true_eq] at h2
  rcases h with h | h | h | h
  · exact h2.1 h
  · have : pass ∉ sigHeads := by decide +kernel
    exact this (h ▸ h1)
  · exact h h1
  · exact h2.2 h
/-- Both answer alike. -/
theorem law_of (name : List UInt8) (hl : name.length ≤ 2305843009213693952) (k r : Int) (t : ByteArray) (ok : Bool) (h4 : p4 3999 (mkB name) = some ((k, (false, []), (false, []), t, r), ok)) (h5 : p5 3999 (mkB name) = some ((k, (false, []), (false, []), t, r), ok))
    (hk : decide (name ∈ blts) = (ok && decide (k = 7))) : p3 4000 (mkB name) = some true := by
  have hfl : (libHeads.filterMap (under name)).length ≤ 200 := Nat.le_trans (List.length_filterMap_le _ _) (by decide +kernel)
  rw [p3, h4, Option.bind_some, h5, Option.bind_some]
  simp only [pj]
  rw [if_neg (by simp), p6_ok, Option.bind_some, if_neg (by simp), p8_ok name (by omega), Option.bind_some, p9_ok name (by omega), Option.bind_some, p7_ok _ (by rw [List.length_map]; omega), Option.bind_some, if_neg (by simp),
    p10_ok, Option.bind_some, p11_ok name (by omega), Option.bind_some, if_neg (by simp), p12_ok, Option.bind_some, p13_blts, Option.bind_some, if_pos rfl, p14_blts, Option.bind_some, hk]
  cases ok
  · rfl
  · by_cases h : k = 7 <;> simp [h]
theorem law (name : List UInt8) (hl : name.length ≤ 2305843009213693952) : p3 4000 (mkB name) = some true := by
  rcases p4_ok name with ⟨i, hi, e4⟩ | ⟨hc, e4⟩
  · rcases p19_ok name hl with ⟨j, hj, e5⟩ | ⟨hc, -⟩
    · have hij : i = j := classes_inj i (by have := (List.getElem?_eq_some_iff.1 hi).1; rw [classes_len] at this; exact this) j (by have := (List.getElem?_eq_some_iff.1 hj).1; rw [classes_len] at this; exact this) (hi.trans hj.symm)
      subst hij
      refine law_of name hl _ _ _ _ e4 (p5_ok name e5) ?_
      rw [decide_eq_false (blts_no (.inl (List.mem_of_getElem? hi)))]
      rfl
    · exact absurd (List.mem_of_getElem? hi) hc
  · rcases p19_ok name hl with ⟨j, hj, e5⟩ | ⟨-, e5⟩
    · exact absurd (List.mem_of_getElem? hj) hc
    · have e5 := p5_ok name e5
      unfold rest at e4 e5
      by_cases hp : name = pass
      · rw [if_pos hp] at e4 e5
        refine law_of name hl _ _ _ _ e4 e5 ?_
        rw [decide_eq_false (blts_no (.inr (.inl hp)))]
        rfl
      · rw [if_neg hp] at e4 e5
        by_cases hs : name ∈ sigHeads ∧ (46 : UInt8) ∉ name
        · rw [if_pos hs] at e4 e5
          refine law_of name hl _ _ _ _ e4 e5 ?_
          have : name ∈ blts := List.mem_filter.2 ⟨hs.1, by simp [hc, hs.2]⟩
          rw [decide_eq_true this]
          rfl
        · rw [if_neg hs] at e4 e5
          refine law_of name hl _ _ _ _ e4 e5 ?_
          have : name ∉ blts := by
            by_cases h1 : name ∈ sigHeads
            · exact blts_no (.inr (.inr (.inr (Classical.not_not.1 fun h2 => hs ⟨h1, h2⟩))))
            · exact blts_no (.inr (.inr (.inl h1)))
          rw [decide_eq_false this]
          rfl
end Go.Proofs.YtckalckfihhldaaDoorF
