/- The functions of library modules, as the document has them. -/
import Derived.Test.YtckalckfihhldaaDoorT6
import Derived.Test.YtckalckfihhldaaDoorL1
set_option linter.unusedVariables false
set_option linter.unusedSimpArgs false
namespace Go.Proofs.YtckalckfihhldaaDoorF
open Go Go.Proofs
set_option maxRecDepth 100000
set_option maxHeartbeats 4000000

def hdr : List UInt8 := [97, 98, 115, 40, 118, 41, 32, 97, 108, 108, 40, 118, 41, 32, 97, 110, 121, 40, 118, 41, 32, 97, 98, 115, 116, 114, 97, 99, 116, 40, 102, 41, 32, 99, 104, 114, 40, 110, 41, 32, 99, 111, 108, 108, 101, 99, 116, 40, 41, 32, 100, 101, 114, 105, 118, 101, 115, 40, 99, 44, 100, 41, 32, 100, 105, 118, 109, 111, 100, 40, 97, 44, 98, 41, 32, 100, 114, 111, 112, 40, 118, 44, 110, 97, 109, 101, 41, 32, 101, 110, 117, 109, 101, 114, 97, 116, 101, 40, 118, 44, 115, 116, 97, 114, 116, 61, 48, 41, 32, 103, 101, 116, 40, 118, 44, 110, 97, 109, 101, 44, 100, 101, 102, 97, 117, 108, 116, 61, 63, 41, 32, 104, 97, 115, 40, 118, 44, 110, 97, 109, 101, 41, 32, 105, 115, 95, 97, 40, 118, 44, 99, 41, 32, 105, 116, 101, 114, 40, 118, 41, 32, 108, 101, 110, 40, 118, 41, 32, 109, 97, 120, 40, 42, 118, 97, 108, 117, 101, 115, 44, 107, 101, 121, 61, 45, 41, 32, 109, 105, 110, 40, 42, 118, 97, 108, 117, 101, 115, 44, 107, 101, 121, 61, 45, 41, 32, 110, 97, 109, 101, 115, 40, 118, 41, 32, 110, 101, 120, 116, 40, 105, 116, 44, 100, 101, 102, 97, 117, 108, 116, 61, 63, 41, 32, 110, 111, 119, 40, 41, 32, 111, 114, 100, 40, 115, 41, 32, 112, 114, 105, 110, 116, 40, 42, 118, 97, 108, 117, 101, 115, 44, 115, 101, 112, 61, 95, 44, 101, 110, 100, 61, 47, 41, 32, 112, 117, 116, 40, 118, 44, 110, 97, 109, 101, 44, 119, 41, 32, 114, 97, 110, 103, 101, 40, 97, 44, 98, 61, 63, 44, 99, 61, 49, 41, 32, 114, 101, 108, 111, 97, 100, 40, 109, 41, 32, 114, 101, 112, 114, 40, 118, 41, 32, 114, 101, 118, 101, 114, 115, 101, 100, 40, 118, 41, 32, 114, 111, 117, 110, 100, 40, 118, 44, 100, 105, 103, 105, 116, 115, 61, 48, 41, 32, 114, 117, 110, 40, 99, 41, 32, 115, 108, 101, 101, 112, 40, 110, 41, 32, 115, 111, 114, 116, 101, 100, 40, 118, 44, 107, 101, 121, 61, 45, 44, 114, 101, 118, 101, 114, 115, 101, 61, 33, 41, 32, 115, 112, 97, 119, 110, 40, 99, 41, 32, 115, 117, 109, 40, 118, 44, 115, 116, 97, 114, 116, 61, 48, 41, 32, 122, 105, 112, 40, 42, 118, 97, 108, 117, 101, 115, 41, 32, 99, 108, 97, 115, 115, 40, 118, 41, 32, 98, 111, 111, 108, 40, 118, 61, 33, 41, 32, 105, 110, 116, 40, 118, 61, 48, 44, 98, 97, 115, 101, 61, 49, 48, 41, 32, 114, 97, 116, 105, 111, 40, 118, 41, 32, 116, 101, 120, 116, 40, 118, 61, 35, 41, 32, 98, 121, 116, 101, 115, 40, 118, 61, 63, 41, 32, 116, 117, 112, 108, 101, 40, 118, 61, 63, 41, 32, 108, 105, 115, 116, 40, 118, 61, 63, 41, 32, 115, 101, 116, 40, 118, 61, 63, 41, 32, 100, 105, 99, 116, 40, 118, 61, 63, 41, 32, 112, 114, 111, 112, 101, 114, 116, 121, 40, 103, 101, 116, 116, 101, 114, 44, 115, 101, 116, 116, 101, 114, 61, 45, 44, 100, 101, 108, 101, 116, 101, 114, 61, 45, 41, 32, 115, 116, 97, 116, 105, 99, 40, 102, 41, 32, 99, 108, 97, 115, 115, 95, 109, 101, 116, 104, 111, 100, 40, 102, 41, 32, 119, 101, 97, 107, 40, 118, 41, 32, 105, 110, 116, 46, 98, 105, 116, 115, 40, 41, 32, 114, 97, 116, 105, 111, 46, 100, 101, 110, 40, 41, 32, 114, 97, 116, 105, 111, 46, 110, 117, 109, 40, 41, 32, 116, 101, 120, 116, 46, 99, 111, 117, 110, 116, 40, 120, 41, 32, 116, 101, 120, 116, 46, 101, 110, 99, 111, 100, 101, 40, 41, 32, 116, 101, 120, 116, 46, 101, 110, 100, 115, 95, 119, 105, 116, 104, 40, 120, 41, 32, 116, 101, 120, 116, 46, 102, 105, 110, 100, 40, 120, 44, 115, 116, 97, 114, 116, 61, 48, 41, 32, 116, 101, 120, 116, 46, 106, 111, 105, 110, 40, 118, 41, 32, 116, 101, 120, 116, 46, 108, 111, 119, 101, 114, 40, 41, 32, 116, 101, 120, 116, 46, 114, 101, 112, 108, 97, 99, 101, 40, 97, 44, 98, 44, 109, 111, 115, 116, 61, 45, 49, 41, 32, 116, 101, 120, 116, 46, 115, 112, 108, 105, 116, 40, 115, 101, 112, 61, 45, 44, 109, 111, 115, 116, 61, 45, 49, 41, 32, 116, 101, 120, 116, 46, 115, 116, 97, 114, 116, 115, 95, 119, 105, 116, 104, 40, 120, 41, 32, 116, 101, 120, 116, 46, 115, 116, 114, 105, 112, 40, 99, 104, 97, 114, 115, 61, 45, 41, 32, 116, 101, 120, 116, 46, 117, 112, 112, 101, 114, 40, 41, 32, 98, 121, 116, 101, 115, 46, 100, 101, 99, 111, 100, 101, 40, 41, 32, 98, 121, 116, 101, 115, 46, 102, 105, 110, 100, 40, 120, 44, 115, 116, 97, 114, 116, 61, 48, 41, 32, 98, 121, 116, 101, 115, 46, 104, 101, 120, 40, 41, 32, 116, 117, 112, 108, 101, 46, 99, 111, 117, 110, 116, 40, 118, 41, 32, 116, 117, 112, 108, 101, 46, 105, 110, 100, 101, 120, 40, 118, 41, 32, 108, 105, 115, 116, 46, 97, 112, 112, 101, 110, 100, 40, 118, 41, 32, 108, 105, 115, 116, 46, 99, 108, 101, 97, 114, 40, 41, 32, 108, 105, 115, 116, 46, 99, 111, 112, 121, 40, 41, 32, 108, 105, 115, 116, 46, 99, 111, 117, 110, 116, 40, 118, 41, 32, 108, 105, 115, 116, 46, 101, 120, 116, 101, 110, 100, 40, 118, 41, 32, 108, 105, 115, 116, 46, 105, 110, 100, 101, 120, 40, 118, 41, 32, 108, 105, 115, 116, 46, 105, 110, 115, 101, 114, 116, 40, 105, 44, 118, 41, 32, 108, 105, 115, 116, 46, 112, 111, 112, 40, 105, 61, 45, 49, 41, 32, 108, 105, 115, 116, 46, 114, 101, 109, 111, 118, 101, 40, 118, 41, 32, 108, 105, 115, 116, 46, 114, 101, 118, 101, 114, 115, 101, 40, 41, 32, 108, 105, 115, 116, 46, 115, 111, 114, 116, 40, 107, 101, 121, 61, 45, 44, 114, 101, 118, 101, 114, 115, 101, 61, 33, 41, 32, 100, 105, 99, 116, 46, 99, 108, 101, 97, 114, 40, 41, 32, 100, 105, 99, 116, 46, 99, 111, 112, 121, 40, 41, 32, 100, 105, 99, 116, 46, 103, 101, 116, 40, 107, 44, 100, 101, 102, 97, 117, 108, 116, 61, 45, 41, 32, 100, 105, 99, 116, 46, 105, 116, 101, 109, 115, 40, 41, 32, 100, 105, 99, 116, 46, 107, 101, 121, 115, 40, 41, 32, 100, 105, 99, 116, 46, 112, 111, 112, 40, 107, 44, 100, 101, 102, 97, 117, 108, 116, 61, 63, 41, 32, 100, 105, 99, 116, 46, 115, 101, 116, 95, 100, 101, 102, 97, 117, 108, 116, 40, 107, 44, 118, 61, 45, 41, 32, 100, 105, 99, 116, 46, 117, 112, 100, 97, 116, 101, 40, 100, 41, 32, 100, 105, 99, 116, 46, 118, 97, 108, 117, 101, 115, 40, 41, 32, 115, 101, 116, 46, 97, 100, 100, 40, 118, 41, 32, 115, 101, 116, 46, 99, 108, 101, 97, 114, 40, 41, 32, 115, 101, 116, 46, 99, 111, 112, 121, 40, 41, 32, 115, 101, 116, 46, 100, 105, 115, 99, 97, 114, 100, 40, 118, 41, 32, 115, 101, 116, 46, 114, 101, 109, 111, 118, 101, 40, 118, 41, 32, 112, 114, 111, 112, 101, 114, 116, 121, 46, 119, 105, 116, 104, 95, 100, 101, 108, 101, 116, 101, 114, 40, 102, 41, 32, 112, 114, 111, 112, 101, 114, 116, 121, 46, 119, 105, 116, 104, 95, 115, 101, 116, 116, 101, 114, 40, 102, 41, 32, 103, 101, 110, 101, 114, 97, 116, 111, 114, 46, 99, 108, 111, 115, 101, 40, 41, 32, 103, 101, 110, 101, 114, 97, 116, 111, 114, 46, 115, 101, 110, 100, 40, 118, 41, 32, 103, 101, 110, 101, 114, 97, 116, 111, 114, 46, 116, 104, 114, 111, 119, 40, 120, 41, 32, 116, 97, 115, 107, 46, 99, 97, 110, 99, 101, 108, 40, 41, 32, 116, 97, 115, 107, 46, 100, 111, 110, 101, 40, 41, 32, 99, 115, 118, 46, 114, 111, 119, 115, 40, 116, 101, 120, 116, 41, 32, 99, 115, 118, 46, 116, 101, 120, 116, 40, 114, 111, 119, 115, 41, 32, 100, 97, 116, 101, 46, 97, 100, 100, 95, 109, 111, 110, 116, 104, 115, 40, 110, 44, 109, 111, 110, 116, 104, 115, 41, 32, 100, 97, 116, 101, 46, 109, 111, 109, 101, 110, 116, 40, 110, 41, 32, 100, 97, 116, 101, 46, 115, 101, 99, 111, 110, 100, 115, 40, 109, 41, 32, 100, 97, 116, 101, 46, 119, 101, 101, 107, 100, 97, 121, 40, 110, 41, 32, 106, 115, 111, 110, 46, 100, 101, 99, 111, 100, 101, 40, 116, 101, 120, 116, 41, 32, 106, 115, 111, 110, 46, 101, 110, 99, 111, 100, 101, 40, 118, 44, 105, 110, 100, 101, 110, 116, 61, 48, 41, 32, 109, 97, 116, 104, 46, 103, 99, 100, 40, 97, 44, 98, 41, 32, 109, 97, 116, 104, 46, 105, 115, 113, 114, 116, 40, 110, 41, 32, 109, 97, 116, 104, 46, 110, 101, 97, 114, 101, 115, 116, 40, 120, 44, 109, 111, 115, 116, 41, 32, 109, 97, 116, 104, 46, 112, 111, 119, 109, 111, 100, 40, 97, 44, 110, 44, 109, 41, 32, 112, 97, 99, 107, 46, 112, 97, 99, 107, 40, 102, 111, 114, 109, 97, 116, 44, 118, 97, 108, 117, 101, 115, 41, 32, 112, 97, 99, 107, 46, 117, 110, 112, 97, 99, 107, 40, 102, 111, 114, 109, 97, 116, 44, 100, 97, 116, 97, 41, 32, 114, 97, 110, 100, 111, 109, 46, 98, 101, 108, 111, 119, 40, 115, 116, 97, 116, 101, 44, 110, 41, 32, 114, 97, 110, 100, 111, 109, 46, 115, 97, 109, 112, 108, 101, 40, 115, 116, 97, 116, 101, 44, 110, 44, 107, 41, 32, 114, 97, 110, 100, 111, 109, 46, 115, 101, 101, 100, 40, 110, 41, 32, 114, 101, 46, 97, 108, 108, 40, 112, 97, 116, 116, 101, 114, 110, 44, 116, 101, 120, 116, 41, 32, 114, 101, 46, 102, 105, 110, 100, 40, 112, 97, 116, 116, 101, 114, 110, 44, 116, 101, 120, 116, 44, 115, 116, 97, 114, 116, 61, 48, 41, 32, 114, 101, 46, 102, 117, 108, 108, 40, 112, 97, 116, 116, 101, 114, 110, 44, 116, 101, 120, 116, 41, 32, 114, 101, 46, 114, 101, 112, 108, 97, 99, 101, 40, 112, 97, 116, 116, 101, 114, 110, 44, 116, 101, 120, 116, 44, 119, 105, 116, 104, 41, 32, 114, 101, 46, 115, 112, 108, 105, 116, 40, 112, 97, 116, 116, 101, 114, 110, 44, 116, 101, 120, 116, 41]
def pkgs : List (List UInt8) := [[99, 115, 118], [100, 97, 116, 101], [106, 115, 111, 110], [109, 97, 116, 104], [112, 97, 99, 107], [114, 97, 110, 100, 111, 109], [114, 101]]
def hdrHeads : List (List UInt8) := (words hdr).map (headAt 40)
theorem hdr_asc : asc hdr := by unfold asc; decide +kernel
theorem hdr_size : hdr.length = 1882 := by decide +kernel
theorem hdr_words : (words hdr).length = 121 := by decide +kernel
theorem hdr_len : ∀ x ∈ words hdr, x.length ≤ 1000 := by decide +kernel
theorem mkB_inj {a b : List UInt8} (h : mkB a = mkB b) : a = b := by rw [← toList_mkB a, ← toList_mkB b, h]
theorem mem_mkB {x : List UInt8} {l : List (List UInt8)} : mkB x ∈ l.map mkB ↔ x ∈ l := by
  constructor
  · intro h
    obtain ⟨y, h1, h2⟩ := List.mem_map.1 h
    rwa [← mkB_inj h2]
  · exact List.mem_map_of_mem
/-- What stands ahead of the first dot, and behind it. -/
def splitDot (h : List UInt8) : Option (List UInt8 × List UInt8) := if 46 ∈ h then some (headAt 46 h, h.drop ((headAt 46 h).length + 1)) else none
theorem headAt_split {c : UInt8} : ∀ {l : List UInt8}, c ∈ l → l = headAt c l ++ c :: l.drop ((headAt c l).length + 1)
  | [], h => by cases h
  | d :: l, h => by
    unfold headAt
    rw [List.takeWhile_cons]
    by_cases e : d = c
    · subst e
      simp
    · have h1 : (d != c) = true := by simpa using e
      have h2 := headAt_split (l := l) (by rcases List.mem_cons.1 h with h | h; exact absurd h.symm e; exact h)
      unfold headAt at h2
      rw [if_pos h1]
      simp only [List.length_cons, List.drop_succ_cons, List.cons_append]
      rw [← h2]
theorem under_split (name h : List UInt8) (hc : h.count 46 ≤ 1) : under name h = (splitDot h).bind fun p => if p.1 = name then some p.2 else none := by
  unfold under
  cases hp : (name ++ [46]).isPrefixOf h with
  | true =>
    obtain ⟨rest, e⟩ := List.isPrefixOf_iff_prefix.1 hp
    subst e
    have hn : (46 : UInt8) ∉ name := fun hm => by
      have := List.count_pos_iff.2 hm
      simp only [List.append_assoc, List.count_append, List.cons_append, List.nil_append, List.count_cons_self] at hc
      omega
    have hh : headAt 46 (name ++ [46] ++ rest) = name := by
      have := headAt_some (rest := rest) hn
      simpa using this
    unfold splitDot
    rw [if_pos rfl, if_pos (by simp), hh]
    simp
  | false =>
    rw [if_neg (by decide)]
    unfold splitDot
    by_cases hm : (46 : UInt8) ∈ h
    · rw [if_pos hm, Option.bind_some, if_neg]
      intro e
      have := headAt_split hm
      dsimp only at e
      rw [e] at this
      have hp2 : (name ++ [46]).isPrefixOf h = true := List.isPrefixOf_iff_prefix.2 ⟨_, by rw [List.append_assoc]; exact this.symm⟩
      rw [hp] at hp2
      cases hp2
    · rw [if_neg hm]
      rfl
theorem hdr_one : ∀ x ∈ hdrHeads, x.count 46 ≤ 1 := by decide +kernel
theorem lib_one : ∀ x ∈ libHeads, x.count 46 ≤ 1 := by decide +kernel
theorem split_same : libHeads.filterMap splitDot = (hdrHeads.filterMap splitDot).filter (fun p => decide (p.1 ∈ pkgs)) := by decide +kernel
theorem filterMap_under (name : List UInt8) : ∀ (l : List (List UInt8)), (∀ x ∈ l, x.count 46 ≤ 1) → l.filterMap (under name) = (l.filterMap splitDot).filterMap fun p => if p.1 = name then some p.2 else none
  | [], _ => rfl
  | x :: l, h => by
    have ih := filterMap_under name l fun y hy => h y (List.mem_cons_of_mem _ hy)
    rw [List.filterMap_cons, List.filterMap_cons, under_split name x (h x (List.mem_cons_self ..)), ih]
    cases splitDot x with
    | none => rfl
    | some p => rw [Option.bind_some, List.filterMap_cons]
theorem filter_mem (name : List UInt8) (P : List UInt8 → Bool) : ∀ (l : List (List UInt8 × List UInt8)), ((l.filter fun p => P p.1).filterMap fun p => if p.1 = name then some p.2 else none) = if P name then l.filterMap (fun p => if p.1 = name then some p.2 else none) else []
  | [] => by cases P name <;> rfl
  | p :: l => by
    have ih := filter_mem name P l
    rw [List.filter_cons]
    by_cases e : p.1 = name
    · cases hP : P name with
      | true =>
        rw [if_pos (by rw [e]; exact hP), List.filterMap_cons, ih, hP, if_pos rfl, if_pos rfl, List.filterMap_cons]
      | false =>
        rw [if_neg (by rw [e, hP]; decide), ih, hP]
        rfl
    · have e2 : ∀ q : List (List UInt8 × List UInt8), ((p :: q).filterMap fun p => if p.1 = name then some p.2 else none) = q.filterMap fun p => if p.1 = name then some p.2 else none := fun q => by
        rw [List.filterMap_cons, if_neg e]
      split
      · rw [e2, ih, e2]
      · rw [ih, e2]
theorem under_same (name : List UInt8) : libHeads.filterMap (under name) = if name ∈ pkgs then hdrHeads.filterMap (under name) else [] := by
  rw [filterMap_under name _ lib_one, split_same, filter_mem name fun x => decide (x ∈ pkgs), filterMap_under name _ hdr_one]
  by_cases h : name ∈ pkgs <;> simp [h]

theorem p26_ok (name : List UInt8) (hl : name.length ≤ 4611686018427387904) : p26 3998 (mkB name) = some ((libHeads.filterMap (under name)).map mkB) := by
  rw [under_same]
  have hs : p42 3997 (mkB hdr) = some ((words hdr).map mkB) := fields_ok hdr hdr_asc (by rw [hdr_size]; omega) (by rw [hdr_size]; omega)
  have hk : p14 3997 (pkgs.map mkB) (mkB name) = some (decide (name ∈ pkgs)) := by
    have hp : (pkgs.map mkB).length = 7 := by rw [List.length_map]; rfl
    rw [p14_ok (pkgs.map mkB) (mkB name) (by rw [hp]; omega) (by rw [hp]; omega), decide_eq_decide.2 (mem_mkB (x := name) (l := pkgs))]
  have hsz := hdr_words
  obtain ⟨ls, els⟩ : ∃ ls, ls = words hdr := ⟨_, rfl⟩
  have hsl : ∀ x ∈ ls, x.length ≤ 1000 := by rw [els]; exact hdr_len
  have hh : hdrHeads = ls.map (headAt 40) := by rw [els]; rfl
  rw [← els] at hs hsz
  have hhl : hdrHeads.length = ls.length := by rw [hh, List.length_map]
  have hcat : ∀ {ρ : Type} (K : ByteArray → Option ρ), catP (mkB name) (⟨#[46]⟩ : ByteArray) K = K (mkB (name ++ [46])) := fun K => by
    unfold catP
    rw [if_pos (by rw [mkB_size, show (⟨#[46]⟩ : ByteArray).size = 1 from rfl]; omega)]
    congr 1
  obtain ⟨t, et, q⟩ := loop_inv (body := pb26_1 3997 (mkB name) (ls.map mkB)) (fun t => ∃ i : Nat, t = (((hdrHeads.take i).filterMap (under name)).map mkB, (i : Int)) ∧ i ≤ ls.length) (fun t => ls.length - t.2.toNat)
    (fun t => t.1 = (hdrHeads.filterMap (under name)).map mkB)
    (fun t ⟨i, e, h1⟩ => by
      subst e
      unfold pb26_1
      by_cases hi : i < ls.length
      · left
        have hgi : hdrHeads[i]? = some (headAt 40 ls[i]) := by rw [hh, List.getElem?_map, get_of_lt hi]; rfl
        obtain ⟨r, er⟩ := cut_head (n := 3997) (by omega) ls[i] 40 (by have := hsl ls[i] (List.getElem_mem hi); omega)
        have htk : (hdrHeads.take (i + 1)).filterMap (under name) = (hdrHeads.take i).filterMap (under name) ++ (under name (headAt 40 ls[i])).toList := by
          rw [take_succ hgi, List.filterMap_append]
          cases h : under name (headAt 40 ls[i]) <;> simp [h]
        have hfl : ((hdrHeads.take i).filterMap (under name)).length ≤ i := Nat.le_trans (List.length_filterMap_le _ _) (by rw [List.length_take]; omega)
        rw [if_pos (by simpa using hi)]
        simp only [pj]
        rw [rd_nat (x := mkB ls[i]) (by rw [List.getElem?_map, get_of_lt hi]; rfl), show (⟨#[40]⟩ : ByteArray) = mkB [40] from rfl, er, Option.bind_some, hcat, p25_ok (by omega), Option.bind_some]
        refine ⟨(((hdrHeads.take (i + 1)).filterMap (under name)).map mkB, ((i + 1 : Nat) : Int)), ?_, ⟨i + 1, rfl, by omega⟩, by dsimp only; omega⟩
        have hw : IntKind.wrap .i64 ((i : Int) + 1) = ((i + 1 : Nat) : Int) := by rw [wr (by omega) (by omega)]; simp
        rw [htk, toList_mkB, toList_mkB]
        cases hp : (name ++ [46]).isPrefixOf (headAt 40 ls[i]) with
        | false =>
          have hu : under name (headAt 40 ls[i]) = none := by unfold under; rw [hp]; rfl
          rw [if_neg Bool.false_ne_true, if_neg (by simp), hu, hw]
          simp
        | true =>
          have hu : under name (headAt 40 ls[i]) = some ((headAt 40 ls[i]).drop (name.length + 1)) := by unfold under; rw [hp]; rfl
          have hne : ¬ ((headAt 40 ls[i]).drop (name ++ [46]).length == headAt 40 ls[i]) = true := by
            rw [beq_iff_eq]
            intro e
            have h2 := congrArg List.length e
            obtain ⟨rest, e3⟩ := List.isPrefixOf_iff_prefix.1 hp
            have h3 := congrArg List.length e3
            simp only [List.length_drop, List.length_append, List.length_cons, List.length_nil] at h2 h3
            omega
          rw [if_pos rfl, if_pos (by simpa using hne), apP_ok (by simp; omega), hu, hw]
          simp
      · right
        obtain rfl : i = ls.length := by omega
        rw [if_neg (by simp)]
        refine ⟨_, rfl, ?_⟩
        rw [← hhl, List.take_length]) 3997 ([], 0) ⟨0, by simp, Nat.zero_le _⟩ (by dsimp only; omega)
  rw [p26]
  refine Eq.trans (b := (p14 3997 (pkgs.map mkB) (mkB name)).bind _) rfl ?_
  rw [hk, Option.bind_some]
  by_cases h : name ∈ pkgs
  · rw [if_neg (by simp [h]), if_pos h]
    refine Eq.trans (b := (p42 3997 (mkB hdr)).bind _) rfl ?_
    rw [hs, Option.bind_some, et, Option.bind_some, q]
  · rw [if_pos (by simp [h]), if_neg h]
    rfl
theorem p9_ok (name : List UInt8) (hl : name.length ≤ 4611686018427387904) : p9 3999 (mkB name) = some ((libHeads.filterMap (under name)).map mkB) := by
  rw [p9]
  refine Eq.trans (b := (p26 3998 (mkB name)).bind _) rfl ?_
  rw [p26_ok name hl]
  rfl
end Go.Proofs.YtckalckfihhldaaDoorF
