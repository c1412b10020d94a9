/- The abstract heap machine: what functions of the library answer, by the shelf's contracts. -/
import Derived.Test.YtckalckfihhldaaDoorF22c
import Derived.Shelf.Unicode.DecodeAny
import Derived.Lib.LaidU8
import Derived.Lib.Repeat
import Derived.Lib.RuneCount
import Derived.Lib.LastIndexByte
import Derived.Lib.Join
set_option linter.unusedVariables false
set_option linter.unusedSimpArgs false
namespace Go.Proofs.YtckalckfihhldaaDoorF
open Go Go.RowKit

/-- What is known of one function that is not run. -/
def SumOk1 (P : Program) (glob : List Nat) (f : FuncId) (e : List Value → St → Option Value) : Prop := ∀ args s v, e args s = some v → (∀ φ, V φ v v) ∧
  ∀ φ w Own (args' : Array Value), (∀ b ∈ glob, ∃ l, φ b = some l ∧ l.block = b ∧ l.off = 0) → R φ s w Own → VL φ args args'.toList → Calls P f args' w fun e w' => e = .returned v ∧ Below w.heap.size w w'
theorem VL.inv1 {φ : Phi} {x : Value} {a : Array Value} (h : VL φ [x] a.toList) : ∃ y, a = #[y] ∧ V φ x y := by
  obtain ⟨l⟩ := a
  dsimp only at h
  cases h with
  | cons h k => cases k; exact ⟨_, rfl, h⟩
theorem VL.inv2 {φ : Phi} {x x' : Value} {a : Array Value} (h : VL φ [x, x'] a.toList) : ∃ y y', a = #[y, y'] ∧ V φ x y ∧ V φ x' y' := by
  obtain ⟨l⟩ := a
  dsimp only at h
  cases h with
  | cons h k => cases k with
    | cons h' k => cases k; exact ⟨_, _, rfl, h, h'⟩
theorem V.tup {φ : Phi} {l : List Value} (h : l.all Go.Proofs.YtckalckfihhldaaDoorF.flat = true) : V φ (.tuple l.toArray) (.tuple l.toArray) := .tuple (by simpa using VL.of_flat (by simpa using h))

/-! ### unicode/utf8.DecodeRuneInString -/
def acceptTab : List Int := (List.range 16).flatMap fun i => [(Lib.accLo i : Int), (Lib.accHi i : Int)]
def TabOk (g1 g2 : Nat) (s : St) : Prop := Lo s g1 0 (Lib.firstTab.map (Value.int .u8)) ∧ Lo s g2 0 (acceptTab.map (Value.int .u8))
open Classical in
noncomputable def sumDecode (g1 g2 : Nat) : List Value → St → Option Value
  | [.string b], s => if TabOk g1 g2 s then some (.tuple #[.int .i32 (Lib.decodeGo b).1, .int .i64 (Lib.decodeGo b).2]) else none
  | _, _ => none
theorem Lo.world {φ : Phi} {s : St} {w : World} {Own : Nat → Prop} {b : Nat} {k : IntKind} {xs : List Int} (h : Lo s b 0 (xs.map (Value.int k))) (hR : R φ s w Own) {l : Loc} (hl : φ b = some l) (hb : l.block = b) (h0 : l.off = 0) {i : Nat} {x : Int} (hx : xs[i]? = some x) : w.cell? ⟨b, i, none⟩ = some (.int k x) := by
  obtain ⟨z, ds, h1, h2, h3⟩ := h
  have h4 := h3 i (.int k x) (by rw [List.getElem?_map, hx]; rfl)
  rw [Nat.zero_add] at h4
  obtain ⟨v', k1, k2⟩ := hR.cell hl (off := i) (v := .int k x) (by unfold St.cell; rw [St.rc_cells h1]; exact h4)
  rw [hb, h0, Nat.zero_add] at k1
  rw [k1, k2.int_inv]
theorem TabOk.world {φ : Phi} {s : St} {w : World} {Own : Nat → Prop} {g1 g2 : Nat} (h : TabOk g1 g2 s) (hR : R φ s w Own) (hg : ∀ b ∈ [g1, g2], ∃ l, φ b = some l ∧ l.block = b ∧ l.off = 0) : Lib.Utf8Tabs g1 g2 w := by
  obtain ⟨l1, a1, a2, a3⟩ := hg g1 (by simp)
  obtain ⟨l2, b1, b2, b3⟩ := hg g2 (by simp)
  have len : acceptTab.length = 32 := rfl
  have acc : ∀ i, i < 16 → acceptTab[2 * i]? = some (Lib.accLo i : Int) ∧ acceptTab[2 * i + 1]? = some (Lib.accHi i : Int) := by decide
  refine ⟨fun c hc => h.1.world hR a1 a2 a3 ?_, fun i hi => ⟨h.2.world hR b1 b2 b3 (acc i hi).1, h.2.world hR b1 b2 b3 (acc i hi).2⟩⟩
  unfold Lib.firstTab
  simp [hc]
theorem sumDecode_ok {P : Program} {f : FuncId} {glob : List Nat} {g1 g2 : Nat} (h1 : g1 ∈ glob) (h2 : g2 ∈ glob)
    (h : ∀ (s : ByteArray) (w : World), Lib.Utf8Tabs g1 g2 w → Calls P f #[.string s] w fun e w' => e = .returned (.tuple #[.int .i32 (Lib.decodeGo s).1, .int .i64 (Lib.decodeGo s).2]) ∧ Below w.heap.size w w') : SumOk1 P glob f (sumDecode g1 g2) := by
  intro args s v hv
  unfold sumDecode at hv
  split at hv
  · rename_i b
    split at hv
    · rename_i ht
      injection hv with hv
      subst hv
      refine ⟨fun φ => V.tup rfl, fun φ w Own args' hg hR ha => ?_⟩
      obtain ⟨y, rfl, hy⟩ := ha.inv1
      rw [hy.string_inv]
      exact h b w (ht.world hR fun b hb => hg b (by rcases List.mem_cons.1 hb with rfl | hb; exact h1; rw [List.mem_singleton.1 hb]; exact h2))
    · cases hv
  · cases hv

/-! ### strings.Repeat, unicode/utf8.RuneCountInString, strings.LastIndexByte -/
def repeatB (b : ByteArray) (n : Nat) : ByteArray := ⟨(Lib.repeatL b.data.toList n).toArray⟩
def repP (b : ByteArray) (c : Int) : Option ByteArray := if 0 ≤ c ∧ c ≤ 9223372036854775807 ∧ b.size * c.toNat ≤ 140737488355328 then some (repeatB b c.toNat) else none
def sumRepeat : List Value → St → Option Value
  | [.string b, .int .i64 c], _ => (repP b c).map Value.string
  | _, _ => none
theorem sumRepeat_ok {P : Program} {f : FuncId} {glob : List Nat}
    (h : ∀ (s : ByteArray) (c : Nat) (w : World), c ≤ 9223372036854775807 → s.size * c ≤ 140737488355328 → Calls P f #[.string s, .int .i64 c] w fun e w' => e = .returned (.string ⟨(Lib.repeatL s.data.toList c).toArray⟩) ∧ Below w.heap.size w w') : SumOk1 P glob f sumRepeat := by
  intro args s v hv
  unfold sumRepeat at hv
  split at hv
  · rename_i b c
    unfold repP at hv
    split at hv
    · rename_i hc
      injection hv with hv
      subst hv
      refine ⟨fun φ => .flat rfl, fun φ w Own args' hg hR ha => ?_⟩
      obtain ⟨y, y', rfl, hy, hy'⟩ := ha.inv2
      rw [hy.string_inv, hy'.int_inv]
      have := h b c.toNat w (by omega) hc.2.2
      rwa [Int.toNat_of_nonneg hc.1] at this
    · cases hv
  · cases hv
def rcP (b : ByteArray) : Option Int := if b.size < 9223372036854775807 then some (Lib.runeCount b : Int) else none
def sumRuneCount : List Value → St → Option Value
  | [.string b], _ => (rcP b).map (Value.int .i64)
  | _, _ => none
theorem Below.iter (w : World) (s : ByteArray) (pos : Nat) : Below w.heap.size w (w.iter s pos) := (Below.refl _ w).alloc (Nat.le_refl _) _
theorem sumRuneCount_ok {P : Program} {f : FuncId} {glob : List Nat}
    (h : ∀ (s : ByteArray) (w : World), s.size < 9223372036854775807 → Calls P f #[.string s] w fun e w' => e = .returned (.int .i64 (Lib.runeCount s)) ∧ ∃ pos, w' = w.iter s pos) : SumOk1 P glob f sumRuneCount := by
  intro args s v hv
  unfold sumRuneCount at hv
  split at hv
  · rename_i b
    unfold rcP at hv
    split at hv
    · rename_i hc
      injection hv with hv
      subst hv
      refine ⟨fun φ => .flat rfl, fun φ w Own args' hg hR ha => ?_⟩
      obtain ⟨y, rfl, hy⟩ := ha.inv1
      rw [hy.string_inv]
      refine (h b w hc).mono ?_
      rintro e w' ⟨he, pos, rfl⟩
      exact ⟨he, Below.iter w b pos⟩
    · cases hv
  · cases hv
def liP (b : ByteArray) (c : Int) : Option Int := if b.size < 4611686018427387904 then some (Lib.lastIndexByte b c) else none
def sumLastIndexByte : List Value → St → Option Value
  | [.string b, .int .u8 c], _ => (liP b c).map (Value.int .i64)
  | _, _ => none
theorem sumLastIndexByte_ok {P : Program} {f : FuncId} {glob : List Nat}
    (h : ∀ (s : ByteArray) (c : Int) (w : World), s.size < 4611686018427387904 → Calls P f #[.string s, .int .u8 c] w fun e w' => e = .returned (.int .i64 (Lib.lastIndexByte s c)) ∧ w' = w) : SumOk1 P glob f sumLastIndexByte := by
  intro args s v hv
  unfold sumLastIndexByte at hv
  split at hv
  · rename_i b c
    unfold liP at hv
    split at hv
    · rename_i hc
      injection hv with hv
      subst hv
      refine ⟨fun φ => .flat rfl, fun φ w Own args' hg hR ha => ?_⟩
      obtain ⟨y, y', rfl, hy, hy'⟩ := ha.inv2
      rw [hy.string_inv, hy'.int_inv]
      refine (h b c w hc).mono ?_
      rintro e w' ⟨he, rfl⟩
      exact ⟨he, Below.refl _ _⟩
    · cases hv
  · cases hv

def coP (b sep : ByteArray) : Option Int := match sep.data.toList with | [c] => some (Lib.countByte b.data.toList c : Int) | _ => none
/-- strings.Count, of one byte -/
def sumCount : List Value → St → Option Value
  | [.string b, .string sep], _ => (coP b sep).map (Value.int .i64)
  | _, _ => none
theorem sumCount_ok {P : Program} {f : FuncId} {glob : List Nat}
    (h : ∀ (s : ByteArray) (c : UInt8) (w : World), Calls P f #[.string s, .string ⟨#[c]⟩] w fun e w' => e = .returned (.int .i64 (Lib.countByte s.data.toList c)) ∧ w' = w) : SumOk1 P glob f sumCount := by
  intro args s v hv
  unfold sumCount at hv
  split at hv
  · rename_i b sep
    unfold coP at hv
    split at hv
    · rename_i c hc
      injection hv with hv
      subst hv
      refine ⟨fun φ => .flat rfl, fun φ w Own args' hg hR ha => ?_⟩
      obtain ⟨y, y', rfl, hy, hy'⟩ := ha.inv2
      rw [hy.string_inv, hy'.string_inv]
      have hsep : sep = ⟨#[c]⟩ := by
        obtain ⟨⟨l⟩⟩ := sep
        dsimp only at hc
        rw [hc]
      rw [hsep]
      refine (h b c w).mono ?_
      rintro e w' ⟨he, rfl⟩
      exact ⟨he, Below.refl _ _⟩
    · cases hv
  · cases hv

/-! ### strings.Join -/
def strsL : List Value → Option (List ByteArray)
  | [] => some []
  | .string b :: l => (strsL l).map (b :: ·)
  | _ => none
theorem strsL_spec : ∀ {l : List Value} {xs : List ByteArray}, strsL l = some xs → l = xs.map Value.string
  | [], xs, h => by injection h with h; subst h; rfl
  | v :: l, xs, h => by
    unfold strsL at h
    split at h
    · rename_i h0; cases h0
    · rename_i n l' h0
      injection h0 with h1 h2
      subst h1
      subst h2
      cases hn : strsL l with
      | none => rw [hn] at h; cases h
      | some ys =>
        rw [hn] at h
        injection h with h
        subst h
        rw [strsL_spec hn]
        rfl
    · cases h
def joinB (xs : List ByteArray) (sep : ByteArray) : ByteArray := ⟨(Lib.join (xs.map (·.data.toList)) sep.data.toList).toArray⟩
def joP (xs : List ByteArray) (sep : ByteArray) : Option ByteArray := if xs.length ≤ 140737488355328 ∧ (joinB xs sep).size ≤ 140737488355328 then some (joinB xs sep) else none
def sumJoin : List Value → St → Option Value
  | [.slice a n c, .string sep], s => match a with
    | none => if n = 0 then some (.string (joinB [] sep)) else none
    | some ⟨i, off, none⟩ => match (s.seen i off n).bind strsL with
      | some xs => (joP xs sep).map Value.string
      | none => none
    | _ => none
  | _, _ => none
theorem V.slice_some {φ : Phi} {i off n c : Nat} {v' : Value} (h : V φ (.slice (some ⟨i, off, none⟩) n c) v') : n ≤ c ∨ n = 0 := by
  rcases h.slice_inv with ⟨l, c', _, h, _⟩ | ⟨l, b, _, h, _⟩
  · exact .inl h
  · exact .inr h
theorem sumJoin_ok {P : Program} {f : FuncId} {glob : List Nat}
    (h0 : ∀ (a : Option Addr) (c : Nat) (sep : ByteArray) (w : World), Calls P f #[.slice a 0 c, .string sep] w fun e w' => e = .returned (.string ⟨#[]⟩) ∧ w' = w)
    (h : ∀ (bk o c : Nat) (xs : List ByteArray) (sep : ByteArray) (w : World), (∀ (j : Nat) x, xs[j]? = some x → w.cell? ⟨bk, o + j, none⟩ = some (.string x)) → bk < w.heap.size → xs.length ≤ 140737488355328 → xs.length ≤ c → (Lib.join (xs.map (·.data.toList)) sep.data.toList).length ≤ 140737488355328 →
      Calls P f #[.slice (some ⟨bk, o, none⟩) xs.length c, .string sep] w fun e w' => e = .returned (.string ⟨(Lib.join (xs.map (·.data.toList)) sep.data.toList).toArray⟩) ∧ Below w.heap.size w w') : SumOk1 P glob f sumJoin := by
  intro args s v hv
  unfold sumJoin at hv
  split at hv
  · rename_i a n c sep
    split at hv
    · split at hv
      · rename_i hn
        subst hn
        injection hv with hv
        subst hv
        refine ⟨fun φ => .flat rfl, fun φ w Own args' hg hR ha => ?_⟩
        obtain ⟨y, y', rfl, hy, hy'⟩ := ha.inv2
        rw [hy.nilslice_inv, hy'.string_inv]
        refine (h0 none c sep w).mono ?_
        rintro e w' ⟨he, rfl⟩
        exact ⟨he, Below.refl _ _⟩
      · cases hv
    · rename_i i off
      split at hv
      · rename_i xs hxs
        unfold joP at hv
        split at hv
        · rename_i hc
          injection hv with hv
          subst hv
          refine ⟨fun φ => .flat rfl, fun φ w Own args' hg hR ha => ?_⟩
          obtain ⟨y, y', rfl, hy, hy'⟩ := ha.inv2
          rw [hy'.string_inv]
          cases hse : s.seen i off n with
          | none => rw [hse] at hxs; cases hxs
          | some l =>
            rw [hse] at hxs
            have hl := strsL_spec hxs
            subst hl
            have hlen : xs.length = n := by
              rcases hy.slice_inv with ⟨lc, _, hlc, _⟩ | ⟨lc, _, hlc, _⟩ <;> simpa using (hR.seen hlc hse).1
            by_cases hn0 : n = 0
            · have hx0 : xs = [] := List.length_eq_zero_iff.1 (by omega)
              subst hx0
              have : ∃ a' c', y = .slice a' 0 c' := by
                rcases hy.slice_inv with ⟨lc, c', hlc, _, _, _, ha⟩ | ⟨lc, b, hlc, _, _, ha⟩
                · exact ⟨_, _, by rw [ha, hn0]⟩
                · exact ⟨_, _, ha⟩
              obtain ⟨a', c', rfl⟩ := this
              refine (h0 a' c' sep w).mono ?_
              rintro e w' ⟨he, rfl⟩
              exact ⟨he, Below.refl _ _⟩
            · rcases hy.slice_inv with ⟨lc, c', hlc, h1, h2, _, ha⟩ | ⟨lc, b, hlc, hn, _, ha⟩
              · obtain ⟨-, l', k1, k2⟩ := hR.seen hlc hse
                have hl' : l' = xs.map Value.string := k1.flat_eq (by intro v hv; obtain ⟨n, _, rfl⟩ := List.mem_map.1 hv; rfl)
                subst hl'
                rw [ha, ← hlen]
                refine h lc.block (lc.off + off) c' xs sep w (fun j x hj => ?_) ?_ hc.1 (by omega) (by simpa [joinB, ByteArray.size] using hc.2)
                · have := k2 j (.string x) (by rw [List.getElem?_map, hj]; rfl)
                  rwa [add_plain] at this
                · have := k2 0 (.string (xs[0]'(by omega))) (by rw [List.getElem?_map, List.getElem?_eq_getElem (by omega)]; rfl)
                  rw [add_plain] at this
                  unfold World.cell? at this
                  exact hR.lt i lc hlc
              · exact absurd hn hn0
        · cases hv
      · cases hv
    · cases hv
  · cases hv
theorem strsL_many {s : St} : ∀ {xs : List ByteArray} {cs : List Value}, many rS s xs cs → strsL cs = some xs
  | [], cs, h => by have h : cs = [] := h; subst h; rfl
  | x :: xs, cs, ⟨c, d, e, h, k⟩ => by
    have h : c = [.string x] := h
    subst e; subst h
    show strsL (.string x :: d) = _
    unfold strsL
    rw [strsL_many k]
    rfl
theorem sumJoin_sr {s : St} {A : Option Addr} {c : Nat} {xs : List ByteArray} {sep r : ByteArray} (h : Sr rS s A c xs) (hr : joP xs sep = some r) : ∃ v, sumJoin [.slice A xs.length c, .string sep] s = some v ∧ v = .string r := by
  obtain ⟨hc, ⟨rfl, rfl, rfl⟩ | ⟨i, off, z, cs, rfl, g1, g2, g3, g4, g5⟩⟩ := h
  · refine ⟨_, rfl, ?_⟩
    unfold joP at hr
    split at hr
    · injection hr with hr; rw [hr]
    · cases hr
  · have hz : rS.sz = 1 := rfl
    rw [hz, Nat.mul_one] at g4 g5
    have : s.seen i off xs.length = some ((cs.drop off).take xs.length) := by
      unfold St.seen
      rw [St.rc_cells g2]
      simp only [Option.bind_some]
      rw [if_pos g4]
    refine ⟨_, ?_, rfl⟩
    unfold sumJoin
    dsimp only
    rw [this]
    simp only [Option.bind_some]
    rw [strsL_many g5]
    dsimp only
    rw [hr]
    rfl
end Go.Proofs.YtckalckfihhldaaDoorF
