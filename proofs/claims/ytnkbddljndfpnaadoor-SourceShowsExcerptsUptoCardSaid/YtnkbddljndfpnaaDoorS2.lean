/- What source.find answers. -/
import Derived.Test.YtnkbddljndfpnaaDoorS1
set_option linter.unusedVariables false
set_option linter.unusedSimpArgs false
namespace Go.Proofs.YtnkbddljndfpnaaDoorF
open Go Go.RowKit

/-- The lines of a text. -/
def linesL : List UInt8 → List (List UInt8)
  | [] => [[]]
  | c :: l => if c = 10 then [] :: linesL l else match linesL l with
    | x :: xs => (c :: x) :: xs
    | [] => [[c]]
/-- Where line k begins. -/
def lineOff (ls : List (List UInt8)) (k : Nat) : Nat := ((ls.take k).map fun l => l.length + 1).sum
def findR (b : ByteArray) (line : Int) : Int × ByteArray × Bool :=
  if 1 ≤ line then match (linesL b.data.toList)[line.toNat - 1]? with
    | some l => ((lineOff (linesL b.data.toList) (line.toNat - 1) : Int), ⟨l.toArray⟩, true)
    | none => (0, ByteArray.empty, false)
  else (0, ByteArray.empty, false)
def fiP (b : ByteArray) (line : Int) : Option (Int × ByteArray × Bool) := if b.size < 4611686018427387904 ∧ -9223372036854775808 ≤ line ∧ line ≤ 9223372036854775807 then some (findR b line) else none
def sumFind : List Value → St → Option Value
  | [.string b, .int .i64 line], _ => (fiP b line).map fun r => .tuple #[.int .i64 r.1, .string r.2.1, .bool r.2.2]
  | _, _ => none
theorem sumFind_ok {P : Program} {f : FuncId} {glob : List Nat}
    (h : ∀ (b : ByteArray) (line : Int) (w : World), b.size < 4611686018427387904 → -9223372036854775808 ≤ line → line ≤ 9223372036854775807 →
      Calls P f #[.string b, .int .i64 line] w fun e w' => e = .returned (.tuple #[.int .i64 (findR b line).1, .string (findR b line).2.1, .bool (findR b line).2.2]) ∧ Below w.heap.size w w') : SumOk1 P glob f sumFind := by
  intro args s v hv
  unfold sumFind at hv
  split at hv
  · rename_i b c
    unfold fiP at hv
    split at hv
    · rename_i hc
      injection hv with hv
      subst hv
      refine ⟨fun φ => V.tup rfl, fun φ w Own args' hg hR ha => ?_⟩
      obtain ⟨y, y', rfl, hy, hy'⟩ := ha.inv2
      rw [hy.string_inv, hy'.int_inv]
      exact h b c w hc.1 hc.2.1 hc.2.2
    · cases hv
  · cases hv
end Go.Proofs.YtnkbddljndfpnaaDoorF
