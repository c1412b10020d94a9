/- The abstract heap machine, part 16: the words in which a function is told. -/
import Derived.Test.YtckalckfihhldaaDoorF15
set_option linter.unusedVariables false
set_option linter.unusedSimpArgs false
namespace Go.Proofs.YtckalckfihhldaaDoorF
open Go

section
def lt {α : Type} (v : α) (f : α → Ans) : Ans := f v
def ldI (k : IntKind) (s : St) (b off : Nat) (K : Int → Ans) : Ans := match s.cell b off with | none => none | some v => match v with | .int k' n => if k' = k then K n else none | _ => none
def ldB (s : St) (b off : Nat) (K : Bool → Ans) : Ans := match s.cell b off with | none => none | some v => match v with | .bool n => K n | _ => none
def ldS (s : St) (b off : Nat) (K : ByteArray → Ans) : Ans := match s.cell b off with | none => none | some v => match v with | .string n => K n | _ => none
def ldSl (s : St) (b off : Nat) (K : Option Addr → Nat → Nat → Ans) : Ans := match s.cell b off with | none => none | some v => match v with | .slice a n c => K a n c | _ => none
def ldP (s : St) (b off : Nat) (K : Option Addr → Ans) : Ans := match s.cell b off with | none => none | some v => match v with | .pointer a => K a | _ => none
def ldV (s : St) (b off : Nat) (K : Value → Ans) : Ans := match s.cell b off with | none => none | some v => K v
def asI (k : IntKind) (v : Value) (K : Int → Ans) : Ans := match v with | .int k' n => if k' = k then K n else none | _ => none
def asB (v : Value) (K : Bool → Ans) : Ans := match v with | .bool n => K n | _ => none
def asS (v : Value) (K : ByteArray → Ans) : Ans := match v with | .string n => K n | _ => none
def asSl (v : Value) (K : Option Addr → Nat → Nat → Ans) : Ans := match v with | .slice a n c => K a n c | _ => none
def asP (v : Value) (K : Option Addr → Ans) : Ans := match v with | .pointer a => K a | _ => none
def asAgg (v : Value) (K : List Value → Ans) : Ans := match v with | .agg cs => K cs.toList | _ => none
def asTup (v : Value) (K : List Value → Ans) : Ans := match v with | .tuple vs => K vs.toList | _ => none
def unc (l : List Value) (K : Value → List Value → Ans) : Ans := match l with | [] => none | v :: vs => K v vs
def unn (l : List Value) (A : Ans) : Ans := match l with | [] => A | _ => none
def elt (A : Option Addr) (n sz : Nat) (i : Int) (K : Nat → Nat → Ans) : Ans :=
  if 0 ≤ i then if i < n then match A with | some ⟨b, off, none⟩ => K b (off + i.toNat * sz) | _ => none else none else none
def aelt (n sz b off : Nat) (i : Int) (K : Nat → Nat → Ans) : Ans := if 0 ≤ i then if i < n then K b (off + i.toNat * sz) else none else none
def adr (A : Option Addr) (K : Nat → Nat → Ans) : Ans := match A with | some ⟨b, off, none⟩ => K b off | _ => none
def nilc (A : Option Addr) (K : Addr → Ans) : Ans := match A with | some a => K a | none => none
def adr1 (A : Addr) (K : Nat → Nat → Ans) : Ans := match A with | ⟨b, off, none⟩ => K b off | _ => none
def sto (s : St) (b off : Nat) (vs : List Value) (K : St → Ans) : Ans := match s.wr b off vs with | some s' => K s' | none => none
def kcall (r : Ans) (K : Value → St → Ans) (Kp : List PanicEntry → St → Ans) : Ans :=
  match r with
  | some (.ret v, s') => K v s'
  | some (.pan ch, s') => Kp ch s'
  | none => none
def idx (b : ByteArray) (i : Int) (K : Int → Ans) : Ans := if 0 ≤ i then if h : i.toNat < b.size then K ((b[i.toNat]'h).toNat) else none else none
def subS (b : ByteArray) (l h : Int) (K : ByteArray → Ans) : Ans := if 0 ≤ l then if l ≤ h then if h ≤ b.size then K (b.extract l.toNat h.toNat) else none else none else none
def bstr (A : Option Addr) (n : Nat) (s : St) (K : ByteArray → Ans) : Ans :=
  match A with
  | none => K ByteArray.empty
  | some ⟨i, off, none⟩ => match (s.seen i off n).bind nums8 with
    | some b => K (strOfNums b)
    | none => none
  | _ => none
def rstr (A : Option Addr) (n : Nat) (s : St) (K : ByteArray → Ans) : Ans :=
  match A with
  | none => K ByteArray.empty
  | some ⟨i, off, none⟩ => match (s.seen i off n).bind nums32 with
    | some b => K (runesBytes b)
    | none => none
  | _ => none
def kapp (E : Env) (u : TypeId) (sz bytes : Nat) (e : TypeId) (x y : Value) (s : St) (K : Value → St → Ans) : Ans :=
  match appended E u sz y s with
  | some (news, m) => match s.app x e sz bytes news m with
    | some (v, s') => K v s'
    | none => none
  | none => none
def cat (a b : ByteArray) (K : ByteArray → Ans) : Ans := if ((a.size + b.size : Nat) : Int) ≤ 9223372036854775807 then K (a ++ b) else none
def shlI (k : IntKind) (a b : Int) (K : Int → Ans) : Ans := if b < 0 then none else K (k.wrap (a * 2 ^ min b.toNat k.bits))
def shrI (k : IntKind) (a b : Int) (K : Int → Ans) : Ans := if b < 0 then none else K (a.fdiv (2 ^ min b.toNat k.bits))
def divI (k : IntKind) (a b : Int) (K : Int → Ans) : Ans := if b = 0 then none else K (k.wrap (a.tdiv b))
def remI (k : IntKind) (a b : Int) (K : Int → Ans) : Ans := if b = 0 then none else K (a.tmod b)
end

/-- Registers: what they hold, the others nothing. -/
def rg (n : Nat) (l : List (Nat × Value)) : Regs := l.foldl (fun g p => g.set p.1 p.2) (List.replicate n undef)

/-! ### Parts of a code -/
inductive Dir where
  | a | b | c
def step1 : Code → Dir → Code
  | .seq x _, .a => x
  | .seq _ y, _ => y
  | .cond _ x _, .a => x
  | .cond _ _ y, _ => y
  | .block _ x, _ => x
  | .loop x, _ => x
  | .scope x, _ => x
  | c, _ => c
def codeAt (E : Env) (f : FuncId) (p : List Dir) : Code := match E.fn f with
  | some g => match g.body with
    | some c => p.foldl step1 c
    | none => .skip
  | none => .skip

def regOps (E : Env) (f : FuncId) (p : List Dir) : Array Oper := match codeAt E f p with | .region _ ops _ => ops | _ => #[]
def kFin (E : Env) (f : FuncId) : Kont := fun e g s => match E.fn f with
  | none => none
  | some fn => match e with
    | .normal => resultL E s g fn.results.toList fun l => some (.ret (oneOf l), s)
    | .ret => resultL E s g fn.results.toList fun l => some (.ret (oneOf l), s)
    | .pan ch => some (.pan ch, s)
    | .exit _ => none
def kSeq (E : Env) (f : FuncId) (n : Nat) (p : List Dir) (K : Kont) : Kont := fun e g s => match e with
  | .normal => kexec E (acall E n) n (E.hint f) (E.ord f) (codeAt E f p) g s K
  | .exit i => K (.exit i) g s
  | .ret => K .ret g s
  | .pan c => K (.pan c) g s
def kBlk (id : Nat) (K : Kont) : Kont := fun e g s => match e with
  | .normal => K .normal g s
  | .exit i => if i = id then K .normal g s else K (.exit i) g s
  | .ret => K .ret g s
  | .pan c => K (.pan c) g s
def kBody (E : Env) (f : FuncId) (n : Nat) (p : List Dir) : Regs → St → Kont → Ans := fun g s K => kexec E (acall E n) n (E.hint f) (E.ord f) (codeAt E f p) g s K

/-! ### A body told statement by statement -/
def isSeqC : Code → Bool
  | .seq .. => true
  | _ => false
theorem kBody_seq {E : Env} {f : FuncId} {n : Nat} {p : List Dir} {g : Regs} {s : St} {K : Kont} (pa pb : List Dir) (ha : pa = p ++ [.a]) (hb : pb = p ++ [.b]) (h : isSeqC (codeAt E f p) = true) :
    kBody E f n p g s K = kBody E f n pa g s (kSeq E f n pb K) := by
  have at_ : ∀ x c, codeAt E f p = c → isSeqC c = true → codeAt E f (p ++ [x]) = step1 c x := fun x c hc hs => by
    subst hc
    unfold codeAt at hs ⊢
    split
    · split
      · rw [List.foldl_append]; rfl
      · rename_i h1 _ h2; rw [h1] at hs; simp only [h2] at hs; cases hs
    · rename_i h1; rw [h1] at hs; cases hs
  cases hc : codeAt E f p with
  | seq x y =>
    subst ha; subst hb
    unfold kBody kSeq
    rw [at_ .a _ hc rfl, at_ .b _ hc rfl, hc]
    rfl
  | _ => rw [hc] at h; cases h
theorem kSeq_normal {E : Env} {f : FuncId} {n : Nat} {p : List Dir} {g : Regs} {s : St} {K : Kont} : kSeq E f n p K .normal g s = kBody E f n p g s K := rfl
def startRegs (E : Env) (f : FuncId) (args : List Value) : Regs := match E.fn f with
  | some fn => args ++ List.replicate (fn.ntmps - args.length) undef
  | none => []
def hasCode (E : Env) (f : FuncId) : Bool := match E.fn f with
  | some fn => match fn.body with
    | some _ => true
    | none => false
  | none => false
theorem acall_kBody {E : Env} {f : FuncId} {n : Nat} {args : List Value} {g : Regs} {s : St} (hs : E.sum f = none) (hw : E.sumW f = none) (hc : hasCode E f = true) (hg : startRegs E f args = g) :
    acall E (n + 1) f args s = kBody E f n [] g s (kFin E f) := by
  subst hg
  unfold acall
  rw [hs]
  dsimp only
  rw [hw]
  dsimp only
  unfold hasCode at hc
  unfold kBody codeAt startRegs kFin
  cases hf : E.fn f with
  | none => rw [hf] at hc; cases hc
  | some fn =>
    rw [hf] at hc
    dsimp only at hc ⊢
    cases hb : fn.body with
    | none => rw [hb] at hc; cases hc
    | some c =>
      dsimp only [List.foldl_nil]
      congr 1
end Go.Proofs.YtckalckfihhldaaDoorF
