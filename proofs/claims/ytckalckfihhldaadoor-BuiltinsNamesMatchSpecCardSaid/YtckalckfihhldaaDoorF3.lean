/- The abstract heap machine, part 3: the evaluator. -/
import Derived.Test.YtckalckfihhldaaDoorF2
import Derived.Laws.BytesArg
import Derived.Laws.Cover4
import Derived.Orders
set_option linter.unusedVariables false
set_option linter.unusedSimpArgs false
namespace Go.Proofs.YtckalckfihhldaaDoorF
open Go

/-! ### 1. Memory -/
def writeAt (cs : List Value) (off : Nat) (vs : List Value) : List Value := cs.take off ++ vs ++ cs.drop (off + vs.length)
namespace St
def cells (s : St) (i : Nat) : Option (List Value) :=
  match s.get i with
  | some (.box _ cs) => some cs
  | some (.row r) => match r.mode with | .old => if s.calm r.root then some r.cs else none | _ => some r.cs
  | _ => none
def cell (s : St) (i off : Nat) : Option Value := (s.cells i).bind (·[off]?)
def wrote (s : St) (i : Nat) : St := { s with low := min s.low i }
def wroteB (s : St) (i : Nat) : St := { s with low := min s.low i, lowb := min s.lowb i }
def wr (s : St) (i off : Nat) (vs : List Value) : Option St :=
  match s.get i with
  | some (.box e cs) => if off + vs.length ≤ cs.length ∧ vs.all oc then some ((s.put i (.box e (writeAt cs off vs))).wroteB i) else none
  | some (.row r) =>
    if r.mode = .own ∧ off + vs.length ≤ r.cs.length ∧ vs.all oc then
      match (s.stir r.root).get i with
      | some (.row q) => some (((s.stir r.root).put i (.row { q with cs := writeAt r.cs off vs })).wrote (min i r.root))
      | _ => none
    else none
  | _ => none
/-- append: the slice, the elements' type, its cells, its bytes, the new cells -/
def app (s : St) (sl : Value) (e : TypeId) (size bytes : Nat) (news : List Value) (m : Nat) : Option (Value × St) :=
  if news.length = m * size ∧ 0 < size ∧ news.all oc then
    match sl with
    | .slice none 0 0 =>
      if m = 0 then some (sl, s)
      else if m * bytes ≤ 140737488355328 ∧ m ≤ 140737488355328 then
        some (.slice (some ⟨s.next, 0, none⟩) m m, s.new (.row { elem := e, cs := news, mode := .own, root := s.next, stored := false, esz := size }))
      else none
    | .slice (some ⟨i, off, none⟩) n c =>
      if m = 0 then some (sl, s)
      else if (n + m) * bytes ≤ 140737488355328 ∧ n + m ≤ 140737488355328 then
        match s.get i with
        | some (.row r) =>
          let e' := off + n * size
          if r.mode = .own ∧ r.elem = e ∧ r.esz = size ∧ e' ≤ r.cs.length then
            let s1 := if e' = r.cs.length then s else s.stir r.root
            match s1.get i with
            | some (.row q) =>
              some (.slice (some ⟨s1.next, 0, none⟩) (n + m) (n + m),
                ((s1.put i (.row { q with mode := .old, cs := q.cs.take e' })).new (.row { elem := e, cs := (r.cs.drop off).take (n * size) ++ news, mode := .own, root := r.root, stored := false, esz := size })).wrote (if e' = r.cs.length then i else min i r.root))
            | _ => none
          else none
        | _ => none
      else none
    | _ => none
  else none
/-- The cells that a slice shows. -/
def seen (s : St) (i off : Nat) (k : Nat) : Option (List Value) :=
  (s.cells i).bind fun cs => if off + k ≤ cs.length then some ((cs.drop off).take k) else none
end St

/-! ### 2. The surroundings: what is known of the program -/
inductive CK where
  | bool | int (k : IntKind) | str | slice | ptr | other
  deriving DecidableEq
inductive Out where
  | ret (v : Value)
  | pan (chain : List PanicEntry)
structure Env where
  und : TypeId → Option TypeDesc
  info : TypeId → Option (Option Value × Nat × Nat)
  fn : FuncId → Option Func
  eqs : TypeId → Option (List CK)
  hint : FuncId → Nat → Option (List Nat)
  glob : Nat → Bool
  /-- functions without memory; functions that only read it -/
  pure : FuncId → Bool
  reads : FuncId → Bool
  /-- functions that may write what stands in boxes -/
  wrb : FuncId → Bool
  noGlob : Bool
  /-- functions without a body: what they answer, where it is known -/
  ext : FuncId → Option (List Value → Option Value)
  /-- functions that are not run: what they answer, where it is known; they make nothing that is seen, and leave what was there -/
  sum : FuncId → Option (List Value → St → Option Value)
  sumW : FuncId → Option (List Value → St → Option (Out × St))
  /-- the regions that draw, of which it is known that the text's order serves every order -/
  ord : FuncId → Nat → Bool

structure Env.Ok (E : Env) (P : Program) : Prop where
  und : ∀ t d, E.und t = some d → P.underlying t = some d
  info : ∀ t z n b, E.info t = some (z, n, b) → ∃ i, P.info? t = some i ∧ i.zero = z ∧ i.size = n ∧ i.bytes = b
  fn : ∀ f g, E.fn f = some g → P.funcs[f]? = some g ∧ g.body.isSome = true ∧ (g.name == "runtime.NumGoroutine") = false
  ext : ∀ f g, E.ext f = some g → ∀ args v, g args = some v → flat v = true ∧ (∀ x ∈ args, flat x = true) ∧ ∀ w, (callFunc f args.toArray).run P w = .ok (.value v) w

def kindOf : Option TypeDesc → CK
  | some .bool => .bool
  | some (.int k) => .int k
  | some .string => .str
  | some (.slice _) => .slice
  | some (.pointer _) => .ptr
  | _ => .other
def isAggD : Option TypeDesc → Bool
  | some (.struct _) | some (.array _ _) => true
  | _ => false
/-- A type's cells. -/
def Env.kinds (E : Env) : Nat → TypeId → List CK
  | 0, _ => []
  | d + 1, t => match E.und t with
    | some (.struct fs) => fs.toList.flatMap fun f => E.kinds d f.type
    | some (.array n e) => (List.replicate n (E.kinds d e)).flatten
    | u => [kindOf u]
def Env.kindsOf (E : Env) (t : TypeId) : List CK := E.kinds 20 t

/-! ### 3. Answers; values brought into their form -/
abbrev Ans := Option (Out × St)
abbrev Regs := List Value
inductive X where
  | normal | exit (id : Nat) | ret | pan (chain : List PanicEntry)

section
variable {α : Type}
def shape1 (k : CK) (v : Value) (K : Value → Option α) : Option α :=
  match k with
  | .bool => match v with | .bool b => K (.bool b) | _ => none
  | .int k => match v with | .int k' n => if k' = k then K (.int k n) else none | _ => none
  | .str => match v with | .string s => K (.string s) | _ => none
  | .slice => match v with | .slice a n c => K (.slice a n c) | _ => none
  | .ptr => match v with | .pointer a => K (.pointer a) | _ => none
  | .other => K v
def shapeL : List CK → List Value → (List Value → Option α) → Option α
  | [], vs, K => match vs with | [] => K [] | _ => none
  | k :: ks, vs, K => match vs with | [] => none | v :: vs => shape1 k v fun v' => shapeL ks vs fun l => K (v' :: l)
def shapeT (E : Env) (t : TypeId) (v : Value) (K : Value → Option α) : Option α :=
  if isAggD (E.und t) then match v with | .agg cs => shapeL (E.kindsOf t) cs.toList fun l => K (.agg l.toArray) | _ => none
  else shape1 (kindOf (E.und t)) v K
def shapeTs (E : Env) : List TypeId → List Value → (List Value → Option α) → Option α
  | [], vs, K => match vs with | [] => K [] | _ => none
  | t :: ts, vs, K => match vs with | [] => none | v :: vs => shapeT E t v fun v' => shapeTs E ts vs fun l => K (v' :: l)
/-- A call's result. -/
def shapeR (E : Env) (t : TypeId) (v : Value) (K : Value → Option α) : Option α :=
  match E.und t with
  | some (.tuple ts) => match v with | .tuple vs => shapeTs E ts.toList vs.toList fun l => K (.tuple l.toArray) | _ => none
  | _ => shapeT E t v K
/-- The cells from an address on. -/
def loadL (s : St) (i : Nat) : Nat → List CK → (List Value → Option α) → Option α
  | _, [], K => K []
  | off, k :: ks, K => match s.cell i off with | none => none | some v => shape1 k v fun v' => loadL s i (off + 1) ks fun l => K (v' :: l)
def loadT (E : Env) (s : St) (t : TypeId) (a : Value) (K : Value → Option α) : Option α :=
  match a with
  | .pointer (some ⟨i, off, none⟩) =>
    if isAggD (E.und t) then match E.info t with
      | some (_, n, _) => if (E.kindsOf t).length = n then loadL s i off (E.kindsOf t) fun l => K (.agg l.toArray) else none
      | none => none
    else match E.und t with
      | none => none
      | some u => match s.cell i off with
        | none => none
        | some v => shape1 (kindOf (some u)) v K
  | _ => none
/-- A value's cells, by its type. -/
def cellsT (E : Env) (t : TypeId) (v : Value) (K : List Value → Option α) : Option α :=
  if isAggD (E.und t) then match v with | .agg cs => K cs.toList | _ => none
  else if oc v then K [v] else none
end

def ev (E : Env) (g : Regs) : Operand → Value
  | .tmp t => g.getD t undef
  | .const v => if flat v then v else undef
  | .global b => if E.glob b then .pointer (some ⟨b, 0, none⟩) else undef
  | .func f => .func (.func f) #[] #[]
def setDst (g : Regs) : Option Nat → Value → Regs
  | some d, v => g.set d v
  | none, _ => g

/-! ### 4. Operations -/
def eqS : Value → Value → Bool
  | .int _ a, .int _ b => a == b
  | .bool a, .bool b => a == b
  | .string a, .string b => a.toList == b.toList
  | _, _ => false
def eqL : List Value → List Value → Bool
  | [], [] => true
  | a :: l, b :: m => eqS a b && eqL l m
  | _, _ => false

section
variable (E : Env)
def kbin (op : BinOp) (t : TypeId) (x y : Value) (K : Value → Ans) : Ans :=
  match x, y with
  | .int k a, .int k' b =>
    match op with
    | .shl => if b < 0 then none else K (.int k (k.wrap (a * 2 ^ min b.toNat k.bits)))
    | .shr => if b < 0 then none else K (.int k (a.fdiv (2 ^ min b.toNat k.bits)))
    | op => if k = k' then
      match op with
      | .add => K (.int k (k.wrap (a + b)))
      | .sub => K (.int k (k.wrap (a - b)))
      | .mul => K (.int k (k.wrap (a * b)))
      | .quo => if b = 0 then none else K (.int k (k.wrap (a.tdiv b)))
      | .rem => if b = 0 then none else K (.int k (a.tmod b))
      | .and => K (.int k (k.wrap (BitVec.ofInt k.bits a &&& BitVec.ofInt k.bits b).toNat))
      | .or => K (.int k (k.wrap (BitVec.ofInt k.bits a ||| BitVec.ofInt k.bits b).toNat))
      | .xor => K (.int k (k.wrap (BitVec.ofInt k.bits a ^^^ BitVec.ofInt k.bits b).toNat))
      | .andNot => K (.int k (k.wrap (BitVec.ofInt k.bits a &&& ~~~(BitVec.ofInt k.bits b)).toNat))
      | .eql => K (.bool (a == b))
      | .neq => K (.bool (a != b))
      | .lss => K (.bool (decide (a < b)))
      | .leq => K (.bool (decide (a ≤ b)))
      | .gtr => K (.bool (decide (a > b)))
      | .geq => K (.bool (decide (a ≥ b)))
      | _ => none
      else none
  | .string a, .string b =>
    match op with
    | .add => if ((a.size + b.size : Nat) : Int) ≤ 9223372036854775807 then K (.string (a ++ b)) else none
    | .eql => K (.bool (a.toList == b.toList))
    | .neq => K (.bool !(a.toList == b.toList))
    | .lss => K (.bool (Op.bytesLess a.toList b.toList))
    | .leq => K (.bool (Op.bytesLess a.toList b.toList || a.toList == b.toList))
    | .gtr => K (.bool !(Op.bytesLess a.toList b.toList || a.toList == b.toList))
    | .geq => K (.bool !(Op.bytesLess a.toList b.toList))
    | _ => none
  | .agg a, .agg b =>
    match op, E.eqs t with
    | .eql, some ks => shapeL ks a.toList fun l => shapeL ks b.toList fun m => K (.bool (eqL l m))
    | .neq, some ks => shapeL ks a.toList fun l => shapeL ks b.toList fun m => K (.bool !(eqL l m))
    | _, _ => none
  | .bool a, .bool b =>
    match op, E.und t with
    | .eql, some .bool => K (.bool (a == b))
    | .neq, some .bool => K (.bool !(a == b))
    | _, _ => none
  | _, _ => none

def kun (op : UnOp) (x : Value) (K : Value → Ans) : Ans :=
  match x with
  | .int k n => match op with
    | .neg => K (.int k (k.wrap (0 - n)))
    | .xor => K (.int k (k.wrap (BitVec.ofInt k.bits (if k.signed then -1 else k.max) ^^^ BitVec.ofInt k.bits n).toNat))
    | _ => none
  | .bool b => match op with
    | .not => K (.bool !b)
    | _ => none
  | _ => none

/-- The bytes of cells. -/
def nums8 : List Value → Option (List Int)
  | [] => some []
  | .int .u8 n :: l => (nums8 l).map (n :: ·)
  | _ => none

def nums32 : List Value → Option (List Int)
  | [] => some []
  | .int .i32 n :: l => (nums32 l).map (n :: ·)
  | _ => none
/-- The letters of a string. -/
def runesN (b : ByteArray) : Nat → Nat → List Int
  | 0, _ => []
  | k + 1, i => if i < b.size then ((Utf8.decode b i).1 : Int) :: runesN b k (i + (Utf8.decode b i).2) else []
def runesOf (b : ByteArray) : List Int := runesN b b.size 0
/-- A string is made a slice of its letters. -/
def kofstr (src dst : TypeId) (x : Value) (s : St) (K : Value → St → Ans) : Ans :=
  match x with
  | .string b => match E.und src, E.und dst with
    | some .string, some (.slice e) => match E.und e with
      | some (.int .i32) => K (.slice (some ⟨s.next, 0, none⟩) (runesOf b).length (runesOf b).length) (s.new (.row { elem := e, cs := (runesOf b).map (Value.int .i32), mode := .own, root := s.next, stored := false, esz := 1 }))
      | _ => none
    | _, _ => none
  | _ => none
def isSliceD : Option TypeDesc → Bool
  | some (.slice _) => true
  | _ => false
def kconv (src dst : TypeId) (x : Value) (s : St) (K : Value → Ans) : Ans :=
  match x with
  | .int _ n => match E.und src, E.und dst with
    | some _, some (.int k) => K (.int k (k.wrap n))
    | some _, some .string => K (.string (Utf8.encode n))
    | _, _ => none
  | .string b => match E.und src, E.und dst with
    | some _, some .string => K (.string b)
    | _, _ => none
  | .slice a n _ => match E.und src, E.und dst with
    | some (.slice e), some .string => match E.und e with
      | some (.int .u8) => match a with
        | none => K (.string ByteArray.empty)
        | some ⟨i, off, none⟩ => match (s.seen i off n).bind nums8 with
          | some b => K (.string (strOfNums b))
          | none => none
        | _ => none
      | some (.int .i32) => match a with
        | none => K (.string ByteArray.empty)
        | some ⟨i, off, none⟩ => match (s.seen i off n).bind nums32 with
          | some b => K (.string (runesBytes b))
          | none => none
        | _ => none
      | _ => none
    | _, _ => none
  | _ => none

/-- The fields' cells laid over a zero value's. -/
def fillL (place : Nat → Option (Nat × TypeId)) : List (Nat × Value) → List Value → (List Value → Ans) → Ans
  | [], cs, K => K cs
  | (i, v) :: ps, cs, K => match place i with
    | none => none
    | some (off, t) => cellsT E t v fun vs => match E.info t with
      | some (_, n, _) => if vs.length = n ∧ off + vs.length ≤ cs.length then fillL place ps (writeAt cs off vs) K else none
      | none => none
def zeroL (t : TypeId) : Option (List Value) := match E.info t with
  | some (some z, n, _) => if z.cells.size = n ∧ z.cells.toList.all (fun v => flat v) then some z.cells.toList else none
  | _ => none
def kbuild (t : TypeId) (parts : List (Nat × Value)) (K : Value → Ans) : Ans :=
  match zeroL E t with
  | none => none
  | some z => match E.und t with
    | some (.struct fs) => if fs.toList.all (fun f => (E.info f.type).isSome) then fillL E (fun i => (fs[i]?).map fun f => (f.offset, f.type)) parts z fun cs => K (.agg cs.toArray) else none
    | some (.array n e) => match E.info e with
      | some (_, sz, _) => fillL E (fun i => some (i * sz, e)) parts z fun cs => K (.agg cs.toArray)
      | none => none
    | _ => none
def kbuildSlice (t : TypeId) (len : Nat) (parts : List (Nat × Value)) (s : St) (K : Value → St → Ans) : Ans :=
  match E.und t with
  | some (.slice e) => match E.info e with
    | some (_, sz, _) =>
      if len * sz ≤ 16777216 ∧ 0 < sz then
        match zeroL E e with
        | some z => fillL E (fun i => some (i * sz, e)) parts (List.replicate len z).flatten fun cs =>
          if cs.all oc then K (.slice (some ⟨s.next, 0, none⟩) len len) (s.new (.row { elem := e, cs := cs, mode := .own, root := s.next, stored := false, esz := sz })) else none
        | none => none
      else none
    | none => none
  | _ => none
def kmakeSlice (t : TypeId) (len cap : Value) (s : St) (K : Value → St → Ans) : Ans :=
  match E.und t with
  | some (.slice e) => match E.info e, len, cap with
    | some (_, sz, bytes), .int _ n, .int _ c =>
      if 0 ≤ n ∧ n ≤ c ∧ c * bytes ≤ 140737488355328 ∧ c ≤ 140737488355328 ∧ 0 < sz then
        match zeroL E e with
        | some z => if z.all oc then
            K (.slice (some ⟨s.next, 0, none⟩) n.toNat c.toNat) (s.new (.row { elem := e, cs := (List.replicate c.toNat z).flatten, mode := .own, root := s.next, stored := false, esz := sz }))
          else none
        | none => none
      else none
    | _, _, _ => none
  | _ => none

/-- A bound of a slice expression: an int, or what stands for none. -/
def kbound (x : Option Value) (d : Nat) (K : Int → Ans) : Ans :=
  match x with
  | none => K d
  | some v => match v with | .int _ n => K n | _ => none
def kslice (t : TypeId) (x : Value) (lo hi mx : Option Value) (s : St) (K : Value → Ans) : Ans :=
  match x with
  | .string b => match E.und t, mx with
    | some .string, none => kbound lo 0 fun l => kbound hi b.size fun h =>
      if 0 ≤ l then if l ≤ h then if h ≤ b.size then K (.string (b.extract l.toNat h.toNat)) else none else none else none
    | _, _ => none
  | .slice none 0 0 => match E.und t, mx with
    | some (.slice e), none => match E.info e with
      | some _ => kbound lo 0 fun l => kbound hi 0 fun h => if l = 0 ∧ h = 0 then K (.slice none 0 0) else none
      | none => none
    | _, _ => none
  | .slice (some ⟨i, off, none⟩) n c => match E.und t, mx with
    | some (.slice e), none => match E.info e, s.row? i with
      | some (_, sz, _), some r => if r.esz = 0 ∨ r.esz = sz then
        kbound lo 0 fun l => kbound hi n fun h =>
          if 0 ≤ l then if l ≤ h then if h ≤ c then K (.slice (some ⟨i, off + l.toNat * sz, none⟩) (h - l).toNat (c - l.toNat)) else none else none else none
        else none
      | _, _ => none
    | _, _ => none
  | _ => none

def kindexAddr (t : TypeId) (x i : Value) (K : Value → Ans) : Ans :=
  match i with
  | .int _ i => match E.und t with
    | some (.slice e) => match E.info e with
      | some (_, sz, _) => match x with
        | .slice a n _ => if 0 ≤ i then if i < n then match a with
            | some ⟨b, off, none⟩ => K (.pointer (some ⟨b, off + i.toNat * sz, none⟩))
            | _ => none
          else none else none
        | _ => none
      | none => none
    | some (.array n e) => match E.info e with
      | some (_, sz, _) => match x with
        | .pointer (some ⟨b, off, none⟩) => if 0 ≤ i then if i < n then K (.pointer (some ⟨b, off + i.toNat * sz, none⟩)) else none else none
        | _ => none
      | none => none
    | _ => none
  | _ => none

def kindex (t : TypeId) (x i : Value) (K : Value → Ans) : Ans :=
  match i with
  | .int _ i => match x with
    | .string b => match E.und t with
      | some .string => if 0 ≤ i then if h : i.toNat < b.size then K (.int .u8 ((b[i.toNat]'h).toNat)) else none else none
      | _ => none
    | _ => none
  | _ => none

def kfieldAddr (t : TypeId) (x : Value) (f : Nat) (K : Value → Ans) : Ans :=
  match E.und t with
  | some (.struct fs) => match fs[f]? with
    | some fd => match E.info fd.type with
      | some (_, sz, _) => if sz = 0 then none else match x with
        | .pointer (some ⟨b, off, none⟩) => K (.pointer (some ⟨b, off + fd.offset, none⟩))
        | _ => none
      | none => none
    | none => none
  | _ => none
def kfield (t : TypeId) (x : Value) (f : Nat) (K : Value → Ans) : Ans :=
  match E.und t with
  | some (.struct fs) => match fs[f]? with
    | some fd => match x with
      | .agg cs => match E.info fd.type with
        | some (_, sz, _) => if fd.offset + sz ≤ cs.size then
            if isAggD (E.und fd.type) then K (.agg ((cs.toList.drop fd.offset).take sz).toArray)
            else match E.und fd.type, cs.toList.drop fd.offset with
              | some _, v :: _ => K v
              | _, _ => none
          else none
        | none => none
      | _ => none
    | none => none
  | _ => none

def klen (t : TypeId) (x : Value) (K : Value → Ans) : Ans :=
  match E.und t with
  | some .string => match x with | .string b => K (.int .i64 b.size) | _ => none
  | some (.slice _) => match x with | .slice _ n _ => K (.int .i64 n) | _ => none
  | _ => none

/-- The room of a slice is known of none alone. -/
def kcap (t : TypeId) (x : Value) (K : Value → Ans) : Ans :=
  match E.und t with
  | some (.slice _) => match x with | .slice none 0 0 => K (.int .i64 0) | _ => none
  | _ => none

/-- The cells of append's second argument, and how many elements they are. -/
def appended (t : TypeId) (size : Nat) (x : Value) (s : St) : Option (List Value × Nat) :=
  match E.und t, x with
  | some (.slice _), .slice none 0 0 => some ([], 0)
  | some (.slice _), .slice (some ⟨i, off, none⟩) n _ => (s.seen i off (n * size)).map fun l => (l, n)
  | some .string, .string b => if size = 1 then some (b.data.toList.map fun x => .int .u8 x.toNat, b.size) else none
  | _, _ => none
def kappend (ts : Array TypeId) (x y : Value) (s : St) (K : Value → St → Ans) : Ans :=
  match ts[0]?, ts[1]? with
  | some t, some u => match E.und t with
    | some (.slice e) => match E.info e with
      | some (some z, sz, bytes) => match appended E u sz y s with
        | some (news, m) => if z.cells.size = sz then match s.app x e sz bytes news m with
            | some (v, s') => K v s'
            | none => none
          else none
        | none => none
      | _ => none
    | _ => none
  | _, _ => none

/-- append(nil, make(n)...): the program hands over the number. -/
def kappz (ts : Array TypeId) (x y : Value) (s : St) (K : Value → St → Ans) : Ans :=
  match ts[0]?, ts[1]? with
  | some t, some u => match E.und t, E.und u, x, y with
    | some (.slice e), some (.int _), .slice none 0 0, .int _ n => match E.info e, zeroL E e with
      | some (_, sz, bytes), some z =>
        if 0 < n ∧ n * bytes ≤ 140737488355328 ∧ n ≤ 140737488355328 ∧ 0 < sz ∧ z.all oc then
          K (.slice (some ⟨s.next, 0, none⟩) n.toNat n.toNat) (s.new (.row { elem := e, cs := (List.replicate n.toNat z).flatten, mode := .own, root := s.next, stored := false, esz := sz }))
        else none
      | _, _ => none
    | _, _, _, _ => none
  | _, _ => none
def isIntD : Option TypeDesc → Bool
  | some (.int _) => true
  | _ => false

def kcallee (call : FuncId → List Value → St → Ans) (t : TypeId) (f : Value) (args : List Value) (s : St) (K : Value → St → Ans) (Kp : List PanicEntry → St → Ans) : Ans :=
  match f with
  | .func (.func f) first cap => match E.fn f with
    | some _ => match call f (first.toList ++ args ++ cap.toList) s with
      | some (.ret v, s') => shapeR E t v fun v' => K v' s'
      | some (.pan ch, s') => Kp ch s'
      | none => none
    | none => none
  | _ => none

/-- The next letter of a string. -/
def nxt (s : St) (i o : Nat) (K : Int → Int → St → Ans) (Ke : Ans) : Ans :=
  match o with
  | 0 => match s.get i with
    | some (.siter b pos) => if pos < b.size then K pos (Utf8.decode b pos).1 ((s.put i (.siter b (pos + (Utf8.decode b pos).2))).wrote i) else Ke
    | _ => none
  | _ + 1 => none
def knext (x : Value) (str : Bool) (s : St) (K : Value → St → Ans) : Ans :=
  match x, str with
  | .pointer (some ⟨i, o, none⟩), true => nxt s i o (fun p c s' => K (.tuple #[.bool true, .int .i64 p, .int .i32 c]) s') (K (.tuple #[.bool false]) s)
  | _, _ => none
def extOf : Operand → Option (List Value → Option Value)
  | .func f => E.ext f
  | _ => none
def kop (call : FuncId → List Value → St → Ans) (o : Oper) (g : Regs) (s : St) (K : Value → St → Ans) (Kp : List PanicEntry → St → Ans) : Ans :=
  match o.op with
  | .move x => K (ev E g x) s
  | .assign x => K (ev E g x) s
  | .pick c a b => match ev E g c with | .bool t => if t then K (ev E g a) s else K (ev E g b) s | _ => none
  | .alloc t => match zeroL E t with
    | some z => K (.pointer (some ⟨s.next, 0, none⟩)) (s.new (.box t z))
    | none => none
  | .box t x => cellsT E t (ev E g x) fun cs => K (.pointer (some ⟨s.next, 0, none⟩)) (s.new (.box t cs))
  | .build t ps => kbuild E t (ps.toList.map fun p => (p.1, ev E g p.2)) fun v => K v s
  | .buildSlice t n ps => kbuildSlice E t n (ps.toList.map fun p => (p.1, ev E g p.2)) s K
  | .load t a => loadT E s t (ev E g a) fun v => K v s
  | .store t a x => match ev E g a with
    | .pointer (some ⟨i, off, none⟩) => cellsT E t (ev E g x) fun vs => match E.info t with
      | some (_, n, _) => if vs.length = n then match s.wr i off vs with
          | some s' => K undef s'
          | none => none
        else none
      | none => none
    | _ => none
  | .nilCheck x => match ev E g x with
    | .pointer a => match a with | some a => K (.pointer (some a)) s | none => none
    | _ => none
  | .binOp op t x y _ => kbin E op t (ev E g x) (ev E g y) fun v => K v s
  | .unOp op _ x => kun op (ev E g x) fun v => K v s
  | .convert a b x => if isSliceD (E.und b) then kofstr E a b (ev E g x) s K else kconv E a b (ev E g x) s fun v => K v s
  | .makeFunc fn first cap => K (.func fn ((first.toList.map (ev E g)).toArray) ((cap.toList.map (ev E g)).toArray)) s
  | .makeSlice t n c => kmakeSlice E t (ev E g n) (ev E g c) s K
  | .slice t x lo hi mx => kslice E t (ev E g x) (lo.map (ev E g)) (hi.map (ev E g)) (mx.map (ev E g)) s fun v => K v s
  | .fieldAddr t x f => kfieldAddr E t (ev E g x) f fun v => K v s
  | .field t x f => kfield E t (ev E g x) f fun v => K v s
  | .indexAddr t x i => kindexAddr E t (ev E g x) (ev E g i) fun v => K v s
  | .index t x i => kindex E t (ev E g x) (ev E g i) fun v => K v s
  | .extract x i => match ev E g x with
    | .tuple vs => match vs.toList[i]? with | some v => K v s | none => none
    | _ => none
  | .call c => match c.callee with
    | .value f => match extOf E f with
      | some e => match e (c.args.toList.map (ev E g)) with | some v => K v s | none => none
      | none => kcallee E call o.type (ev E g f) (c.args.toList.map (ev E g)) s K Kp
    | .builtin b => match b, c.args.toList with
      | .len, [x] => match c.argTypes[0]? with | some t => klen E t (ev E g x) fun v => K v s | none => none
      | .cap, [x] => match c.argTypes[0]? with | some t => kcap E t (ev E g x) fun v => K v s | none => none
      | .append, [x, y] => if isIntD (c.argTypes[1]?.bind E.und) then kappz E c.argTypes (ev E g x) (ev E g y) s K else kappend E c.argTypes (ev E g x) (ev E g y) s K
      | .min, [x, y] => match ev E g x, ev E g y with | .int k a, .int k' b => if k = k' then K (.int k (if b < a then b else a)) s else none | _, _ => none
      | .max, [x, y] => match ev E g x, ev E g y with | .int k a, .int k' b => if k = k' then K (.int k (if a < b then b else a)) s else none | _, _ => none
      | _, _ => none
    | _ => none
  | .range t x => match E.und t, ev E g x with
    | some .string, .string b => K (.pointer (some ⟨s.next, 0, none⟩)) (s.new (.siter b 0))
    | _, _ => none
  | .next x str => knext (ev E g x) str s K
  | .panic x => match ev E g x with
    | .iface t v => Kp [{ v := .iface t v, recovered := false }] s
    | _ => none
  | _ => none

/-! ### 5. Regions, code, calls -/
def kops (call : FuncId → List Value → St → Ans) (all : Array Oper) : List Oper → Regs → St → (Regs → St → Ans) → (Regs → List PanicEntry → St → Ans) → Ans
  | [], g, s, K, _ => K g s
  | o :: rest, g, s, K, Kp => match o.guard with
    | none => kop E call o g s (fun v s' => kops call all rest (setDst g o.dst v) s' K Kp) (fun ch s' => Kp g ch s')
    | some (j, want) => match (all[j]?).bind (·.dst) with
      | none => none
      | some d => match g.getD d undef with
        | .bool b =>
          if b then
            if want then kop E call o (g.set d (.bool true)) s (fun v s' => kops call all rest (setDst (g.set d (.bool true)) o.dst v) s' K Kp) (fun ch s' => Kp (g.set d (.bool true)) ch s')
            else kops call all rest (setDst (g.set d (.bool true)) o.dst skipV) s K Kp
          else
            if want then kops call all rest (setDst (g.set d (.bool false)) o.dst skipV) s K Kp
            else kop E call o (g.set d (.bool false)) s (fun v s' => kops call all rest (setDst (g.set d (.bool false)) o.dst v) s' K Kp) (fun ch s' => Kp (g.set d (.bool false)) ch s')
        | .chan (some 0) => kops call all rest (setDst g o.dst skipV) s K Kp
        | _ => none

def maskFrom (live : List Nat) : Nat → Regs → Regs
  | _, [] => []
  | i, v :: g => (if live.contains i then v else undef) :: maskFrom live (i + 1) g
def mask (h : Option (List Nat)) (g : Regs) : Regs := match h with | some l => maskFrom l 0 g | none => g

abbrev Kont := X → Regs → St → Ans
def kloop (body : Regs → St → Kont → Ans) : Nat → Regs → St → Kont → Ans
  | 0, _, _, _ => none
  | n + 1, g, s, K => body g s fun e g s => match e with
    | .normal => kloop body n g s K
    | .exit i => K (.exit i) g s
    | .ret => K .ret g s
    | .pan c => K (.pan c) g s

/-- What an operation does with memory. N: nothing. Rd: it reads. Al: it makes one object. C: a call. Ef: anything. -/
inductive Cls where
  | N | Rd | Al | C | Ef
  deriving DecidableEq
def cls (E : Env) (o : Oper) : Cls :=
  match o.op with
  | .move _ | .assign _ | .pick .. | .build .. | .nilCheck _ | .binOp .. | .unOp .. | .makeFunc .. | .fieldAddr .. | .field .. | .indexAddr .. | .index .. | .extract .. => .N
  | .convert src dst _ => if isSliceD (E.und dst) then .Ef else match E.und src with | some (.slice _) => .Rd | _ => .N
  | .slice t _ _ _ _ => match E.und t with | some .string => .N | _ => .Rd
  | .load .. => .Rd
  | .alloc _ | .box .. | .buildSlice .. | .makeSlice .. | .range .. => .Al
  | .call { callee := .builtin .len, .. } | .call { callee := .builtin .cap, .. } | .call { callee := .builtin .min, .. } | .call { callee := .builtin .max, .. } => .N
  | .call { callee := .value f, .. } => if (extOf E f).isSome then .N else .C
  | _ => .Ef

/-! ### Regions that draw their order -/
def isB : Option AObj → Bool
  | some (.box ..) => true
  | _ => false
/-- N: touches no memory. Z: a call that needs none. Rd: reads. RdB: reads a box, in a region with an A. P: a call that only reads. Al: makes an object. A: writes no box that was there. Ap: the builtin append. Ef: anything. -/
inductive DC where
  | N | Z | Rd | RdB | P | Al | A | Ap | Ef
  deriving DecidableEq
def isApp (o : Oper) : Bool := match o.op with | .call { callee := .builtin .append, .. } => true | _ => false
def callCls (o : Oper) : DC := match o.op with
  | .call { callee := .value (.func f), .. } => if E.pure f then .Z else if E.reads f then .P else if E.wrb f then .Ef else .A
  | _ => .Ef
def hasA (all : Array Oper) : Bool := all.toList.any fun o => match cls E o with | .C => (match callCls E o with | .A => true | _ => false) | .Ef => isApp o | _ => false
def addrBox (all : Array Oper) : Nat → Operand → Bool
  | 0, _ => false
  | n + 1, x => match x with
    | .tmp t => match all.toList.find? (fun o => match o.dst with | some d => d == t | none => false) with
      | none => true
      | some o => match o.op with
        | .fieldAddr _ x _ => addrBox all n x
        | .nilCheck x => addrBox all n x
        | .move x => addrBox all n x
        | .load .. => true
        | _ => false
    | _ => false
def isLoadB (all : Array Oper) (o : Oper) : Bool := match o.op with | .load _ x => addrBox all 10 x | _ => false
def dcl (all : Array Oper) (o : Oper) : DC :=
  match cls E o with
  | .N => .N
  | .Rd => if hasA E all && isLoadB all o then .RdB else .Rd
  | .Al => .Al
  | .Ef => if isApp o then .Ap else .Ef
  | .C => callCls E o
def St.bare : St := { next := 0, low := 0, lowb := 0, tab := .leaf }
def isU : Value → Bool
  | .tuple a => a.toList.isEmpty
  | _ => false
def flat2 : Value → Bool
  | .agg a => a.toList.all flat
  | .tuple a => !a.toList.isEmpty && a.toList.all fun v => flat v || match v with | .agg b => b.toList.all flat | _ => false
  | v => flat v
def kopD (call : FuncId → List Value → St → Ans) (all : Array Oper) (o : Oper) (g : Regs) (s : St) (K : Value → St → Ans) (Kp : List PanicEntry → St → Ans) : Ans :=
  match dcl E all o with
  | .Z => if E.noGlob && g.all (fun v => flat v || isU v) then kop E call o g St.bare (fun v _ => if flat2 v then K v s else none) (fun _ _ => none) else none
  | .P => kop E call o g { s with low := s.next } (fun v s' => if flat2 v && decide (s.next ≤ s'.low) then K v s else none) (fun _ _ => none)
  | .A => kop E call o g { s with lowb := s.next } (fun v s' => if s.next ≤ s'.lowb then K v { s' with lowb := min s.lowb s'.lowb } else none) (fun ch s' => Kp ch { s' with lowb := min s.lowb s'.lowb })
  | .Ap => kop E call o g { s with lowb := s.next } (fun v s' => if s.next ≤ s'.lowb then K v { s' with lowb := min s.lowb s'.lowb } else none) (fun _ _ => none)
  | .RdB => match o.op with
    | .load t x => match ev E g x with
      | .pointer (some ⟨i, off, none⟩) => if isB (s.get i) then loadT E s t (.pointer (some ⟨i, off, none⟩)) fun v => K v s else none
      | _ => none
    | _ => none
  | _ => kop E call o g s K Kp
def kguard (all : Array Oper) (o : Oper) (g : Regs) (A B : Regs → Ans) : Ans :=
  match o.guard with
  | none => A g
  | some (j, want) => match (all[j]?).bind (·.dst) with
    | none => none
    | some d => match g.getD d undef with
      | .bool b =>
        if b then if want then A (g.set d (.bool true)) else B (g.set d (.bool true))
        else if want then B (g.set d (.bool false)) else A (g.set d (.bool false))
      | .chan (some 0) => B g
      | _ => none
def kopsD (call : FuncId → List Value → St → Ans) (all : Array Oper) : Nat → List Oper → Regs → St → (Regs → St → Ans) → (Nat → List PanicEntry → St → Ans) → Ans
  | _, [], g, s, K, _ => K g s
  | i, o :: rest, g, s, K, Kp =>
    kguard all o g (fun g => kopD E call all o (mask (some (o.looksAt all)) g) s (fun v s' => kopsD call all (i + 1) rest (setDst g o.dst v) s' K Kp) (fun ch s' => Kp i ch s'))
      (fun g => kopsD call all (i + 1) rest (setDst g o.dst skipV) s K Kp)
/-- Of each operation: those that always come ahead of it. -/
def befs : List Oper → List (List Nat) → List (List Nat)
  | [], tab => tab
  | o :: rest, tab => befs rest (tab ++ [(o.after.toList.filter (Region.binds .any)).flatMap fun e => e.on :: tab.getD e.on []])
def prec (tab : List (List Nat)) (i j : Nat) : Bool := (tab.getD j []).contains i
def clash : DC → DC → Bool
  | .N, _ | .Z, _ | _, .N | _, .Z => false
  | .Rd, .Rd | .Rd, .RdB | .Rd, .P | .Rd, .Al => false
  | .RdB, .Rd | .RdB, .RdB | .RdB, .P | .RdB, .Al | .RdB, .A | .RdB, .Ap => false
  | .P, .Rd | .P, .RdB | .P, .P => false
  | .Al, .Rd | .Al, .RdB | .Al, .Ap => false
  | .A, .RdB | .Ap, .RdB => false
  | _, _ => true
def pairRow (all : Array Oper) (tab : List (List Nat)) (x : Oper) (i : Nat) : Nat → List Oper → Bool
  | _, [] => true
  | j, y :: rest => (prec tab i j || (x.apart all y && !clash (dcl E all x) (dcl E all y))) && pairRow all tab x i (j + 1) rest
def pairsAll (all : Array Oper) (tab : List (List Nat)) : Nat → List Oper → Bool
  | _, [] => true
  | i, x :: rest => x.after.toList.all (fun e => !Region.binds .any e || decide (e.on < i)) && pairRow E all tab x i (i + 1) rest && pairsAll all tab (i + 1) rest
def ordOk (ops : Array Oper) : Bool := pairsAll E ops (befs ops.toList []) 0 ops.toList
def allAfter (ops : Array Oper) (i : Nat) : Bool := (List.range ops.size).all fun k => decide (k ≤ i) || prec (befs ops.toList []) i k
def clear (ops : List Oper) (g : Regs) : Regs := ops.foldl (fun g o => setDst g o.dst undef) g
/-- The regions of a code that are said to be in order are. -/
def codeOk (ord : Nat → Bool) : Code → Bool
  | .region id ops draw => !draw || !ord id || ordOk E ops
  | .seq a b => codeOk ord a && codeOk ord b
  | .cond _ a b => codeOk ord a && codeOk ord b
  | .block _ c => codeOk ord c
  | .loop c => codeOk ord c
  | .scope c => codeOk ord c
  | .rangeFunc _ _ a b => codeOk ord a && codeOk ord b
  | _ => true

def kexec (call : FuncId → List Value → St → Ans) (n : Nat) (hint : Nat → Option (List Nat)) (ord : Nat → Bool) : Code → Regs → St → Kont → Ans
  | .skip, g, s, K => K .normal g s
  | .region id ops draw, g, s, K =>
    match draw with
    | false => kops E call ops ops.toList g s (fun g s => K .normal (mask (hint id) g) s) (fun g ch s => K (.pan ch) g s)
    | true => if ord id then kopsD E call ops 0 ops.toList g s (fun g s => K .normal (mask (hint id) g) s) (fun i ch s => if allAfter ops i then K (.pan ch) (clear ops.toList g) s else none) else none
  | .seq a b, g, s, K => kexec call n hint ord a g s fun e g s => match e with
    | .normal => kexec call n hint ord b g s K
    | .exit i => K (.exit i) g s
    | .ret => K .ret g s
    | .pan c => K (.pan c) g s
  | .cond c a b, g, s, K => match c with
    | .tmp t => match g.getD t undef with
      | .bool v => if v then kexec call n hint ord a (g.set t (.bool true)) s K else kexec call n hint ord b (g.set t (.bool false)) s K
      | _ => none
    | _ => none
  | .block id c, g, s, K => kexec call n hint ord c g s fun e g s => match e with
    | .normal => K .normal g s
    | .exit i => if i = id then K .normal g s else K (.exit i) g s
    | .ret => K .ret g s
    | .pan c => K (.pan c) g s
  | .loop c, g, s, K => kloop (fun g s K => kexec call n hint ord c g s K) n g s K
  | .exit i, g, s, K => K (.exit i) g s
  | .ret, g, s, K => K .ret g s
  | _, _, _, _ => none

def resultL (s : St) (g : Regs) : List ResultVar → (List Value → Ans) → Ans
  | [], K => K []
  | .tmp t :: r, K => resultL s g r fun l => K (g.getD t undef :: l)
  | .cell a t :: r, K => loadT E s t (g.getD a undef) fun v => resultL s g r fun l => K (v :: l)
def oneOf : List Value → Value
  | [v] => v
  | l => .tuple l.toArray

def acall : Nat → FuncId → List Value → St → Ans
  | 0, _, _, _ => none
  | n + 1, f, args, s => match E.sum f with
    | some e => match e args s with
      | some v => some (.ret v, s)
      | none => none
    | none => match E.sumW f with
      | some e => e args s
      | none => match E.fn f with
        | none => none
        | some fn => match fn.body with
          | none => none
          | some c => kexec E (acall n) n (E.hint f) (E.ord f) c (args ++ List.replicate (fn.ntmps - args.length) undef) s fun e g s => match e with
            | .normal => resultL E s g fn.results.toList fun l => some (.ret (oneOf l), s)
            | .ret => resultL E s g fn.results.toList fun l => some (.ret (oneOf l), s)
            | .pan ch => some (.pan ch, s)
            | .exit _ => none
end
end Go.Proofs.YtckalckfihhldaaDoorF
