/- The functions of the law of names, told as plain functions. -/
import Derived.Test.YtckalckfihhldaaDoorG2
import Derived.Test.YtckalckfihhldaaDoorF22c
set_option linter.unusedVariables false
set_option linter.unusedSimpArgs false
namespace Go.Proofs.YtckalckfihhldaaDoorF
open Go Go.Proofs
set_option maxRecDepth 100000
set_option maxHeartbeats 2000000


theorem u22 : E.und 22 = some (.slice 63) := by kernel_rfl
theorem u31 : E.und 31 = some (.slice 9) := by kernel_rfl
theorem u54 : E.und 54 = some (.slice 60) := by kernel_rfl
theorem u58 : E.und 58 = some (.slice 3) := by kernel_rfl
/-! ### Package variables that are read -/
def gT0 : List Int := [0, 0, 0, 0, 0, 0, 0, 0, 0, 1, 1, 1, 1, 1, 0, 0, 0, 0, 0, 0, 0, 0, 0, 0, 0, 0, 0, 0, 0, 0, 0, 0, 1, 0, 0, 0, 0, 0, 0, 0, 0, 0, 0, 0, 0, 0, 0, 0, 0, 0, 0, 0, 0, 0, 0, 0, 0, 0, 0, 0, 0, 0, 0, 0, 0, 0, 0, 0, 0, 0, 0, 0, 0, 0, 0, 0, 0, 0, 0, 0, 0, 0, 0, 0, 0, 0, 0, 0, 0, 0, 0, 0, 0, 0, 0, 0, 0, 0, 0, 0, 0, 0, 0, 0, 0, 0, 0, 0, 0, 0, 0, 0, 0, 0, 0, 0, 0, 0, 0, 0, 0, 0, 0, 0, 0, 0, 0, 0, 0, 0, 0, 0, 0, 0, 0, 0, 0, 0, 0, 0, 0, 0, 0, 0, 0, 0, 0, 0, 0, 0, 0, 0, 0, 0, 0, 0, 0, 0, 0, 0, 0, 0, 0, 0, 0, 0, 0, 0, 0, 0, 0, 0, 0, 0, 0, 0, 0, 0, 0, 0, 0, 0, 0, 0, 0, 0, 0, 0, 0, 0, 0, 0, 0, 0, 0, 0, 0, 0, 0, 0, 0, 0, 0, 0, 0, 0, 0, 0, 0, 0, 0, 0, 0, 0, 0, 0, 0, 0, 0, 0, 0, 0, 0, 0, 0, 0, 0, 0, 0, 0, 0, 0, 0, 0, 0, 0, 0, 0, 0, 0, 0, 0, 0, 0, 0, 0, 0, 0, 0, 0, 0, 0, 0, 0, 0, 0]
structure GlobOk (s : St) : Prop where
  g0 : Lo s 0 0 (gT0.map (Value.int .u8))
  gm : MaxOk 1 s
theorem GlobOk.ext {s s' : St} (h1 : s.next ≤ s'.next) (h2 : Kr s.next s s') (h : GlobOk s) : GlobOk s' := ⟨h.g0.ext h1 h2, h.gm.imp fun _ k => k.ext h1 h2⟩
theorem Cx.gl {N : Nat} {X Z : List Nat} {s0 s : St} {L : List (Nat × AObj)} {B : List On} {G : List Fa} (C : Cx N X Z s0 s L B G) (hN : s0.next = N) (h : GlobOk s0) : GlobOk s := h.ext C.keep.next (by rw [hN]; exact C.kr)
theorem gAt0 {s : St} (h : GlobOk s) {i x : Int} (hx : gT0[i.toNat]? = some x) : At s 0 (0 + i.toNat * 1) (.int .u8 x) := by
  rw [Nat.mul_one]
  exact h.g0.at _ (by rw [List.getElem?_map, hx]; rfl)
abbrev P48 (N : Nat) (X : List Nat) (r : Int) (v : Value) (s : St) : Prop := v = (Value.int .i64 r)
def p48 (n : Nat) (p0 : ByteArray) (p1 : ByteArray) : Option Int := match n with | 0 => none | _ + 1 => idP p0 p1
theorem t48 (k : Nat) (p0 : ByteArray) (p1 : ByteArray) (s0 : St) (gl0 : GlobOk s0) :
    Rf (p48 k p0 p1) (fun _ => True) (fun r => RtC s0.next [] [] s0 (P48 s0.next [] r)) (acall E k 48 [(Value.string p0), (Value.string p1)] s0) := by
  unfold p48
  exact Rf.sum (e := (sumIndex 1)) rfl (fun r hr => ⟨(Value.int .i64 r), by unfold sumIndex; exact (if_pos gl0.gm).trans (by rw [hr]; rfl), rfl⟩)
abbrev P49 (N : Nat) (X : List Nat) (r : Bool) (v : Value) (s : St) : Prop := v = (Value.bool r)
def p49 (n : Nat) (p0 : ByteArray) (p1 : ByteArray) : Option Bool := match n with | 0 => none | _ + 1 => caP p0 p1
theorem t49 (k : Nat) (p0 : ByteArray) (p1 : ByteArray) (s0 : St) (gl0 : GlobOk s0) :
    Rf (p49 k p0 p1) (fun _ => True) (fun r => RtC s0.next [] [] s0 (P49 s0.next [] r)) (acall E k 49 [(Value.string p0), (Value.string p1)] s0) := by
  unfold p49
  exact Rf.sum (e := sumContainsAny) rfl (fun r hr => ⟨(Value.bool r), by simp only [sumContainsAny, hr, Option.map_some], rfl⟩)
abbrev P52 (N : Nat) (X : List Nat) (r : Int) (v : Value) (s : St) : Prop := v = (Value.int .i64 r)
def p52 (n : Nat) (p0 : ByteArray) (p1 : ByteArray) : Option Int := match n with | 0 => none | _ + 1 => coP p0 p1
theorem t52 (k : Nat) (p0 : ByteArray) (p1 : ByteArray) (s0 : St) (gl0 : GlobOk s0) :
    Rf (p52 k p0 p1) (fun _ => True) (fun r => RtC s0.next [] [] s0 (P52 s0.next [] r)) (acall E k 52 [(Value.string p0), (Value.string p1)] s0) := by
  unfold p52
  exact Rf.sum (e := sumCount) rfl (fun r hr => ⟨(Value.int .i64 r), by simp only [sumCount, hr, Option.map_some], rfl⟩)
-- 39 "internal/stringslite.HasPrefix"
abbrev P39 (N : Nat) (X : List Nat) (r : Bool) (v : Value) (s : St) : Prop := v = (Value.bool r)
def p39 : Nat → ByteArray → ByteArray → Option Bool
  | 0, _, _ => none
  | n + 1, p0, p1 => (pj (fun (b3 : Bool) => some (b3 : Bool)) (fun J2 => if (decide (((p0.size : Nat) : Int) ≥ (p1.size : Nat))) then (subP p0 0 (p1.size : Nat) (fun z1 => (J2 (z1.toList == p1.toList)))) else ((J2 false))))
theorem t39 (k : Nat) (p0 : ByteArray) (p1 : ByteArray) (s0 : St) (gl0 : GlobOk s0) :
    Rf (p39 k p0 p1) (fun _ => True) (fun r => RtC s0.next [] [] s0 (P39 s0.next [] r)) (acall E k 39 [(Value.string p0), (Value.string p1)] s0) := by
  cases k with
  | zero => exact Rf.none
  | succ n =>
    rw [e39 n]
    rw [p39]
    refine Rf.gen fun H Q hH hQ => ?_
    have C0 : Cx s0.next [] [] s0 s0 [] [] [] := Cx.start s0
    refine Rf.pj fun J2 J2' hJ2 hJ2' => ?_
    have J2h : ∀ (b3 : Bool) (_ : Cx s0.next [] [] s0 s0 [] [] []), Rf (J2 b3) H Q (J2' b3) := by
      subst hJ2
      subst hJ2'
      intro b3 C5
      subst hH; subst hQ
      exact Rf.leaf fun _ => Ev.done (Rf.ret C5 rfl)
    clear hJ2 hJ2'
    refine Rf.ite ?_ ?_
    · refine Rf.subS fun z1 => ?_
      exact J2h (z1.toList == p1.toList) (C0.sub (List.Sublist.refl _) (List.Sublist.refl _) (List.Sublist.refl _))
    · exact J2h false (C0.sub (List.Sublist.refl _) (List.Sublist.refl _) (List.Sublist.refl _))
-- 24 "strings.HasPrefix"
abbrev P24 (N : Nat) (X : List Nat) (r : Bool) (v : Value) (s : St) : Prop := v = (Value.bool r)
def p24 : Nat → ByteArray → ByteArray → Option Bool
  | 0, _, _ => none
  | n + 1, p0, p1 => ((p39 n p0 p1).bind fun r1 => (some (r1 : Bool)))
theorem t24 (k : Nat) (p0 : ByteArray) (p1 : ByteArray) (s0 : St) (gl0 : GlobOk s0) :
    Rf (p24 k p0 p1) (fun _ => True) (fun r => RtC s0.next [] [] s0 (P24 s0.next [] r)) (acall E k 24 [(Value.string p0), (Value.string p1)] s0) := by
  cases k with
  | zero => exact Rf.none
  | succ n =>
    rw [e24 n]
    rw [p24]
    refine Rf.gen fun H Q hH hQ => ?_
    have C0 : Cx s0.next [] [] s0 s0 [] [] [] := Cx.start s0
    refine Rf.call0 C0 (t39 n p0 p1 s0 (C0.gl rfl gl0)) ?_
    rintro r1 _ s2 rfl h4
    have C5 : Cx s0.next [] [] s0 s2 [] [] [] := h4 [] (by simp) List.Pairwise.nil
    refine (Rf.asB ?_)
    subst hH; subst hQ
    exact Rf.leaf fun _ => Ev.done (Rf.ret C5 rfl)
-- 40 "internal/stringslite.TrimPrefix"
abbrev P40 (N : Nat) (X : List Nat) (r : ByteArray) (v : Value) (s : St) : Prop := v = (Value.string r)
def p40 : Nat → ByteArray → ByteArray → Option ByteArray
  | 0, _, _ => none
  | n + 1, p0, p1 => ((p39 n p0 p1).bind fun r1 => (if r1 then (subP p0 (p1.size : Nat) (p0.size : Nat) (fun z6 => ((some (z6 : ByteArray))))) else (((some (p0 : ByteArray))))))
theorem t40 (k : Nat) (p0 : ByteArray) (p1 : ByteArray) (s0 : St) (gl0 : GlobOk s0) :
    Rf (p40 k p0 p1) (fun _ => True) (fun r => RtC s0.next [] [] s0 (P40 s0.next [] r)) (acall E k 40 [(Value.string p0), (Value.string p1)] s0) := by
  cases k with
  | zero => exact Rf.none
  | succ n =>
    rw [e40 n]
    rw [p40]
    refine Rf.gen fun H Q hH hQ => ?_
    have C0 : Cx s0.next [] [] s0 s0 [] [] [] := Cx.start s0
    refine Rf.call0 C0 (t39 n p0 p1 s0 (C0.gl rfl gl0)) ?_
    rintro r1 _ s2 rfl h4
    have C5 : Cx s0.next [] [] s0 s2 [] [] [] := h4 [] (by simp) List.Pairwise.nil
    refine (Rf.asB ?_)
    refine Rf.ite ?_ ?_
    · refine Rf.subS fun z6 => ?_
      subst hH; subst hQ
      exact Rf.leaf fun _ => Ev.done (Rf.ret C5 rfl)
    · subst hH; subst hQ
      exact Rf.leaf fun _ => Ev.done (Rf.ret C5 rfl)
-- 25 "strings.TrimPrefix"
abbrev P25 (N : Nat) (X : List Nat) (r : ByteArray) (v : Value) (s : St) : Prop := v = (Value.string r)
def p25 : Nat → ByteArray → ByteArray → Option ByteArray
  | 0, _, _ => none
  | n + 1, p0, p1 => ((p40 n p0 p1).bind fun r1 => (some (r1 : ByteArray)))
theorem t25 (k : Nat) (p0 : ByteArray) (p1 : ByteArray) (s0 : St) (gl0 : GlobOk s0) :
    Rf (p25 k p0 p1) (fun _ => True) (fun r => RtC s0.next [] [] s0 (P25 s0.next [] r)) (acall E k 25 [(Value.string p0), (Value.string p1)] s0) := by
  cases k with
  | zero => exact Rf.none
  | succ n =>
    rw [e25 n]
    rw [p25]
    refine Rf.gen fun H Q hH hQ => ?_
    have C0 : Cx s0.next [] [] s0 s0 [] [] [] := Cx.start s0
    refine Rf.call0 C0 (t40 n p0 p1 s0 (C0.gl rfl gl0)) ?_
    rintro r1 _ s2 rfl h4
    have C5 : Cx s0.next [] [] s0 s2 [] [] [] := h4 [] (by simp) List.Pairwise.nil
    refine (Rf.asS ?_)
    subst hH; subst hQ
    exact Rf.leaf fun _ => Ev.done (Rf.ret C5 rfl)
-- 38 "internal/stringslite.Cut"
abbrev P38 (N : Nat) (X : List Nat) (r : (ByteArray × ByteArray × Bool)) (v : Value) (s : St) : Prop := v = (Value.tuple #[(Value.string r.1), (Value.string r.2.1), (Value.bool r.2.2)])
def p38 : Nat → ByteArray → ByteArray → Option (ByteArray × ByteArray × Bool)
  | 0, _, _ => none
  | n + 1, p0, p1 => ((p48 n p0 p1).bind fun r1 => ((if (decide ((r1 : Int) ≥ 0)) then (subP p0 0 r1 (fun z6 => subP p0 (IntKind.wrap .i64 (r1 + (p1.size : Nat))) (p0.size : Nat) (fun z7 => ((some ((z6, z7, true) : (ByteArray × ByteArray × Bool))))))) else (((some ((p0, (⟨#[]⟩ : ByteArray), false) : (ByteArray × ByteArray × Bool))))))))
theorem t38 (k : Nat) (p0 : ByteArray) (p1 : ByteArray) (s0 : St) (gl0 : GlobOk s0) :
    Rf (p38 k p0 p1) (fun _ => True) (fun r => RtC s0.next [] [] s0 (P38 s0.next [] r)) (acall E k 38 [(Value.string p0), (Value.string p1)] s0) := by
  cases k with
  | zero => exact Rf.none
  | succ n =>
    rw [e38 n]
    rw [p38]
    refine Rf.gen fun H Q hH hQ => ?_
    have C0 : Cx s0.next [] [] s0 s0 [] [] [] := Cx.start s0
    refine Rf.call0 C0 (t48 n p0 p1 s0 (C0.gl rfl gl0)) ?_
    rintro r1 _ s2 rfl h4
    have C5 : Cx s0.next [] [] s0 s2 [] [] [] := h4 [] (by simp) List.Pairwise.nil
    refine (Rf.asI ?_)
    refine Rf.ite ?_ ?_
    · refine Rf.subS fun z6 => ?_
      refine Rf.subS fun z7 => ?_
      subst hH; subst hQ
      exact Rf.leaf fun _ => Ev.done (Rf.ret C5 rfl)
    · subst hH; subst hQ
      exact Rf.leaf fun _ => Ev.done (Rf.ret C5 rfl)
-- 23 "strings.Cut"
abbrev P23 (N : Nat) (X : List Nat) (r : (ByteArray × ByteArray × Bool)) (v : Value) (s : St) : Prop := v = (Value.tuple #[(Value.string r.1), (Value.string r.2.1), (Value.bool r.2.2)])
def p23 : Nat → ByteArray → ByteArray → Option (ByteArray × ByteArray × Bool)
  | 0, _, _ => none
  | n + 1, p0, p1 => ((p38 n p0 p1).bind fun r1 => (some ((r1.1, r1.2.1, r1.2.2) : (ByteArray × ByteArray × Bool))))
theorem t23 (k : Nat) (p0 : ByteArray) (p1 : ByteArray) (s0 : St) (gl0 : GlobOk s0) :
    Rf (p23 k p0 p1) (fun _ => True) (fun r => RtC s0.next [] [] s0 (P23 s0.next [] r)) (acall E k 23 [(Value.string p0), (Value.string p1)] s0) := by
  cases k with
  | zero => exact Rf.none
  | succ n =>
    rw [e23 n]
    rw [p23]
    refine Rf.gen fun H Q hH hQ => ?_
    have C0 : Cx s0.next [] [] s0 s0 [] [] [] := Cx.start s0
    refine Rf.call0 C0 (t38 n p0 p1 s0 (C0.gl rfl gl0)) ?_
    rintro r1 _ s2 rfl h6
    have C7 : Cx s0.next [] [] s0 s2 [] [] [] := h6 [] (by simp) List.Pairwise.nil
    refine (Rf.asTup (Rf.unc (Rf.asS (Rf.unc (Rf.asS (Rf.unc (Rf.asB (Rf.unn ?_))))))))
    subst hH; subst hQ
    exact Rf.leaf fun _ => Ev.done (Rf.ret C7 rfl)
-- 32 "strings.Index"
abbrev P32 (N : Nat) (X : List Nat) (r : Int) (v : Value) (s : St) : Prop := v = (Value.int .i64 r)
def p32 : Nat → ByteArray → ByteArray → Option Int
  | 0, _, _ => none
  | n + 1, p0, p1 => ((p48 n p0 p1).bind fun r1 => (some (r1 : Int)))
theorem t32 (k : Nat) (p0 : ByteArray) (p1 : ByteArray) (s0 : St) (gl0 : GlobOk s0) :
    Rf (p32 k p0 p1) (fun _ => True) (fun r => RtC s0.next [] [] s0 (P32 s0.next [] r)) (acall E k 32 [(Value.string p0), (Value.string p1)] s0) := by
  cases k with
  | zero => exact Rf.none
  | succ n =>
    rw [e32 n]
    rw [p32]
    refine Rf.gen fun H Q hH hQ => ?_
    have C0 : Cx s0.next [] [] s0 s0 [] [] [] := Cx.start s0
    refine Rf.call0 C0 (t48 n p0 p1 s0 (C0.gl rfl gl0)) ?_
    rintro r1 _ s2 rfl h4
    have C5 : Cx s0.next [] [] s0 s2 [] [] [] := h4 [] (by simp) List.Pairwise.nil
    refine (Rf.asI ?_)
    subst hH; subst hQ
    exact Rf.leaf fun _ => Ev.done (Rf.ret C5 rfl)
-- 18 "strings.Contains"
abbrev P18 (N : Nat) (X : List Nat) (r : Bool) (v : Value) (s : St) : Prop := v = (Value.bool r)
def p18 : Nat → ByteArray → ByteArray → Option Bool
  | 0, _, _ => none
  | n + 1, p0, p1 => ((p32 n p0 p1).bind fun r1 => (some ((decide ((r1 : Int) ≥ 0)) : Bool)))
theorem t18 (k : Nat) (p0 : ByteArray) (p1 : ByteArray) (s0 : St) (gl0 : GlobOk s0) :
    Rf (p18 k p0 p1) (fun _ => True) (fun r => RtC s0.next [] [] s0 (P18 s0.next [] r)) (acall E k 18 [(Value.string p0), (Value.string p1)] s0) := by
  cases k with
  | zero => exact Rf.none
  | succ n =>
    rw [e18 n]
    rw [p18]
    refine Rf.gen fun H Q hH hQ => ?_
    have C0 : Cx s0.next [] [] s0 s0 [] [] [] := Cx.start s0
    refine Rf.call0 C0 (t32 n p0 p1 s0 (C0.gl rfl gl0)) ?_
    rintro r1 _ s2 rfl h4
    have C5 : Cx s0.next [] [] s0 s2 [] [] [] := h4 [] (by simp) List.Pairwise.nil
    refine (Rf.asI ?_)
    subst hH; subst hQ
    exact Rf.leaf fun _ => Ev.done (Rf.ret C5 rfl)
-- 37 "strings.genSplit"
abbrev Inv37_1 (s0 : St) (p0 : ByteArray) (p1 : ByteArray) (p2 : Int) (p3 : Int) (gl0 : GlobOk s0) (x7 : Int) (A21 : Option Addr) (e22 : Nat) (t : (ByteArray × (List ByteArray) × Int)) (g : Regs) (s : St) : Prop := g = (rg 66 [(0, (Value.string t.1)), (1, (Value.string p1)), (2, (Value.int .i64 p2)), (3, (Value.int .i64 (IntKind.wrap .i64 ((if (IntKind.wrap .i64 ((p0.size : Nat) + 1)) < x7 then (IntKind.wrap .i64 ((p0.size : Nat) + 1)) else x7) - 1)))), (9, (Value.slice A21 ((List.replicate (Int.toNat (if (IntKind.wrap .i64 ((p0.size : Nat) + 1)) < x7 then (IntKind.wrap .i64 ((p0.size : Nat) + 1)) else x7)) ByteArray.empty)).length (Int.toNat (if (IntKind.wrap .i64 ((p0.size : Nat) + 1)) < x7 then (IntKind.wrap .i64 ((p0.size : Nat) + 1)) else x7)))), (10, (Value.int .i64 t.2.2))]) ∧ ((List.replicate (Int.toNat (if (IntKind.wrap .i64 ((p0.size : Nat) + 1)) < x7 then (IntKind.wrap .i64 ((p0.size : Nat) + 1)) else x7)) ByteArray.empty)).length = (t.2.1).length ∧ Cx s0.next [] [] s0 s [] [(On.mk rS t.2.1 A21 (Int.toNat (if (IntKind.wrap .i64 ((p0.size : Nat) + 1)) < x7 then (IntKind.wrap .i64 ((p0.size : Nat) + 1)) else x7)) 9 true e22)] []
abbrev Ex37_1 (s0 : St) (p0 : ByteArray) (p1 : ByteArray) (p2 : Int) (p3 : Int) (gl0 : GlobOk s0) (x7 : Int) (A21 : Option Addr) (e22 : Nat) (t : (ByteArray × (List ByteArray) × Int)) (e : X) (g : Regs) (s : St) : Prop := ∃ (w117 : Value) (w118 : Value) (w119 : Value), e = .exit 0 ∧ g = (rg 66 [(0, (Value.string t.1)), (1, (Value.string p1)), (2, (Value.int .i64 p2)), (3, (Value.int .i64 (IntKind.wrap .i64 ((if (IntKind.wrap .i64 ((p0.size : Nat) + 1)) < x7 then (IntKind.wrap .i64 ((p0.size : Nat) + 1)) else x7) - 1)))), (9, (Value.slice A21 ((List.replicate (Int.toNat (if (IntKind.wrap .i64 ((p0.size : Nat) + 1)) < x7 then (IntKind.wrap .i64 ((p0.size : Nat) + 1)) else x7)) ByteArray.empty)).length (Int.toNat (if (IntKind.wrap .i64 ((p0.size : Nat) + 1)) < x7 then (IntKind.wrap .i64 ((p0.size : Nat) + 1)) else x7)))), (10, (Value.int .i64 t.2.2)), (11, w117), (36, w118), (41, w119)]) ∧ ((List.replicate (Int.toNat (if (IntKind.wrap .i64 ((p0.size : Nat) + 1)) < x7 then (IntKind.wrap .i64 ((p0.size : Nat) + 1)) else x7)) ByteArray.empty)).length = (t.2.1).length ∧ Cx s0.next [] [] s0 s [] [(On.mk rS t.2.1 A21 (Int.toNat (if (IntKind.wrap .i64 ((p0.size : Nat) + 1)) < x7 then (IntKind.wrap .i64 ((p0.size : Nat) + 1)) else x7)) 9 true e22)] []
theorem x37_1 (s0 : St) (p0 : ByteArray) (p1 : ByteArray) (p2 : Int) (p3 : Int) (gl0 : GlobOk s0) (x7 : Int) (A21 : Option Addr) (e22 : Nat) (t : (ByteArray × (List ByteArray) × Int)) (e : X) (g : Regs) (s : St) (h : Ex37_1 s0 p0 p1 p2 p3 gl0 x7 A21 e22 t e g s) : e ≠ .normal := by
  obtain ⟨_, _, _, h, _⟩ := h
  rw [h]; intro hh; cases hh
def pb37_1 (n : Nat) (p0 : ByteArray) (p1 : ByteArray) (p2 : Int) (x7 : Int) (t : (ByteArray × (List ByteArray) × Int)) : Option ((ByteArray × (List ByteArray) × Int) ⊕ (ByteArray × (List ByteArray) × Int)) :=
  (if (decide ((t.2.2 : Int) < (IntKind.wrap .i64 ((if (IntKind.wrap .i64 ((p0.size : Nat) + 1)) < x7 then (IntKind.wrap .i64 ((p0.size : Nat) + 1)) else x7) - 1)))) then (((p32 n t.1 p1).bind fun r93 => ((if (decide ((r93 : Int) < 0)) then (((some (.inr (t.1, t.2.1, t.2.2))))) else ((subP t.1 0 (IntKind.wrap .i64 (r93 + p2)) (fun z98 => rd t.2.1 t.2.2 (fun x99 => pj (List.set t.2.1 (t.2.2).toNat z98) (fun y108 => (subP t.1 (IntKind.wrap .i64 (r93 + (p1.size : Nat))) (t.1.size : Nat) (fun z112 => ((some (.inl (z112, (List.set t.2.1 (t.2.2).toNat z98), (IntKind.wrap .i64 (t.2.2 + 1))))))))))))))))) else (((some (.inr (t.1, t.2.1, t.2.2))))))
theorem b37_1 (n : Nat) (s0 : St) (p0 : ByteArray) (p1 : ByteArray) (p2 : Int) (p3 : Int) (gl0 : GlobOk s0) (x7 : Int) (A21 : Option Addr) (e22 : Nat) (t : (ByteArray × (List ByteArray) × Int)) (g : Regs) (s89 : St) (K : Kont) (Q : Out → St → Prop) (h : Inv37_1 s0 p0 p1 p2 p3 gl0 x7 A21 e22 t g s89) :
    Rf (pb37_1 n p0 p1 p2 x7 t) (fun r => ∀ e g' s', LK (Inv37_1 s0 p0 p1 p2 p3 gl0 x7 A21 e22) (Ex37_1 s0 p0 p1 p2 p3 gl0 x7 A21 e22) r e g' s' → Ev (K e g' s') Q) (fun _ => Q) (kBody E 37 n [.b, .b, .b, .b, .b, .b, .b, .b, .a, .a, .a] g s89 K) := by
  obtain ⟨z17, y19, x20⟩ := t
  obtain ⟨rfl, h92, C90⟩ := h
  rw [e37_body0 n]
  unfold pb37_1
  refine Rf.gen fun H Q hH hQ => ?_
  try dsimp only
  refine Rf.ite ?_ ?_
  · refine Rf.call0 C90 (t32 n z17 p1 s89 (C90.gl rfl gl0)) ?_
    rintro r93 _ s94 rfl h96
    have C97 : Cx s0.next [] [] s0 s94 [] [(On.mk rS y19 A21 (Int.toNat (if (IntKind.wrap .i64 ((p0.size : Nat) + 1)) < x7 then (IntKind.wrap .i64 ((p0.size : Nat) + 1)) else x7)) 9 true e22)] [] := h96 [] (by simp) List.Pairwise.nil
    refine (Rf.asI ?_)
    refine Rf.ite ?_ ?_
    · subst hH; subst hQ
      exact Rf.leaf fun h => h _ _ _ ⟨_, _, _, rfl, (by first | rfl | assumption | (simp only [List.length_set]; done) | (simp only [List.length_set]; assumption) | (simp only [List.length_set]; omega) | (congr 1 <;> omega) | (congr 1 <;> simp only [List.length_set] <;> omega) | (simp only [List.length_set, *]; done) | (exact (sortL_length _).symm) | (simp only [sortL_length, *]; done)), (by first | rfl | assumption | (simp only [List.length_set]; done) | (simp only [List.length_set]; assumption) | (simp only [List.length_set]; omega) | (congr 1 <;> omega) | (congr 1 <;> simp only [List.length_set] <;> omega) | (simp only [List.length_set, *]; done) | (exact (sortL_length _).symm) | (simp only [sortL_length, *]; done)), (C97.sub (List.Sublist.refl _) (List.Sublist.refl _) (List.Sublist.refl _))⟩
    · refine Rf.subS fun z98 => ?_
      refine Rf.asSl ?_
      refine Rf.eltW (j := 0) C97 rfl (by first | rfl | assumption | (simp only [List.length_set]; done) | (simp only [List.length_set]; assumption) | (simp only [List.length_set]; omega) | (congr 1 <;> omega) | (congr 1 <;> simp only [List.length_set] <;> omega) | (simp only [List.length_set, *]; done) | (exact (sortL_length _).symm) | (simp only [sortL_length, *]; done)) rfl fun x99 i100 o101 h102 h103 h104 h105 => ?_
      refine Rf.pjl ?_
      refine Rf.stoW 0 C97 rfl NoRow.nil (fl_cons rS_fl fl_nil) rfl h103 h104 h105 rS_mk fun s109 (C110 : Cx s0.next [] [] s0 s109 [] [(On.mk rS (List.set y19 (x20).toNat z98) A21 (Int.toNat (if (IntKind.wrap .i64 ((p0.size : Nat) + 1)) < x7 then (IntKind.wrap .i64 ((p0.size : Nat) + 1)) else x7)) 9 true e22)] []) => ?_
      refine Rf.subS fun z112 => ?_
      subst hH; subst hQ
      exact Rf.leaf fun h => h _ _ _ ⟨rfl, (by first | rfl | assumption | (simp only [List.length_set]; done) | (simp only [List.length_set]; assumption) | (simp only [List.length_set]; omega) | (congr 1 <;> omega) | (congr 1 <;> simp only [List.length_set] <;> omega) | (simp only [List.length_set, *]; done) | (exact (sortL_length _).symm) | (simp only [sortL_length, *]; done)), (by first | rfl | assumption | (simp only [List.length_set]; done) | (simp only [List.length_set]; assumption) | (simp only [List.length_set]; omega) | (congr 1 <;> omega) | (congr 1 <;> simp only [List.length_set] <;> omega) | (simp only [List.length_set, *]; done) | (exact (sortL_length _).symm) | (simp only [sortL_length, *]; done)), (C110.sub (List.Sublist.refl _) (List.Sublist.refl _) (List.Sublist.refl _))⟩
  · subst hH; subst hQ
    exact Rf.leaf fun h => h _ _ _ ⟨_, _, _, rfl, (by first | rfl | assumption | (simp only [List.length_set]; done) | (simp only [List.length_set]; assumption) | (simp only [List.length_set]; omega) | (congr 1 <;> omega) | (congr 1 <;> simp only [List.length_set] <;> omega) | (simp only [List.length_set, *]; done) | (exact (sortL_length _).symm) | (simp only [sortL_length, *]; done)), (by first | rfl | assumption | (simp only [List.length_set]; done) | (simp only [List.length_set]; assumption) | (simp only [List.length_set]; omega) | (congr 1 <;> omega) | (congr 1 <;> simp only [List.length_set] <;> omega) | (simp only [List.length_set, *]; done) | (exact (sortL_length _).symm) | (simp only [sortL_length, *]; done)), (C90.sub (List.Sublist.refl _) (List.Sublist.refl _) (List.Sublist.refl _))⟩
abbrev P37 (N : Nat) (X : List Nat) (r : (List ByteArray)) (v : Value) (s : St) : Prop := ∃ (A0 : Option Addr) (c0 : Nat) (e0 : Nat), v = (Value.slice A0 (r).length c0) ∧ (On.mk rS r A0 c0 9 true e0).holds N X s
def p37 : Nat → ByteArray → ByteArray → Int → Int → Option (List ByteArray)
  | 0, _, _, _, _ => none
  | n + 1, p0, p1, p2, p3 => ((if ((p3 : Int) == 0) then (((some (([] : (List ByteArray)) : (List ByteArray))))) else (((if (p1.toList == (⟨#[]⟩ : ByteArray).toList) then (none) else ((pj (fun (x7 : Int) => (mkP 16 (if (IntKind.wrap .i64 ((p0.size : Nat) + 1)) < x7 then (IntKind.wrap .i64 ((p0.size : Nat) + 1)) else x7) (if (IntKind.wrap .i64 ((p0.size : Nat) + 1)) < x7 then (IntKind.wrap .i64 ((p0.size : Nat) + 1)) else x7) ByteArray.empty (fun y15 => ((((loopP (pb37_1 n p0 p1 p2 x7) n (p0, (List.replicate (Int.toNat (if (IntKind.wrap .i64 ((p0.size : Nat) + 1)) < x7 then (IntKind.wrap .i64 ((p0.size : Nat) + 1)) else x7)) ByteArray.empty), 0)).bind fun t120 => rd t120.2.1 t120.2.2 (fun x189 => pj (List.set t120.2.1 (t120.2.2).toNat t120.1) (fun y198 => (slP (List.set t120.2.1 (t120.2.2).toNat t120.1) 0 (IntKind.wrap .i64 (t120.2.2 + 1)) (fun y204 => (some (y204 : (List ByteArray))))))))))))) (fun J6 => (if (decide ((p3 : Int) < 0)) then ((p52 n p0 p1).bind fun r1 => (J6 (IntKind.wrap .i64 (r1 + 1)))) else ((J6 p3)))))))))))
theorem t37 (k : Nat) (p0 : ByteArray) (p1 : ByteArray) (p2 : Int) (p3 : Int) (s0 : St) (gl0 : GlobOk s0) :
    Rf (p37 k p0 p1 p2 p3) (fun _ => True) (fun r => RtC s0.next [] [] s0 (P37 s0.next [] r)) (acall E k 37 [(Value.string p0), (Value.string p1), (Value.int .i64 p2), (Value.int .i64 p3)] s0) := by
  cases k with
  | zero => exact Rf.none
  | succ n =>
    rw [e37 n]
    rw [p37]
    refine Rf.gen fun H Q hH hQ => ?_
    have C0 : Cx s0.next [] [] s0 s0 [] [] [] := Cx.start s0
    refine Rf.ite ?_ ?_
    · subst hH; subst hQ
      exact Rf.leaf fun _ => Ev.done (Rf.ret C0 ⟨none, 0, 0, rfl, .inl ⟨rfl, rfl, rfl⟩⟩)
    · refine Rf.ite ?_ ?_
      · exact Rf.none
      · refine Rf.pj fun J6 J6' hJ6 hJ6' => ?_
        have J6h : ∀ (e9 : Value) (x7 : Int) (s10 : St) (_ : Cx s0.next [] [] s0 s10 [] [] []), Rf (J6 x7) H Q (J6' x7 e9 s10) := by
          subst hJ6
          subst hJ6'
          intro e9 x7 s10 C11
          refine Rf.kmake (r := rS) (z := ByteArray.empty) C11 u31 (by kernel_rfl) (by kernel_rfl) (fun _ => rS_mk) (by decide) fun s12 (C13 : Cx s0.next [] [] s0 s12 [] [(On.mk rS (List.replicate (Int.toNat (if (IntKind.wrap .i64 ((p0.size : Nat) + 1)) < x7 then (IntKind.wrap .i64 ((p0.size : Nat) + 1)) else x7)) ByteArray.empty) (some ⟨s10.next, 0, none⟩) (Int.toNat (if (IntKind.wrap .i64 ((p0.size : Nat) + 1)) < x7 then (IntKind.wrap .i64 ((p0.size : Nat) + 1)) else x7)) 9 true s10.next)] []) => ?_
          refine Rf.loop (Inv := Inv37_1 s0 p0 p1 p2 p3 gl0 x7 (some ⟨s10.next, 0, none⟩) s10.next) (Ex := Ex37_1 s0 p0 p1 p2 p3 gl0 x7 (some ⟨s10.next, 0, none⟩) s10.next) (x37_1 s0 p0 p1 p2 p3 gl0 x7 (some ⟨s10.next, 0, none⟩) s10.next) (fun t g s K Q h => b37_1 n s0 p0 p1 p2 p3 gl0 x7 (some ⟨s10.next, 0, none⟩) s10.next t g s K Q h) n _ _ _ ⟨rfl, (by first | rfl | assumption | (simp only [List.length_set]; done) | (simp only [List.length_set]; assumption) | (simp only [List.length_set]; omega) | (congr 1 <;> omega) | (congr 1 <;> simp only [List.length_set] <;> omega) | (simp only [List.length_set, *]; done) | (exact (sortL_length _).symm) | (simp only [sortL_length, *]; done)), (C13.sub (List.Sublist.refl _) (List.Sublist.refl _) (List.Sublist.refl _))⟩ ?_
          intro t120 e g s187 h
          obtain ⟨w117, w118, w119, rfl, rfl, h208, C188⟩ := h
          rw [e37_after0_exit0 n]
          refine Rf.asSl ?_
          refine Rf.eltW (j := 0) C188 rfl (by first | rfl | assumption | (simp only [List.length_set]; done) | (simp only [List.length_set]; assumption) | (simp only [List.length_set]; omega) | (congr 1 <;> omega) | (congr 1 <;> simp only [List.length_set] <;> omega) | (simp only [List.length_set, *]; done) | (exact (sortL_length _).symm) | (simp only [sortL_length, *]; done)) rfl fun x189 i190 o191 h192 h193 h194 h195 => ?_
          refine Rf.pjl ?_
          refine Rf.stoW 0 C188 rfl NoRow.nil (fl_cons rS_fl fl_nil) rfl h193 h194 h195 rS_mk fun s199 (C200 : Cx s0.next [] [] s0 s199 [] [(On.mk rS (List.set t120.2.1 (t120.2.2).toNat t120.1) (some ⟨s10.next, 0, none⟩) (Int.toNat (if (IntKind.wrap .i64 ((p0.size : Nat) + 1)) < x7 then (IntKind.wrap .i64 ((p0.size : Nat) + 1)) else x7)) 9 true s10.next)] []) => ?_
          refine Rf.kslWn (by first | rfl | assumption | (simp only [List.length_set]; done) | (simp only [List.length_set]; assumption) | (simp only [List.length_set]; omega) | (congr 1 <;> omega) | (congr 1 <;> simp only [List.length_set] <;> omega) | (simp only [List.length_set, *]; done) | (exact (sortL_length _).symm) | (simp only [sortL_length, *]; done)) 0 u31 (by kernel_rfl) C200 rfl rfl rfl fun y204 A202 c203 (C205 : Cx s0.next [] [] s0 s199 [] [(On.mk rS y204 A202 c203 9 true s10.next)] []) => ?_
          subst hH; subst hQ
          exact Rf.leaf fun _ => Ev.done (Rf.ret C205 ⟨_, _, _, rfl, C205.own _ m0⟩)
        clear hJ6 hJ6'
        refine Rf.ite ?_ ?_
        · refine Rf.call0 C0 (t52 n p0 p1 s0 (C0.gl rfl gl0)) ?_
          rintro r1 _ s2 rfl h4
          have C5 : Cx s0.next [] [] s0 s2 [] [] [] := h4 [] (by simp) List.Pairwise.nil
          refine (Rf.asI ?_)
          exact J6h _ (IntKind.wrap .i64 (r1 + 1)) _ (C5.sub (List.Sublist.refl _) (List.Sublist.refl _) (List.Sublist.refl _))
        · exact J6h _ p3 _ (C0.sub (List.Sublist.refl _) (List.Sublist.refl _) (List.Sublist.refl _))
-- 22 "strings.Split"
abbrev P22 (N : Nat) (X : List Nat) (r : (List ByteArray)) (v : Value) (s : St) : Prop := ∃ (A0 : Option Addr) (c0 : Nat) (e0 : Nat), v = (Value.slice A0 (r).length c0) ∧ (On.mk rS r A0 c0 9 true e0).holds N X s
def p22 : Nat → ByteArray → ByteArray → Option (List ByteArray)
  | 0, _, _ => none
  | n + 1, p0, p1 => ((p37 n p0 p1 0 (-1)).bind fun r1 => (some (r1 : (List ByteArray))))
theorem t22 (k : Nat) (p0 : ByteArray) (p1 : ByteArray) (s0 : St) (gl0 : GlobOk s0) :
    Rf (p22 k p0 p1) (fun _ => True) (fun r => RtC s0.next [] [] s0 (P22 s0.next [] r)) (acall E k 22 [(Value.string p0), (Value.string p1)] s0) := by
  cases k with
  | zero => exact Rf.none
  | succ n =>
    rw [e22 n]
    rw [p22]
    refine Rf.gen fun H Q hH hQ => ?_
    have C0 : Cx s0.next [] [] s0 s0 [] [] [] := Cx.start s0
    refine Rf.call0 C0 (t37 n p0 p1 0 (-1) s0 (C0.gl rfl gl0)) ?_
    rintro r1 _ s2 ⟨A3, c4, e6, rfl, h5⟩ h9
    have C10 : Cx s0.next [] [] s0 s2 [] [(On.mk rS r1 A3 c4 9 true e6)] [] := h9 [(On.mk rS r1 A3 c4 9 true e6)] (by simpa using h5) (List.pairwise_singleton _ _)
    refine (Rf.asSl ?_)
    subst hH; subst hQ
    exact Rf.leaf fun _ => Ev.done (Rf.ret C10 ⟨_, _, _, rfl, C10.own _ m0⟩)
-- 42 "strings.Fields"
abbrev Inv42_1 (s0 : St) (p0 : ByteArray) (gl0 : GlobOk s0)  (t : (Int × Int × Int × Int)) (g : Regs) (s : St) : Prop := g = (rg 106 [(0, (Value.string p0)), (3, (Value.int .i64 t.1)), (4, (Value.int .i64 t.2.1)), (5, (Value.int .u8 t.2.2.1)), (6, (Value.int .i64 t.2.2.2))]) ∧ Cx s0.next [] [] s0 s [] [] []
abbrev Ex42_1 (s0 : St) (p0 : ByteArray) (gl0 : GlobOk s0)  (t : (Int × Int × Int × Int)) (e : X) (g : Regs) (s : St) : Prop := e = .exit 0 ∧ g = (rg 106 [(0, (Value.string p0)), (3, (Value.int .i64 t.1)), (4, (Value.int .i64 t.2.1)), (5, (Value.int .u8 t.2.2.1)), (6, (Value.int .i64 t.2.2.2)), (16, (Value.bool false))]) ∧ Cx s0.next [] [] s0 s [] [] []
theorem x42_1 (s0 : St) (p0 : ByteArray) (gl0 : GlobOk s0)  (t : (Int × Int × Int × Int)) (e : X) (g : Regs) (s : St) (h : Ex42_1 s0 p0 gl0  t e g s) : e ≠ .normal := by
  obtain ⟨h, _⟩ := h
  rw [h]; intro hh; cases hh
def pb42_1 (n : Nat) (p0 : ByteArray) (t : (Int × Int × Int × Int)) : Option ((Int × Int × Int × Int) ⊕ (Int × Int × Int × Int)) :=
  (if (decide ((t.2.2.2 : Int) < (p0.size : Nat))) then ((idxP p0 t.2.2.2 (fun x114 => ((inb 256 x114 (rd gT0 x114 (fun x119 => ((((some (.inl ((IntKind.wrap .i64 (t.1 + (IntKind.wrap .i64 (((BitVec.ofInt (IntKind.bits .i64) t.2.1 &&& BitVec.ofInt (IntKind.bits .i64) (IntKind.wrap .i64 ((BitVec.ofInt (IntKind.bits .i64) (-1) ^^^ BitVec.ofInt (IntKind.bits .i64) (IntKind.wrap .i64 x119)).toNat : Nat))).toNat : Nat))))), (IntKind.wrap .i64 x119), (IntKind.wrap .u8 (((BitVec.ofInt (IntKind.bits .u8) t.2.2.1 ||| BitVec.ofInt (IntKind.bits .u8) x114).toNat : Nat))), (IntKind.wrap .i64 (t.2.2.2 + 1))))))))))))))) else (((some (.inr (t.1, t.2.1, t.2.2.1, t.2.2.2))))))
theorem b42_1 (n : Nat) (s0 : St) (p0 : ByteArray) (gl0 : GlobOk s0)  (t : (Int × Int × Int × Int)) (g : Regs) (s111 : St) (K : Kont) (Q : Out → St → Prop) (h : Inv42_1 s0 p0 gl0  t g s111) :
    Rf (pb42_1 n p0 t) (fun r => ∀ e g' s', LK (Inv42_1 s0 p0 gl0 ) (Ex42_1 s0 p0 gl0 ) r e g' s' → Ev (K e g' s') Q) (fun _ => Q) (kBody E 42 n [.b, .b, .b, .b, .a, .b, .a, .a] g s111 K) := by
  obtain ⟨x1, x2, x3, x4⟩ := t
  obtain ⟨rfl, C112⟩ := h
  rw [e42_body0 n]
  unfold pb42_1
  refine Rf.gen fun H Q hH hQ => ?_
  try dsimp only
  refine Rf.ite ?_ ?_
  · refine Rf.idx fun x114 => ?_
    refine Rf.aelt fun h117 h118 => ?_
    refine Rf.arr fun x119 x119_h => ?_
    refine Rf.ldI (gAt0 (C112.gl rfl gl0) x119_h) ?_
    subst hH; subst hQ
    exact Rf.leaf fun h => h _ _ _ ⟨rfl, rfl, (C112.sub (List.Sublist.refl _) (List.Sublist.refl _) (List.Sublist.refl _))⟩
  · subst hH; subst hQ
    exact Rf.leaf fun h => h _ _ _ ⟨rfl, rfl, (C112.sub (List.Sublist.refl _) (List.Sublist.refl _) (List.Sublist.refl _))⟩
abbrev Inv42_2 (s0 : St) (p0 : ByteArray) (gl0 : GlobOk s0) (A240 : Option Addr) (e241 : Nat) (t125 : (Int × Int × Int × Int)) (t : Int) (g : Regs) (s : St) : Prop := g = (rg 106 [(0, (Value.string p0)), (9, (Value.slice A240 ((List.replicate (Int.toNat t125.1) ByteArray.empty)).length (Int.toNat t125.1))), (10, (Value.int .i64 0)), (12, (Value.int .i64 t))]) ∧ Cx s0.next [] [] s0 s [] [(On.mk rS (List.replicate (Int.toNat t125.1) ByteArray.empty) A240 (Int.toNat t125.1) 9 true e241)] []
abbrev Ex42_2 (s0 : St) (p0 : ByteArray) (gl0 : GlobOk s0) (A240 : Option Addr) (e241 : Nat) (t125 : (Int × Int × Int × Int)) (t : Int) (e : X) (g : Regs) (s : St) : Prop := e = .exit 2 ∧ g = (rg 106 [(0, (Value.string p0)), (9, (Value.slice A240 ((List.replicate (Int.toNat t125.1) ByteArray.empty)).length (Int.toNat t125.1))), (10, (Value.int .i64 0)), (12, (Value.int .i64 t)), (53, (Value.bool false))]) ∧ Cx s0.next [] [] s0 s [] [(On.mk rS (List.replicate (Int.toNat t125.1) ByteArray.empty) A240 (Int.toNat t125.1) 9 true e241)] []
theorem x42_2 (s0 : St) (p0 : ByteArray) (gl0 : GlobOk s0) (A240 : Option Addr) (e241 : Nat) (t125 : (Int × Int × Int × Int)) (t : Int) (e : X) (g : Regs) (s : St) (h : Ex42_2 s0 p0 gl0 A240 e241 t125 t e g s) : e ≠ .normal := by
  obtain ⟨h, _⟩ := h
  rw [h]; intro hh; cases hh
def pb42_2 (n : Nat) (p0 : ByteArray) (t : Int) : Option (Int ⊕ Int) :=
  pj (fun (b359 : Bool) => if b359 then (((some (.inl (IntKind.wrap .i64 (t + 1)))))) else (((some (.inr t))))) (fun J358 => if (decide ((t : Int) < (p0.size : Nat))) then (idxP p0 t (fun x351 => inb 256 x351 (rd gT0 x351 (fun x356 => (J358 ((x356 : Int) != 0)))))) else ((J358 false)))
theorem b42_2 (n : Nat) (s0 : St) (p0 : ByteArray) (gl0 : GlobOk s0) (A240 : Option Addr) (e241 : Nat) (t125 : (Int × Int × Int × Int)) (x239 : Int) (g : Regs) (s348 : St) (K : Kont) (Q : Out → St → Prop) (h : Inv42_2 s0 p0 gl0 A240 e241 t125 x239 g s348) :
    Rf (pb42_2 n p0 x239) (fun r => ∀ e g' s', LK (Inv42_2 s0 p0 gl0 A240 e241 t125) (Ex42_2 s0 p0 gl0 A240 e241 t125) r e g' s' → Ev (K e g' s') Q) (fun _ => Q) (kBody E 42 n [.b, .b, .b, .b, .b, .b, .b, .b, .b, .b, .a, .a, .a] g s348 K) := by
  obtain ⟨rfl, C349⟩ := h
  rw [e42_body1 n]
  unfold pb42_2
  refine Rf.gen fun H Q hH hQ => ?_
  refine Rf.pj fun J358 J358' hJ358 hJ358' => ?_
  have J358h : ∀ (b359 : Bool) (_ : Cx s0.next [] [] s0 s348 [] [(On.mk rS (List.replicate (Int.toNat t125.1) ByteArray.empty) A240 (Int.toNat t125.1) 9 true e241)] []), Rf (J358 b359) H Q (J358' b359) := by
    subst hJ358
    subst hJ358'
    intro b359 C361
    refine Rf.ite ?_ ?_
    · subst hH; subst hQ
      exact Rf.leaf fun h => h _ _ _ ⟨rfl, rfl, (C361.sub (List.Sublist.refl _) (List.Sublist.refl _) (List.Sublist.refl _))⟩
    · subst hH; subst hQ
      exact Rf.leaf fun h => h _ _ _ ⟨rfl, rfl, (C361.sub (List.Sublist.refl _) (List.Sublist.refl _) (List.Sublist.refl _))⟩
  clear hJ358 hJ358'
  refine Rf.ite ?_ ?_
  · refine Rf.idx fun x351 => ?_
    refine Rf.aelt fun h354 h355 => ?_
    refine Rf.arr fun x356 x356_h => ?_
    refine Rf.ldI (gAt0 (C349.gl rfl gl0) x356_h) ?_
    exact J358h ((x356 : Int) != 0) (C349.sub (List.Sublist.refl _) (List.Sublist.refl _) (List.Sublist.refl _))
  · exact J358h false (C349.sub (List.Sublist.refl _) (List.Sublist.refl _) (List.Sublist.refl _))
abbrev Inv42_4 (s0 : St) (p0 : ByteArray) (gl0 : GlobOk s0) (A477 : Option Addr) (e478 : Nat) (t125 : (Int × Int × Int × Int)) (x474 : Int) (y473 : (List ByteArray)) (z596 : ByteArray) (t : Int) (g : Regs) (s : St) : Prop := g = (rg 106 [(0, (Value.string p0)), (9, (Value.slice A477 ((List.replicate (Int.toNat t125.1) ByteArray.empty)).length (Int.toNat t125.1))), (10, (Value.int .i64 (IntKind.wrap .i64 (x474 + 1)))), (12, (Value.int .i64 t))]) ∧ ((List.replicate (Int.toNat t125.1) ByteArray.empty)).length = ((List.set y473 (x474).toNat z596)).length ∧ Cx s0.next [] [] s0 s [] [(On.mk rS (List.set y473 (x474).toNat z596) A477 (Int.toNat t125.1) 9 true e478)] []
abbrev Ex42_4 (s0 : St) (p0 : ByteArray) (gl0 : GlobOk s0) (A477 : Option Addr) (e478 : Nat) (t125 : (Int × Int × Int × Int)) (x474 : Int) (y473 : (List ByteArray)) (z596 : ByteArray) (t : Int) (e : X) (g : Regs) (s : St) : Prop := e = .exit 6 ∧ g = (rg 106 [(0, (Value.string p0)), (9, (Value.slice A477 ((List.replicate (Int.toNat t125.1) ByteArray.empty)).length (Int.toNat t125.1))), (10, (Value.int .i64 (IntKind.wrap .i64 (x474 + 1)))), (12, (Value.int .i64 t)), (91, (Value.bool false))]) ∧ ((List.replicate (Int.toNat t125.1) ByteArray.empty)).length = ((List.set y473 (x474).toNat z596)).length ∧ Cx s0.next [] [] s0 s [] [(On.mk rS (List.set y473 (x474).toNat z596) A477 (Int.toNat t125.1) 9 true e478)] []
theorem x42_4 (s0 : St) (p0 : ByteArray) (gl0 : GlobOk s0) (A477 : Option Addr) (e478 : Nat) (t125 : (Int × Int × Int × Int)) (x474 : Int) (y473 : (List ByteArray)) (z596 : ByteArray) (t : Int) (e : X) (g : Regs) (s : St) (h : Ex42_4 s0 p0 gl0 A477 e478 t125 x474 y473 z596 t e g s) : e ≠ .normal := by
  obtain ⟨h, _⟩ := h
  rw [h]; intro hh; cases hh
def pb42_4 (n : Nat) (p0 : ByteArray) (t : Int) : Option (Int ⊕ Int) :=
  pj (fun (b729 : Bool) => if b729 then (((some (.inl (IntKind.wrap .i64 (t + 1)))))) else (((some (.inr t))))) (fun J728 => if (decide ((t : Int) < (p0.size : Nat))) then (idxP p0 t (fun x721 => inb 256 x721 (rd gT0 x721 (fun x726 => (J728 ((x726 : Int) != 0)))))) else ((J728 false)))
theorem b42_4 (n : Nat) (s0 : St) (p0 : ByteArray) (gl0 : GlobOk s0) (A477 : Option Addr) (e478 : Nat) (t125 : (Int × Int × Int × Int)) (x474 : Int) (y473 : (List ByteArray)) (z596 : ByteArray) (x610 : Int) (g : Regs) (s717 : St) (K : Kont) (Q : Out → St → Prop) (h : Inv42_4 s0 p0 gl0 A477 e478 t125 x474 y473 z596 x610 g s717) :
    Rf (pb42_4 n p0 x610) (fun r => ∀ e g' s', LK (Inv42_4 s0 p0 gl0 A477 e478 t125 x474 y473 z596) (Ex42_4 s0 p0 gl0 A477 e478 t125 x474 y473 z596) r e g' s' → Ev (K e g' s') Q) (fun _ => Q) (kBody E 42 n [.b, .b, .b, .b, .b, .b, .b, .b, .b, .b, .b, .b, .a, .a, .a, .b, .a, .b, .b, .b, .b, .a, .a, .a] g s717 K) := by
  obtain ⟨rfl, h720, C718⟩ := h
  rw [e42_body3 n]
  unfold pb42_4
  refine Rf.gen fun H Q hH hQ => ?_
  refine Rf.pj fun J728 J728' hJ728 hJ728' => ?_
  have J728h : ∀ (b729 : Bool) (h732 : ((List.replicate (Int.toNat t125.1) ByteArray.empty)).length = ((List.set y473 (x474).toNat z596)).length) (_ : Cx s0.next [] [] s0 s717 [] [(On.mk rS (List.set y473 (x474).toNat z596) A477 (Int.toNat t125.1) 9 true e478)] []), Rf (J728 b729) H Q (J728' b729) := by
    subst hJ728
    subst hJ728'
    intro b729 h732 C731
    refine Rf.ite ?_ ?_
    · subst hH; subst hQ
      exact Rf.leaf fun h => h _ _ _ ⟨rfl, (by first | rfl | assumption | (simp only [List.length_set]; done) | (simp only [List.length_set]; assumption) | (simp only [List.length_set]; omega) | (congr 1 <;> omega) | (congr 1 <;> simp only [List.length_set] <;> omega) | (simp only [List.length_set, *]; done) | (exact (sortL_length _).symm) | (simp only [sortL_length, *]; done)), (by first | rfl | assumption | (simp only [List.length_set]; done) | (simp only [List.length_set]; assumption) | (simp only [List.length_set]; omega) | (congr 1 <;> omega) | (congr 1 <;> simp only [List.length_set] <;> omega) | (simp only [List.length_set, *]; done) | (exact (sortL_length _).symm) | (simp only [sortL_length, *]; done)), (C731.sub (List.Sublist.refl _) (List.Sublist.refl _) (List.Sublist.refl _))⟩
    · subst hH; subst hQ
      exact Rf.leaf fun h => h _ _ _ ⟨rfl, (by first | rfl | assumption | (simp only [List.length_set]; done) | (simp only [List.length_set]; assumption) | (simp only [List.length_set]; omega) | (congr 1 <;> omega) | (congr 1 <;> simp only [List.length_set] <;> omega) | (simp only [List.length_set, *]; done) | (exact (sortL_length _).symm) | (simp only [sortL_length, *]; done)), (by first | rfl | assumption | (simp only [List.length_set]; done) | (simp only [List.length_set]; assumption) | (simp only [List.length_set]; omega) | (congr 1 <;> omega) | (congr 1 <;> simp only [List.length_set] <;> omega) | (simp only [List.length_set, *]; done) | (exact (sortL_length _).symm) | (simp only [sortL_length, *]; done)), (C731.sub (List.Sublist.refl _) (List.Sublist.refl _) (List.Sublist.refl _))⟩
  clear hJ728 hJ728'
  refine Rf.ite ?_ ?_
  · refine Rf.idx fun x721 => ?_
    refine Rf.aelt fun h724 h725 => ?_
    refine Rf.arr fun x726 x726_h => ?_
    refine Rf.ldI (gAt0 (C718.gl rfl gl0) x726_h) ?_
    first | exact J728h ((x726 : Int) != 0) (by first | rfl | assumption | (simp only [List.length_set]; done) | (simp only [List.length_set]; assumption) | (simp only [List.length_set]; omega) | (congr 1 <;> omega) | (congr 1 <;> simp only [List.length_set] <;> omega) | (simp only [List.length_set, *]; done) | (exact (sortL_length _).symm) | (simp only [sortL_length, *]; done)) (C718.sub (List.Sublist.refl _) (List.Sublist.refl _) (List.Sublist.refl _)) | (refine Rf.cast ?_ (J728h ((x726 : Int) != 0) (by first | rfl | assumption | (simp only [List.length_set]; done) | (simp only [List.length_set]; assumption) | (simp only [List.length_set]; omega) | (congr 1 <;> omega) | (congr 1 <;> simp only [List.length_set] <;> omega) | (simp only [List.length_set, *]; done) | (exact (sortL_length _).symm) | (simp only [sortL_length, *]; done)) (C718.sub (List.Sublist.refl _) (List.Sublist.refl _) (List.Sublist.refl _))); first | rfl | assumption | (simp only [List.length_set]; done) | (simp only [List.length_set]; assumption) | (simp only [List.length_set]; omega) | (congr 1 <;> omega) | (congr 1 <;> simp only [List.length_set] <;> omega) | (simp only [List.length_set, *]; done) | (exact (sortL_length _).symm) | (simp only [sortL_length, *]; done))
  · first | exact J728h false (by first | rfl | assumption | (simp only [List.length_set]; done) | (simp only [List.length_set]; assumption) | (simp only [List.length_set]; omega) | (congr 1 <;> omega) | (congr 1 <;> simp only [List.length_set] <;> omega) | (simp only [List.length_set, *]; done) | (exact (sortL_length _).symm) | (simp only [sortL_length, *]; done)) (C718.sub (List.Sublist.refl _) (List.Sublist.refl _) (List.Sublist.refl _)) | (refine Rf.cast ?_ (J728h false (by first | rfl | assumption | (simp only [List.length_set]; done) | (simp only [List.length_set]; assumption) | (simp only [List.length_set]; omega) | (congr 1 <;> omega) | (congr 1 <;> simp only [List.length_set] <;> omega) | (simp only [List.length_set, *]; done) | (exact (sortL_length _).symm) | (simp only [sortL_length, *]; done)) (C718.sub (List.Sublist.refl _) (List.Sublist.refl _) (List.Sublist.refl _))); first | rfl | assumption | (simp only [List.length_set]; done) | (simp only [List.length_set]; assumption) | (simp only [List.length_set]; omega) | (congr 1 <;> omega) | (congr 1 <;> simp only [List.length_set] <;> omega) | (simp only [List.length_set, *]; done) | (exact (sortL_length _).symm) | (simp only [sortL_length, *]; done))
abbrev Inv42_3 (s0 : St) (p0 : ByteArray) (gl0 : GlobOk s0) (A477 : Option Addr) (e478 : Nat) (t125 : (Int × Int × Int × Int)) (t : ((List ByteArray) × Int × Int × Int)) (g : Regs) (s : St) : Prop := g = (rg 106 [(0, (Value.string p0)), (9, (Value.slice A477 ((List.replicate (Int.toNat t125.1) ByteArray.empty)).length (Int.toNat t125.1))), (10, (Value.int .i64 t.2.1)), (11, (Value.int .i64 t.2.2.1)), (12, (Value.int .i64 t.2.2.2))]) ∧ ((List.replicate (Int.toNat t125.1) ByteArray.empty)).length = (t.1).length ∧ Cx s0.next [] [] s0 s [] [(On.mk rS t.1 A477 (Int.toNat t125.1) 9 true e478)] []
abbrev Ex42_3 (s0 : St) (p0 : ByteArray) (gl0 : GlobOk s0) (A477 : Option Addr) (e478 : Nat) (t125 : (Int × Int × Int × Int)) (t : ((List ByteArray) × Int × Int × Int)) (e : X) (g : Regs) (s : St) : Prop := e = .exit 4 ∧ g = (rg 106 [(0, (Value.string p0)), (9, (Value.slice A477 ((List.replicate (Int.toNat t125.1) ByteArray.empty)).length (Int.toNat t125.1))), (10, (Value.int .i64 t.2.1)), (11, (Value.int .i64 t.2.2.1)), (12, (Value.int .i64 t.2.2.2)), (60, (Value.bool false))]) ∧ ((List.replicate (Int.toNat t125.1) ByteArray.empty)).length = (t.1).length ∧ Cx s0.next [] [] s0 s [] [(On.mk rS t.1 A477 (Int.toNat t125.1) 9 true e478)] []
theorem x42_3 (s0 : St) (p0 : ByteArray) (gl0 : GlobOk s0) (A477 : Option Addr) (e478 : Nat) (t125 : (Int × Int × Int × Int)) (t : ((List ByteArray) × Int × Int × Int)) (e : X) (g : Regs) (s : St) (h : Ex42_3 s0 p0 gl0 A477 e478 t125 t e g s) : e ≠ .normal := by
  obtain ⟨h, _⟩ := h
  rw [h]; intro hh; cases hh
def pb42_3 (n : Nat) (p0 : ByteArray) (t : ((List ByteArray) × Int × Int × Int)) : Option (((List ByteArray) × Int × Int × Int) ⊕ ((List ByteArray) × Int × Int × Int)) :=
  (if (decide ((t.2.2.2 : Int) < (p0.size : Nat))) then ((idxP p0 t.2.2.2 (fun x589 => inb 256 x589 (rd gT0 x589 (fun x594 => (if ((x594 : Int) == 0) then ((((some (.inl (t.1, t.2.1, t.2.2.1, (IntKind.wrap .i64 (t.2.2.2 + 1)))))))) else ((subP p0 t.2.2.1 t.2.2.2 (fun z596 => rd t.1 t.2.1 (fun x597 => pj (List.set t.1 (t.2.1).toNat z596) (fun y606 => ((((loopP (pb42_4 n p0) n (IntKind.wrap .i64 (t.2.2.2 + 1))).bind fun t734 => (some (.inl ((List.set t.1 (t.2.1).toNat z596), (IntKind.wrap .i64 (t.2.1 + 1)), t734, t734))))))))))))))))) else (((some (.inr (t.1, t.2.1, t.2.2.1, t.2.2.2))))))
theorem b42_3 (n : Nat) (s0 : St) (p0 : ByteArray) (gl0 : GlobOk s0) (A477 : Option Addr) (e478 : Nat) (t125 : (Int × Int × Int × Int)) (t : ((List ByteArray) × Int × Int × Int)) (g : Regs) (s585 : St) (K : Kont) (Q : Out → St → Prop) (h : Inv42_3 s0 p0 gl0 A477 e478 t125 t g s585) :
    Rf (pb42_3 n p0 t) (fun r => ∀ e g' s', LK (Inv42_3 s0 p0 gl0 A477 e478 t125) (Ex42_3 s0 p0 gl0 A477 e478 t125) r e g' s' → Ev (K e g' s') Q) (fun _ => Q) (kBody E 42 n [.b, .b, .b, .b, .b, .b, .b, .b, .b, .b, .b, .b, .a, .a, .a] g s585 K) := by
  obtain ⟨y473, x474, x475, x476⟩ := t
  obtain ⟨rfl, h588, C586⟩ := h
  rw [e42_body2 n]
  unfold pb42_3
  refine Rf.gen fun H Q hH hQ => ?_
  try dsimp only
  refine Rf.ite ?_ ?_
  · refine Rf.idx fun x589 => ?_
    refine Rf.aelt fun h592 h593 => ?_
    refine Rf.arr fun x594 x594_h => ?_
    refine Rf.ldI (gAt0 (C586.gl rfl gl0) x594_h) ?_
    refine Rf.ite ?_ ?_
    · subst hH; subst hQ
      exact Rf.leaf fun h => h _ _ _ ⟨rfl, (by first | rfl | assumption | (simp only [List.length_set]; done) | (simp only [List.length_set]; assumption) | (simp only [List.length_set]; omega) | (congr 1 <;> omega) | (congr 1 <;> simp only [List.length_set] <;> omega) | (simp only [List.length_set, *]; done) | (exact (sortL_length _).symm) | (simp only [sortL_length, *]; done)), (by first | rfl | assumption | (simp only [List.length_set]; done) | (simp only [List.length_set]; assumption) | (simp only [List.length_set]; omega) | (congr 1 <;> omega) | (congr 1 <;> simp only [List.length_set] <;> omega) | (simp only [List.length_set, *]; done) | (exact (sortL_length _).symm) | (simp only [sortL_length, *]; done)), (C586.sub (List.Sublist.refl _) (List.Sublist.refl _) (List.Sublist.refl _))⟩
    · refine Rf.subS fun z596 => ?_
      refine Rf.asSl ?_
      refine Rf.eltW (j := 0) C586 rfl (by first | rfl | assumption | (simp only [List.length_set]; done) | (simp only [List.length_set]; assumption) | (simp only [List.length_set]; omega) | (congr 1 <;> omega) | (congr 1 <;> simp only [List.length_set] <;> omega) | (simp only [List.length_set, *]; done) | (exact (sortL_length _).symm) | (simp only [sortL_length, *]; done)) rfl fun x597 i598 o599 h600 h601 h602 h603 => ?_
      refine Rf.pjl ?_
      refine Rf.stoW 0 C586 rfl NoRow.nil (fl_cons rS_fl fl_nil) rfl h601 h602 h603 rS_mk fun s607 (C608 : Cx s0.next [] [] s0 s607 [] [(On.mk rS (List.set y473 (x474).toNat z596) A477 (Int.toNat t125.1) 9 true e478)] []) => ?_
      refine Rf.loop (Inv := Inv42_4 s0 p0 gl0 A477 e478 t125 x474 y473 z596) (Ex := Ex42_4 s0 p0 gl0 A477 e478 t125 x474 y473 z596) (x42_4 s0 p0 gl0 A477 e478 t125 x474 y473 z596) (fun t g s K Q h => b42_4 n s0 p0 gl0 A477 e478 t125 x474 y473 z596 t g s K Q h) n _ _ _ ⟨(by first | rfl | assumption | (simp only [List.length_set]; done) | (simp only [List.length_set]; assumption) | (simp only [List.length_set]; omega) | (congr 1 <;> omega) | (congr 1 <;> simp only [List.length_set] <;> omega) | (simp only [List.length_set, *]; done) | (exact (sortL_length _).symm) | (simp only [sortL_length, *]; done)), (by first | rfl | assumption | (simp only [List.length_set]; done) | (simp only [List.length_set]; assumption) | (simp only [List.length_set]; omega) | (congr 1 <;> omega) | (congr 1 <;> simp only [List.length_set] <;> omega) | (simp only [List.length_set, *]; done) | (exact (sortL_length _).symm) | (simp only [sortL_length, *]; done)), (C608.sub (List.Sublist.refl _) (List.Sublist.refl _) (List.Sublist.refl _))⟩ ?_
      intro t734 e g s841 h
      obtain ⟨rfl, rfl, h843, C842⟩ := h
      rw [e42_after3_exit6 n]
      subst hH; subst hQ
      exact Rf.leaf fun h => h _ _ _ ⟨rfl, (by first | rfl | assumption | (simp only [List.length_set]; done) | (simp only [List.length_set]; assumption) | (simp only [List.length_set]; omega) | (congr 1 <;> omega) | (congr 1 <;> simp only [List.length_set] <;> omega) | (simp only [List.length_set, *]; done) | (exact (sortL_length _).symm) | (simp only [sortL_length, *]; done)), (by first | rfl | assumption | (simp only [List.length_set]; done) | (simp only [List.length_set]; assumption) | (simp only [List.length_set]; omega) | (congr 1 <;> omega) | (congr 1 <;> simp only [List.length_set] <;> omega) | (simp only [List.length_set, *]; done) | (exact (sortL_length _).symm) | (simp only [sortL_length, *]; done)), (C842.sub (List.Sublist.refl _) (List.Sublist.refl _) (List.Sublist.refl _))⟩
  · subst hH; subst hQ
    exact Rf.leaf fun h => h _ _ _ ⟨rfl, (by first | rfl | assumption | (simp only [List.length_set]; done) | (simp only [List.length_set]; assumption) | (simp only [List.length_set]; omega) | (congr 1 <;> omega) | (congr 1 <;> simp only [List.length_set] <;> omega) | (simp only [List.length_set, *]; done) | (exact (sortL_length _).symm) | (simp only [sortL_length, *]; done)), (by first | rfl | assumption | (simp only [List.length_set]; done) | (simp only [List.length_set]; assumption) | (simp only [List.length_set]; omega) | (congr 1 <;> omega) | (congr 1 <;> simp only [List.length_set] <;> omega) | (simp only [List.length_set, *]; done) | (exact (sortL_length _).symm) | (simp only [sortL_length, *]; done)), (C586.sub (List.Sublist.refl _) (List.Sublist.refl _) (List.Sublist.refl _))⟩
abbrev P42 (N : Nat) (X : List Nat) (r : (List ByteArray)) (v : Value) (s : St) : Prop := ∃ (A0 : Option Addr) (c0 : Nat) (e0 : Nat), v = (Value.slice A0 (r).length c0) ∧ (On.mk rS r A0 c0 9 true e0).holds N X s
def p42 : Nat → ByteArray → Option (List ByteArray)
  | 0, _ => none
  | n + 1, p0 => ((((((loopP (pb42_1 n p0) n (0, 1, 0, 0)).bind fun t125 => (if (decide ((t125.2.2.1 : Int) ≥ 128)) then (none) else ((mkP 16 t125.1 t125.1 ByteArray.empty (fun y237 => (((((loopP (pb42_2 n p0) n 0).bind fun t363 => ((loopP (pb42_3 n p0) n ((List.replicate (Int.toNat t125.1) ByteArray.empty), 0, t363, t363)).bind fun t849 => pj (fun (y974 : (List ByteArray)) => (some (y974 : (List ByteArray)))) (fun J972 => (if (decide ((t849.2.2.1 : Int) < (p0.size : Nat))) then (subP p0 t849.2.2.1 (p0.size : Nat) (fun z958 => rd t849.1 t849.2.1 (fun x959 => pj (List.set t849.1 (t849.2.1).toNat z958) (fun y968 => (J972 (List.set t849.1 (t849.2.1).toNat z958)))))) else ((J972 t849.1))))))))))))))))))
theorem t42 (k : Nat) (p0 : ByteArray) (s0 : St) (gl0 : GlobOk s0) :
    Rf (p42 k p0) (fun _ => True) (fun r => RtC s0.next [] [] s0 (P42 s0.next [] r)) (acall E k 42 [(Value.string p0)] s0) := by
  cases k with
  | zero => exact Rf.none
  | succ n =>
    rw [e42 n]
    rw [p42]
    refine Rf.gen fun H Q hH hQ => ?_
    have C0 : Cx s0.next [] [] s0 s0 [] [] [] := Cx.start s0
    refine Rf.loop (Inv := Inv42_1 s0 p0 gl0 ) (Ex := Ex42_1 s0 p0 gl0 ) (x42_1 s0 p0 gl0 ) (fun t g s K Q h => b42_1 n s0 p0 gl0  t g s K Q h) n _ _ _ ⟨rfl, (C0.sub (List.Sublist.refl _) (List.Sublist.refl _) (List.Sublist.refl _))⟩ ?_
    intro t125 e g s232 h
    obtain ⟨rfl, rfl, C233⟩ := h
    rw [e42_after0_exit0 n]
    refine Rf.ite ?_ ?_
    · exact Rf.none
    · refine Rf.kmake (r := rS) (z := ByteArray.empty) C233 u31 (by kernel_rfl) (by kernel_rfl) (fun _ => rS_mk) (by decide) fun s234 (C235 : Cx s0.next [] [] s0 s234 [] [(On.mk rS (List.replicate (Int.toNat t125.1) ByteArray.empty) (some ⟨s232.next, 0, none⟩) (Int.toNat t125.1) 9 true s232.next)] []) => ?_
      refine Rf.loop (Inv := Inv42_2 s0 p0 gl0 (some ⟨s232.next, 0, none⟩) s232.next t125) (Ex := Ex42_2 s0 p0 gl0 (some ⟨s232.next, 0, none⟩) s232.next t125) (x42_2 s0 p0 gl0 (some ⟨s232.next, 0, none⟩) s232.next t125) (fun t g s K Q h => b42_2 n s0 p0 gl0 (some ⟨s232.next, 0, none⟩) s232.next t125 t g s K Q h) n _ _ _ ⟨rfl, (C235.sub (List.Sublist.refl _) (List.Sublist.refl _) (List.Sublist.refl _))⟩ ?_
      intro t363 e g s470 h
      obtain ⟨rfl, rfl, C471⟩ := h
      rw [e42_after1_exit2 n]
      refine Rf.loop (Inv := Inv42_3 s0 p0 gl0 (some ⟨s232.next, 0, none⟩) s232.next t125) (Ex := Ex42_3 s0 p0 gl0 (some ⟨s232.next, 0, none⟩) s232.next t125) (x42_3 s0 p0 gl0 (some ⟨s232.next, 0, none⟩) s232.next t125) (fun t g s K Q h => b42_3 n s0 p0 gl0 (some ⟨s232.next, 0, none⟩) s232.next t125 t g s K Q h) n _ _ _ ⟨rfl, (by first | rfl | assumption | (simp only [List.length_set]; done) | (simp only [List.length_set]; assumption) | (simp only [List.length_set]; omega) | (congr 1 <;> omega) | (congr 1 <;> simp only [List.length_set] <;> omega) | (simp only [List.length_set, *]; done) | (exact (sortL_length _).symm) | (simp only [sortL_length, *]; done)), (C471.sub (List.Sublist.refl _) (List.Sublist.refl _) (List.Sublist.refl _))⟩ ?_
      intro t849 e g s956 h
      obtain ⟨rfl, rfl, h982, C957⟩ := h
      rw [e42_after2_exit4 n]
      refine Rf.pj fun J972 J972' hJ972 hJ972' => ?_
      have J972h : ∀ (e975 : Value) (e976 : Value) (e977 : Value) (e978 : Value) (y974 : (List ByteArray)) (s979 : St) (h981 : ((List.replicate (Int.toNat t125.1) ByteArray.empty)).length = (y974).length) (_ : Cx s0.next [] [] s0 s979 [] [(On.mk rS y974 (some ⟨s232.next, 0, none⟩) (Int.toNat t125.1) 9 true s232.next)] []), Rf (J972 y974) H Q (J972' e975 e976 e977 e978 s979) := by
        subst hJ972
        subst hJ972'
        intro e975 e976 e977 e978 y974 s979 h981 C980
        subst hH; subst hQ
        exact Rf.leaf fun _ => Ev.done (Rf.ret C980 ⟨_, _, _, (by first | rfl | assumption | (simp only [List.length_set]; done) | (simp only [List.length_set]; assumption) | (simp only [List.length_set]; omega) | (congr 1 <;> omega) | (congr 1 <;> simp only [List.length_set] <;> omega) | (simp only [List.length_set, *]; done) | (exact (sortL_length _).symm) | (simp only [sortL_length, *]; done)), C980.own _ m0⟩)
      clear hJ972 hJ972'
      refine Rf.ite ?_ ?_
      · refine Rf.subS fun z958 => ?_
        refine Rf.asSl ?_
        refine Rf.eltW (j := 0) C957 rfl (by first | rfl | assumption | (simp only [List.length_set]; done) | (simp only [List.length_set]; assumption) | (simp only [List.length_set]; omega) | (congr 1 <;> omega) | (congr 1 <;> simp only [List.length_set] <;> omega) | (simp only [List.length_set, *]; done) | (exact (sortL_length _).symm) | (simp only [sortL_length, *]; done)) rfl fun x959 i960 o961 h962 h963 h964 h965 => ?_
        refine Rf.pjl ?_
        refine Rf.stoW 0 C957 rfl NoRow.nil (fl_cons rS_fl fl_nil) rfl h963 h964 h965 rS_mk fun s969 (C970 : Cx s0.next [] [] s0 s969 [] [(On.mk rS (List.set t849.1 (t849.2.1).toNat z958) (some ⟨s232.next, 0, none⟩) (Int.toNat t125.1) 9 true s232.next)] []) => ?_
        first | exact J972h _ _ _ _ (List.set t849.1 (t849.2.1).toNat z958) _ (by first | rfl | assumption | (simp only [List.length_set]; done) | (simp only [List.length_set]; assumption) | (simp only [List.length_set]; omega) | (congr 1 <;> omega) | (congr 1 <;> simp only [List.length_set] <;> omega) | (simp only [List.length_set, *]; done) | (exact (sortL_length _).symm) | (simp only [sortL_length, *]; done)) (C970.sub (List.Sublist.refl _) (List.Sublist.refl _) (List.Sublist.refl _)) | (refine Rf.cast ?_ (J972h _ _ _ _ (List.set t849.1 (t849.2.1).toNat z958) _ (by first | rfl | assumption | (simp only [List.length_set]; done) | (simp only [List.length_set]; assumption) | (simp only [List.length_set]; omega) | (congr 1 <;> omega) | (congr 1 <;> simp only [List.length_set] <;> omega) | (simp only [List.length_set, *]; done) | (exact (sortL_length _).symm) | (simp only [sortL_length, *]; done)) (C970.sub (List.Sublist.refl _) (List.Sublist.refl _) (List.Sublist.refl _))); first | rfl | assumption | (simp only [List.length_set]; done) | (simp only [List.length_set]; assumption) | (simp only [List.length_set]; omega) | (congr 1 <;> omega) | (congr 1 <;> simp only [List.length_set] <;> omega) | (simp only [List.length_set, *]; done) | (exact (sortL_length _).symm) | (simp only [sortL_length, *]; done))
      · first | exact J972h _ _ _ _ t849.1 _ (by first | rfl | assumption | (simp only [List.length_set]; done) | (simp only [List.length_set]; assumption) | (simp only [List.length_set]; omega) | (congr 1 <;> omega) | (congr 1 <;> simp only [List.length_set] <;> omega) | (simp only [List.length_set, *]; done) | (exact (sortL_length _).symm) | (simp only [sortL_length, *]; done)) (C957.sub (List.Sublist.refl _) (List.Sublist.refl _) (List.Sublist.refl _)) | (refine Rf.cast ?_ (J972h _ _ _ _ t849.1 _ (by first | rfl | assumption | (simp only [List.length_set]; done) | (simp only [List.length_set]; assumption) | (simp only [List.length_set]; omega) | (congr 1 <;> omega) | (congr 1 <;> simp only [List.length_set] <;> omega) | (simp only [List.length_set, *]; done) | (exact (sortL_length _).symm) | (simp only [sortL_length, *]; done)) (C957.sub (List.Sublist.refl _) (List.Sublist.refl _) (List.Sublist.refl _))); first | rfl | assumption | (simp only [List.length_set]; done) | (simp only [List.length_set]; assumption) | (simp only [List.length_set]; omega) | (congr 1 <;> omega) | (congr 1 <;> simp only [List.length_set] <;> omega) | (simp only [List.length_set, *]; done) | (exact (sortL_length _).symm) | (simp only [sortL_length, *]; done))
-- 47 "brindlewood/heap.parent"
abbrev P47 (N : Nat) (X : List Nat) (r : Int) (v : Value) (s : St) : Prop := v = (Value.int .i64 r)
def p47 : Nat → Int → Option Int
  | 0, _ => none
  | n + 1, p0 => ((pj (fun (b2 : Bool) => if b2 then (((some (28 : Int)))) else ((if ((p0 : Int) == 35) then (((some (34 : Int)))) else (pj (fun (b6 : Bool) => if b6 then (((some (37 : Int)))) else ((if ((p0 : Int) == 41) then (((some (40 : Int)))) else ((if ((p0 : Int) == 43) then (((some (42 : Int)))) else (((if (decide ((p0 : Int) > 31)) then (((some (31 : Int)))) else (((some (0 : Int)))))))))))) (fun J5 => (if ((p0 : Int) == 38) then ((J5 true)) else ((J5 ((p0 : Int) == 39))))))))) (fun J1 => (if ((p0 : Int) == 29) then ((J1 true)) else ((if ((p0 : Int) == 30) then ((J1 true)) else ((J1 ((p0 : Int) == 31)))))))))
theorem t47 (k : Nat) (p0 : Int) (s0 : St) (gl0 : GlobOk s0) :
    Rf (p47 k p0) (fun _ => True) (fun r => RtC s0.next [] [] s0 (P47 s0.next [] r)) (acall E k 47 [(Value.int .i64 p0)] s0) := by
  cases k with
  | zero => exact Rf.none
  | succ n =>
    rw [e47 n]
    rw [p47]
    refine Rf.gen fun H Q hH hQ => ?_
    have C0 : Cx s0.next [] [] s0 s0 [] [] [] := Cx.start s0
    refine Rf.pj fun J1 J1' hJ1 hJ1' => ?_
    have J1h : ∀ (b2 : Bool) (_ : Cx s0.next [] [] s0 s0 [] [] []), Rf (J1 b2) H Q (J1' b2) := by
      subst hJ1
      subst hJ1'
      intro b2 C4
      refine Rf.ite ?_ ?_
      · subst hH; subst hQ
        exact Rf.leaf fun _ => Ev.done (Rf.ret C4 rfl)
      · refine Rf.ite ?_ ?_
        · subst hH; subst hQ
          exact Rf.leaf fun _ => Ev.done (Rf.ret C4 rfl)
        · refine Rf.pj fun J5 J5' hJ5 hJ5' => ?_
          have J5h : ∀ (b6 : Bool) (_ : Cx s0.next [] [] s0 s0 [] [] []), Rf (J5 b6) H Q (J5' b6) := by
            subst hJ5
            subst hJ5'
            intro b6 C8
            refine Rf.ite ?_ ?_
            · subst hH; subst hQ
              exact Rf.leaf fun _ => Ev.done (Rf.ret C8 rfl)
            · refine Rf.ite ?_ ?_
              · subst hH; subst hQ
                exact Rf.leaf fun _ => Ev.done (Rf.ret C8 rfl)
              · refine Rf.ite ?_ ?_
                · subst hH; subst hQ
                  exact Rf.leaf fun _ => Ev.done (Rf.ret C8 rfl)
                · refine Rf.ite ?_ ?_
                  · subst hH; subst hQ
                    exact Rf.leaf fun _ => Ev.done (Rf.ret C8 rfl)
                  · subst hH; subst hQ
                    exact Rf.leaf fun _ => Ev.done (Rf.ret C8 rfl)
          clear hJ5 hJ5'
          refine Rf.ite ?_ ?_
          · exact J5h true (C4.sub (List.Sublist.refl _) (List.Sublist.refl _) (List.Sublist.refl _))
          · exact J5h ((p0 : Int) == 39) (C4.sub (List.Sublist.refl _) (List.Sublist.refl _) (List.Sublist.refl _))
    clear hJ1 hJ1'
    refine Rf.ite ?_ ?_
    · exact J1h true (C0.sub (List.Sublist.refl _) (List.Sublist.refl _) (List.Sublist.refl _))
    · refine Rf.ite ?_ ?_
      · exact J1h true (C0.sub (List.Sublist.refl _) (List.Sublist.refl _) (List.Sublist.refl _))
      · exact J1h ((p0 : Int) == 31) (C0.sub (List.Sublist.refl _) (List.Sublist.refl _) (List.Sublist.refl _))
-- 31 "brindlewood/heap.Start"
abbrev Inv31_1 (s0 : St) (gl0 : GlobOk s0) (A9 : Option Addr) (r7 : (List ByteArray)) (c10 : Nat) (e12 : Nat) (i25 : Nat) (i26 : Nat) (t : ((List (Int × ByteArray × Int × (List Int) × (List Int) × (List ByteArray) × (List (Int × (Bool × (List Int)) × (Bool × (List Int)) × ByteArray × Int)) × (List (Int × (Bool × (List Int)) × (Bool × (List Int)) × ByteArray × Int)) × Int × Int)) × Int)) (g : Regs) (s : St) : Prop := ∃ (A21 : Option Addr) (c22 : Nat) (e23 : Nat), g = (rg 42 [(0, (Value.pointer (some ⟨i26, 0, none⟩))), (1, (Value.pointer (some ⟨i25, 0, none⟩))), (6, (Value.slice A9 (r7).length c10)), (7, (Value.int .i64 ((r7).length : Nat))), (8, (Value.int .i64 t.2))]) ∧ Cx s0.next [] [] s0 s [(i25, AObj.box 56 [(Value.slice A21 (t.1).length c22)]), (i26, AObj.box 56 [(Value.slice none 0 0)])] [(On.mk (rP (rI .i64) (rP rS (rP (rI .i64) (rP (rL (rI .i64)) (rP (rL (rI .i64)) (rP (rL rS) (rP (rL (rP (rI .i64) (rP (rP rB (rL (rI .u32))) (rP (rP rB (rL (rI .u32))) (rP rS (rI .i64)))))) (rP (rL (rP (rI .i64) (rP (rP rB (rL (rI .u32))) (rP (rP rB (rL (rI .u32))) (rP rS (rI .i64)))))) (rP (rI .i64) (rI .i64)))))))))) t.1 A21 c22 60 false e23), (On.mk rS r7 A9 c10 9 true e12)] []
abbrev Ex31_1 (s0 : St) (gl0 : GlobOk s0) (A9 : Option Addr) (r7 : (List ByteArray)) (c10 : Nat) (e12 : Nat) (i25 : Nat) (i26 : Nat) (t : ((List (Int × ByteArray × Int × (List Int) × (List Int) × (List ByteArray) × (List (Int × (Bool × (List Int)) × (Bool × (List Int)) × ByteArray × Int)) × (List (Int × (Bool × (List Int)) × (Bool × (List Int)) × ByteArray × Int)) × Int × Int)) × Int)) (e : X) (g : Regs) (s : St) : Prop := ∃ (A245 : Option Addr) (c246 : Nat) (e247 : Nat), e = .exit 0 ∧ g = (rg 42 [(0, (Value.pointer (some ⟨i26, 0, none⟩))), (1, (Value.pointer (some ⟨i25, 0, none⟩))), (6, (Value.slice A9 (r7).length c10)), (7, (Value.int .i64 ((r7).length : Nat))), (8, (Value.int .i64 t.2)), (9, (Value.bool false))]) ∧ Cx s0.next [] [] s0 s [(i25, AObj.box 56 [(Value.slice A245 (t.1).length c246)]), (i26, AObj.box 56 [(Value.slice none 0 0)])] [(On.mk (rP (rI .i64) (rP rS (rP (rI .i64) (rP (rL (rI .i64)) (rP (rL (rI .i64)) (rP (rL rS) (rP (rL (rP (rI .i64) (rP (rP rB (rL (rI .u32))) (rP (rP rB (rL (rI .u32))) (rP rS (rI .i64)))))) (rP (rL (rP (rI .i64) (rP (rP rB (rL (rI .u32))) (rP (rP rB (rL (rI .u32))) (rP rS (rI .i64)))))) (rP (rI .i64) (rI .i64)))))))))) t.1 A245 c246 60 false e247), (On.mk rS r7 A9 c10 9 true e12)] []
theorem x31_1 (s0 : St) (gl0 : GlobOk s0) (A9 : Option Addr) (r7 : (List ByteArray)) (c10 : Nat) (e12 : Nat) (i25 : Nat) (i26 : Nat) (t : ((List (Int × ByteArray × Int × (List Int) × (List Int) × (List ByteArray) × (List (Int × (Bool × (List Int)) × (Bool × (List Int)) × ByteArray × Int)) × (List (Int × (Bool × (List Int)) × (Bool × (List Int)) × ByteArray × Int)) × Int × Int)) × Int)) (e : X) (g : Regs) (s : St) (h : Ex31_1 s0 gl0 A9 r7 c10 e12 i25 i26 t e g s) : e ≠ .normal := by
  obtain ⟨_, _, _, h, _⟩ := h
  rw [h]; intro hh; cases hh
def pb31_1 (n : Nat)  (r7 : (List ByteArray)) (t : ((List (Int × ByteArray × Int × (List Int) × (List Int) × (List ByteArray) × (List (Int × (Bool × (List Int)) × (Bool × (List Int)) × ByteArray × Int)) × (List (Int × (Bool × (List Int)) × (Bool × (List Int)) × ByteArray × Int)) × Int × Int)) × Int)) : Option (((List (Int × ByteArray × Int × (List Int) × (List Int) × (List ByteArray) × (List (Int × (Bool × (List Int)) × (Bool × (List Int)) × ByteArray × Int)) × (List (Int × (Bool × (List Int)) × (Bool × (List Int)) × ByteArray × Int)) × Int × Int)) × Int) ⊕ ((List (Int × ByteArray × Int × (List Int) × (List Int) × (List ByteArray) × (List (Int × (Bool × (List Int)) × (Bool × (List Int)) × ByteArray × Int)) × (List (Int × (Bool × (List Int)) × (Bool × (List Int)) × ByteArray × Int)) × Int × Int)) × Int)) :=
  (if (decide ((t.2 : Int) < ((r7).length : Nat))) then ((rd r7 t.2 (fun x72 => ((pj (fun (y201 : (List Int)) (y206 : (List Int)) => apP 168 t.1 [(9, x72, 0, y201, y206, ([] : (List ByteArray)), ([] : (List (Int × (Bool × (List Int)) × (Bool × (List Int)) × ByteArray × Int))), ([] : (List (Int × (Bool × (List Int)) × (Bool × (List Int)) × ByteArray × Int))), 0, 0)] (fun y233 => ((some (.inl ((t.1 ++ ([(9, x72, 0, y201, y206, ([] : (List ByteArray)), ([] : (List (Int × (Bool × (List Int)) × (Bool × (List Int)) × ByteArray × Int))), ([] : (List (Int × (Bool × (List Int)) × (Bool × (List Int)) × ByteArray × Int))), 0, 0)] : List (Int × ByteArray × Int × (List Int) × (List Int) × (List ByteArray) × (List (Int × (Bool × (List Int)) × (Bool × (List Int)) × ByteArray × Int)) × (List (Int × (Bool × (List Int)) × (Bool × (List Int)) × ByteArray × Int)) × Int × Int))), (IntKind.wrap .i64 (t.2 + 1)))))))) (fun J197 => (if (decide ((t.2 : Int) > 0)) then ((p47 n t.2).bind fun r91 => ((rd t.1 r91 (fun x109 => apP 8 [t.2] x109.2.2.2.2.1 (fun y186 => (J197 [r91] ([t.2] ++ x109.2.2.2.2.1))))))) else ((J197 ([] : List Int) [t.2]))))))))) else (((some (.inr (t.1, t.2))))))
theorem b31_1 (n : Nat) (s0 : St) (gl0 : GlobOk s0) (A9 : Option Addr) (r7 : (List ByteArray)) (c10 : Nat) (e12 : Nat) (i25 : Nat) (i26 : Nat) (t : ((List (Int × ByteArray × Int × (List Int) × (List Int) × (List ByteArray) × (List (Int × (Bool × (List Int)) × (Bool × (List Int)) × ByteArray × Int)) × (List (Int × (Bool × (List Int)) × (Bool × (List Int)) × ByteArray × Int)) × Int × Int)) × Int)) (g : Regs) (s69 : St) (K : Kont) (Q : Out → St → Prop) (h : Inv31_1 s0 gl0 A9 r7 c10 e12 i25 i26 t g s69) :
    Rf (pb31_1 n r7 t) (fun r => ∀ e g' s', LK (Inv31_1 s0 gl0 A9 r7 c10 e12 i25 i26) (Ex31_1 s0 gl0 A9 r7 c10 e12 i25 i26) r e g' s' → Ev (K e g' s') Q) (fun _ => Q) (kBody E 31 n [.b, .b, .a, .b, .a, .a] g s69 K) := by
  obtain ⟨y20, x24⟩ := t
  obtain ⟨A21, c22, e23, rfl, C70⟩ := h
  rw [e31_body0 n]
  unfold pb31_1
  refine Rf.gen fun H Q hH hQ => ?_
  try dsimp only
  refine Rf.ite ?_ ?_
  · refine Rf.eltW (j := 1) C70 rfl rfl rfl fun x72 i73 o74 h75 h76 h77 h78 => ?_
    obtain ⟨c79, r80, h81⟩ := C70.loW (j := 1) rfl h75 h76 h77 h78
    obtain rfl := rS_elim r80
    refine Rf.ldS (h81.at 0 rfl) ?_
    refine Rf.newR (r := (rI .i64)) (xs := [x24]) C70 rfl (many.cons (c := [(Value.int .i64 x24)]) rI_mk many.nil) fun s83 (C84 : Cx s0.next [] [] s0 s83 [(i25, AObj.box 56 [(Value.slice A21 (y20).length c22)]), (i26, AObj.box 56 [(Value.slice none 0 0)])] [(On.mk (rI .i64) [x24] (some ⟨s69.next, 0, none⟩) 1 3 false s69.next), (On.mk (rP (rI .i64) (rP rS (rP (rI .i64) (rP (rL (rI .i64)) (rP (rL (rI .i64)) (rP (rL rS) (rP (rL (rP (rI .i64) (rP (rP rB (rL (rI .u32))) (rP (rP rB (rL (rI .u32))) (rP rS (rI .i64)))))) (rP (rL (rP (rI .i64) (rP (rP rB (rL (rI .u32))) (rP (rP rB (rL (rI .u32))) (rP rS (rI .i64)))))) (rP (rI .i64) (rI .i64)))))))))) y20 A21 c22 60 false e23), (On.mk rS r7 A9 c10 9 true e12)] []) => ?_
    refine Rf.new C84 fun s86 (C87 : Cx s0.next [] [] s0 s86 [(s83.next, AObj.box 60 [(Value.int .i64 0), (Value.string ByteArray.empty), (Value.int .i64 0), (Value.slice none 0 0), (Value.slice none 0 0), (Value.slice none 0 0), (Value.slice none 0 0), (Value.slice none 0 0), (Value.int .i64 0), (Value.int .i64 0)]), (i25, AObj.box 56 [(Value.slice A21 (y20).length c22)]), (i26, AObj.box 56 [(Value.slice none 0 0)])] [(On.mk (rI .i64) [x24] (some ⟨s69.next, 0, none⟩) 1 3 false s69.next), (On.mk (rP (rI .i64) (rP rS (rP (rI .i64) (rP (rL (rI .i64)) (rP (rL (rI .i64)) (rP (rL rS) (rP (rL (rP (rI .i64) (rP (rP rB (rL (rI .u32))) (rP (rP rB (rL (rI .u32))) (rP rS (rI .i64)))))) (rP (rL (rP (rI .i64) (rP (rP rB (rL (rI .u32))) (rP (rP rB (rL (rI .u32))) (rP rS (rI .i64)))))) (rP (rI .i64) (rI .i64)))))))))) y20 A21 c22 60 false e23), (On.mk rS r7 A9 c10 9 true e12)] []) => ?_
    refine Rf.sto 0 C87 rfl (by simp) rfl fun s89 (C90 : Cx s0.next [] [] s0 s89 [(s83.next, AObj.box 60 [(Value.int .i64 9), (Value.string x72), (Value.int .i64 0), (Value.slice none 0 0), (Value.slice (some ⟨s69.next, 0, none⟩) ([x24]).length 1), (Value.slice none 0 0), (Value.slice none 0 0), (Value.slice none 0 0), (Value.int .i64 0), (Value.int .i64 0)]), (i25, AObj.box 56 [(Value.slice A21 (y20).length c22)]), (i26, AObj.box 56 [(Value.slice none 0 0)])] [(On.mk (rI .i64) [x24] (some ⟨s69.next, 0, none⟩) 1 3 false s69.next), (On.mk (rP (rI .i64) (rP rS (rP (rI .i64) (rP (rL (rI .i64)) (rP (rL (rI .i64)) (rP (rL rS) (rP (rL (rP (rI .i64) (rP (rP rB (rL (rI .u32))) (rP (rP rB (rL (rI .u32))) (rP rS (rI .i64)))))) (rP (rL (rP (rI .i64) (rP (rP rB (rL (rI .u32))) (rP (rP rB (rL (rI .u32))) (rP rS (rI .i64)))))) (rP (rI .i64) (rI .i64)))))))))) y20 A21 c22 60 false e23), (On.mk rS r7 A9 c10 9 true e12)] []) => ?_
    refine Rf.pj fun J197 J197' hJ197 hJ197' => ?_
    have J197h : ∀ (e210 : Value) (e211 : Value) (A202 : Option Addr) (c203 : Nat) (e204 : Nat) (A207 : Option Addr) (c208 : Nat) (e209 : Nat) (y201 : (List Int)) (y206 : (List Int)) (s212 : St) (_ : Cx s0.next [] [] s0 s212 [(s83.next, AObj.box 60 [(Value.int .i64 9), (Value.string x72), (Value.int .i64 0), (Value.slice A202 (y201).length c203), (Value.slice A207 (y206).length c208), (Value.slice none 0 0), (Value.slice none 0 0), (Value.slice none 0 0), (Value.int .i64 0), (Value.int .i64 0)]), (i25, AObj.box 56 [(Value.slice A21 (y20).length c22)]), (i26, AObj.box 56 [(Value.slice none 0 0)])] [(On.mk (rI .i64) y201 A202 c203 3 false e204), (On.mk (rI .i64) y206 A207 c208 3 false e209), (On.mk (rP (rI .i64) (rP rS (rP (rI .i64) (rP (rL (rI .i64)) (rP (rL (rI .i64)) (rP (rL rS) (rP (rL (rP (rI .i64) (rP (rP rB (rL (rI .u32))) (rP (rP rB (rL (rI .u32))) (rP rS (rI .i64)))))) (rP (rL (rP (rI .i64) (rP (rP rB (rL (rI .u32))) (rP (rP rB (rL (rI .u32))) (rP rS (rI .i64)))))) (rP (rI .i64) (rI .i64)))))))))) y20 A21 c22 60 false e23), (On.mk rS r7 A9 c10 9 true e12)] []), Rf (J197 y201 y206) H Q (J197' e210 e211 s212) := by
      subst hJ197
      subst hJ197'
      intro e210 e211 A202 c203 e204 A207 c208 e209 y201 y206 s212 C213
      refine Rf.ldSl (C213.at m1 rfl) ?_
      refine Rf.ldI (C213.at m0 rfl) ?_
      refine Rf.ldS (C213.at m0 rfl) ?_
      refine Rf.ldI (C213.at m0 rfl) ?_
      refine Rf.ldSl (C213.at m0 rfl) ?_
      refine Rf.ldSl (C213.at m0 rfl) ?_
      refine Rf.ldSl (C213.at m0 rfl) ?_
      refine Rf.ldSl (C213.at m0 rfl) ?_
      refine Rf.ldSl (C213.at m0 rfl) ?_
      refine Rf.ldI (C213.at m0 rfl) ?_
      refine Rf.ldI (C213.at m0 rfl) ?_
      refine Rf.newR (r := (rP (rI .i64) (rP rS (rP (rI .i64) (rP (rL (rI .i64)) (rP (rL (rI .i64)) (rP (rL rS) (rP (rL (rP (rI .i64) (rP (rP rB (rL (rI .u32))) (rP (rP rB (rL (rI .u32))) (rP rS (rI .i64)))))) (rP (rL (rP (rI .i64) (rP (rP rB (rL (rI .u32))) (rP (rP rB (rL (rI .u32))) (rP rS (rI .i64)))))) (rP (rI .i64) (rI .i64))))))))))) (xs := [(9, x72, 0, y201, y206, ([] : (List ByteArray)), ([] : (List (Int × (Bool × (List Int)) × (Bool × (List Int)) × ByteArray × Int))), ([] : (List (Int × (Bool × (List Int)) × (Bool × (List Int)) × ByteArray × Int))), 0, 0)]) C213 rfl (many.cons (c := [(Value.int .i64 9), (Value.string x72), (Value.int .i64 0), (Value.slice A202 (y201).length c203), (Value.slice A207 (y206).length c208), (Value.slice none 0 0), (Value.slice none 0 0), (Value.slice none 0 0), (Value.int .i64 0), (Value.int .i64 0)]) (rP_mk rI_mk (rP_mk rS_mk (rP_mk rI_mk (rP_mk (rL_mk (C213.srB m0)) (rP_mk (rL_mk (C213.srB m1)) (rP_mk (rL_mk Sr.nil) (rP_mk (rL_mk Sr.nil) (rP_mk (rL_mk Sr.nil) (rP_mk rI_mk rI_mk))))))))) many.nil) fun s227 (C228 : Cx s0.next [] [] s0 s227 [(s83.next, AObj.box 60 [(Value.int .i64 9), (Value.string x72), (Value.int .i64 0), (Value.slice A202 (y201).length c203), (Value.slice A207 (y206).length c208), (Value.slice none 0 0), (Value.slice none 0 0), (Value.slice none 0 0), (Value.int .i64 0), (Value.int .i64 0)]), (i25, AObj.box 56 [(Value.slice A21 (y20).length c22)]), (i26, AObj.box 56 [(Value.slice none 0 0)])] [(On.mk (rP (rI .i64) (rP rS (rP (rI .i64) (rP (rL (rI .i64)) (rP (rL (rI .i64)) (rP (rL rS) (rP (rL (rP (rI .i64) (rP (rP rB (rL (rI .u32))) (rP (rP rB (rL (rI .u32))) (rP rS (rI .i64)))))) (rP (rL (rP (rI .i64) (rP (rP rB (rL (rI .u32))) (rP (rP rB (rL (rI .u32))) (rP rS (rI .i64)))))) (rP (rI .i64) (rI .i64)))))))))) [(9, x72, 0, y201, y206, ([] : (List ByteArray)), ([] : (List (Int × (Bool × (List Int)) × (Bool × (List Int)) × ByteArray × Int))), ([] : (List (Int × (Bool × (List Int)) × (Bool × (List Int)) × ByteArray × Int))), 0, 0)] (some ⟨s212.next, 0, none⟩) 1 60 false s212.next), (On.mk (rI .i64) y201 A202 c203 3 false e204), (On.mk (rI .i64) y206 A207 c208 3 false e209), (On.mk (rP (rI .i64) (rP rS (rP (rI .i64) (rP (rL (rI .i64)) (rP (rL (rI .i64)) (rP (rL rS) (rP (rL (rP (rI .i64) (rP (rP rB (rL (rI .u32))) (rP (rP rB (rL (rI .u32))) (rP rS (rI .i64)))))) (rP (rL (rP (rI .i64) (rP (rP rB (rL (rI .u32))) (rP (rP rB (rL (rI .u32))) (rP rS (rI .i64)))))) (rP (rI .i64) (rI .i64)))))))))) y20 A21 c22 60 false e23), (On.mk rS r7 A9 c10 9 true e12)] []) => ?_
      refine Rf.kapp 3 C228 rfl rfl (by decide) (by decide) (Ap.sr u54 rfl (C228.srB m0)) fun A230 c231 e232 s235 (C236 : Cx s0.next [] [] s0 s235 [(s83.next, AObj.box 60 [(Value.int .i64 9), (Value.string x72), (Value.int .i64 0), (Value.slice A202 (y201).length c203), (Value.slice A207 (y206).length c208), (Value.slice none 0 0), (Value.slice none 0 0), (Value.slice none 0 0), (Value.int .i64 0), (Value.int .i64 0)]), (i25, AObj.box 56 [(Value.slice A21 (y20).length c22)]), (i26, AObj.box 56 [(Value.slice none 0 0)])] [(On.mk (rP (rI .i64) (rP rS (rP (rI .i64) (rP (rL (rI .i64)) (rP (rL (rI .i64)) (rP (rL rS) (rP (rL (rP (rI .i64) (rP (rP rB (rL (rI .u32))) (rP (rP rB (rL (rI .u32))) (rP rS (rI .i64)))))) (rP (rL (rP (rI .i64) (rP (rP rB (rL (rI .u32))) (rP (rP rB (rL (rI .u32))) (rP rS (rI .i64)))))) (rP (rI .i64) (rI .i64)))))))))) [(9, x72, 0, y201, y206, ([] : (List ByteArray)), ([] : (List (Int × (Bool × (List Int)) × (Bool × (List Int)) × ByteArray × Int))), ([] : (List (Int × (Bool × (List Int)) × (Bool × (List Int)) × ByteArray × Int))), 0, 0)] (some ⟨s212.next, 0, none⟩) 1 60 false s212.next), (On.mk (rI .i64) y201 A202 c203 3 false e204), (On.mk (rI .i64) y206 A207 c208 3 false e209), (On.mk (rP (rI .i64) (rP rS (rP (rI .i64) (rP (rL (rI .i64)) (rP (rL (rI .i64)) (rP (rL rS) (rP (rL (rP (rI .i64) (rP (rP rB (rL (rI .u32))) (rP (rP rB (rL (rI .u32))) (rP rS (rI .i64)))))) (rP (rL (rP (rI .i64) (rP (rP rB (rL (rI .u32))) (rP (rP rB (rL (rI .u32))) (rP rS (rI .i64)))))) (rP (rI .i64) (rI .i64)))))))))) (y20 ++ ([(9, x72, 0, y201, y206, ([] : (List ByteArray)), ([] : (List (Int × (Bool × (List Int)) × (Bool × (List Int)) × ByteArray × Int))), ([] : (List (Int × (Bool × (List Int)) × (Bool × (List Int)) × ByteArray × Int))), 0, 0)] : List (Int × ByteArray × Int × (List Int) × (List Int) × (List ByteArray) × (List (Int × (Bool × (List Int)) × (Bool × (List Int)) × ByteArray × Int)) × (List (Int × (Bool × (List Int)) × (Bool × (List Int)) × ByteArray × Int)) × Int × Int))) A230 c231 60 false e232), (On.mk rS r7 A9 c10 9 true e12)] []) => ?_
      have C237 : Cx s0.next [] [] s0 s235 [(s83.next, AObj.box 60 [(Value.int .i64 9), (Value.string x72), (Value.int .i64 0), (Value.slice A202 (y201).length c203), (Value.slice A207 (y206).length c208), (Value.slice none 0 0), (Value.slice none 0 0), (Value.slice none 0 0), (Value.int .i64 0), (Value.int .i64 0)]), (i25, AObj.box 56 [(Value.slice A21 (y20).length c22)]), (i26, AObj.box 56 [(Value.slice none 0 0)])] [(On.mk (rI .i64) y201 A202 c203 3 false e204), (On.mk (rI .i64) y206 A207 c208 3 false e209), (On.mk (rP (rI .i64) (rP rS (rP (rI .i64) (rP (rL (rI .i64)) (rP (rL (rI .i64)) (rP (rL rS) (rP (rL (rP (rI .i64) (rP (rP rB (rL (rI .u32))) (rP (rP rB (rL (rI .u32))) (rP rS (rI .i64)))))) (rP (rL (rP (rI .i64) (rP (rP rB (rL (rI .u32))) (rP (rP rB (rL (rI .u32))) (rP rS (rI .i64)))))) (rP (rI .i64) (rI .i64)))))))))) (y20 ++ ([(9, x72, 0, y201, y206, ([] : (List ByteArray)), ([] : (List (Int × (Bool × (List Int)) × (Bool × (List Int)) × ByteArray × Int))), ([] : (List (Int × (Bool × (List Int)) × (Bool × (List Int)) × ByteArray × Int))), 0, 0)] : List (Int × ByteArray × Int × (List Int) × (List Int) × (List ByteArray) × (List (Int × (Bool × (List Int)) × (Bool × (List Int)) × ByteArray × Int)) × (List (Int × (Bool × (List Int)) × (Bool × (List Int)) × ByteArray × Int)) × Int × Int))) A230 c231 60 false e232), (On.mk rS r7 A9 c10 9 true e12)] [] := C236.sub (List.Sublist.refl _) (List.Sublist.cons _ (List.Sublist.cons_cons _ (List.Sublist.cons_cons _ (List.Sublist.cons_cons _ (List.Sublist.cons_cons _ List.Sublist.slnil))))) (List.Sublist.refl _)
      refine Rf.ifp rfl ?_
      refine Rf.sto 1 C237 rfl (by simp) rfl fun s241 (C242 : Cx s0.next [] [] s0 s241 [(s83.next, AObj.box 60 [(Value.int .i64 9), (Value.string x72), (Value.int .i64 0), (Value.slice A202 (y201).length c203), (Value.slice A207 (y206).length c208), (Value.slice none 0 0), (Value.slice none 0 0), (Value.slice none 0 0), (Value.int .i64 0), (Value.int .i64 0)]), (i25, AObj.box 56 [(Value.slice A230 ((y20 ++ ([(9, x72, 0, y201, y206, ([] : (List ByteArray)), ([] : (List (Int × (Bool × (List Int)) × (Bool × (List Int)) × ByteArray × Int))), ([] : (List (Int × (Bool × (List Int)) × (Bool × (List Int)) × ByteArray × Int))), 0, 0)] : List (Int × ByteArray × Int × (List Int) × (List Int) × (List ByteArray) × (List (Int × (Bool × (List Int)) × (Bool × (List Int)) × ByteArray × Int)) × (List (Int × (Bool × (List Int)) × (Bool × (List Int)) × ByteArray × Int)) × Int × Int)))).length c231)]), (i26, AObj.box 56 [(Value.slice none 0 0)])] [(On.mk (rI .i64) y201 A202 c203 3 false e204), (On.mk (rI .i64) y206 A207 c208 3 false e209), (On.mk (rP (rI .i64) (rP rS (rP (rI .i64) (rP (rL (rI .i64)) (rP (rL (rI .i64)) (rP (rL rS) (rP (rL (rP (rI .i64) (rP (rP rB (rL (rI .u32))) (rP (rP rB (rL (rI .u32))) (rP rS (rI .i64)))))) (rP (rL (rP (rI .i64) (rP (rP rB (rL (rI .u32))) (rP (rP rB (rL (rI .u32))) (rP rS (rI .i64)))))) (rP (rI .i64) (rI .i64)))))))))) (y20 ++ ([(9, x72, 0, y201, y206, ([] : (List ByteArray)), ([] : (List (Int × (Bool × (List Int)) × (Bool × (List Int)) × ByteArray × Int))), ([] : (List (Int × (Bool × (List Int)) × (Bool × (List Int)) × ByteArray × Int))), 0, 0)] : List (Int × ByteArray × Int × (List Int) × (List Int) × (List ByteArray) × (List (Int × (Bool × (List Int)) × (Bool × (List Int)) × ByteArray × Int)) × (List (Int × (Bool × (List Int)) × (Bool × (List Int)) × ByteArray × Int)) × Int × Int))) A230 c231 60 false e232), (On.mk rS r7 A9 c10 9 true e12)] []) => ?_
      subst hH; subst hQ
      exact Rf.leaf fun h => h _ _ _ ⟨rfl, _, _, _, rfl, (C242.sub (List.Sublist.cons _ (List.Sublist.cons_cons _ (List.Sublist.cons_cons _ List.Sublist.slnil))) (List.Sublist.cons _ (List.Sublist.cons _ (List.Sublist.cons_cons _ (List.Sublist.cons_cons _ List.Sublist.slnil)))) (List.Sublist.refl _))⟩
    clear hJ197 hJ197'
    refine Rf.ite ?_ ?_
    · refine Rf.call0 C90 (t47 n x24 s89 (C90.gl rfl gl0)) ?_
      rintro r91 _ s92 rfl h94
      have C95 : Cx s0.next [] [] s0 s92 [(s83.next, AObj.box 60 [(Value.int .i64 9), (Value.string x72), (Value.int .i64 0), (Value.slice none 0 0), (Value.slice (some ⟨s69.next, 0, none⟩) ([x24]).length 1), (Value.slice none 0 0), (Value.slice none 0 0), (Value.slice none 0 0), (Value.int .i64 0), (Value.int .i64 0)]), (i25, AObj.box 56 [(Value.slice A21 (y20).length c22)]), (i26, AObj.box 56 [(Value.slice none 0 0)])] [(On.mk (rI .i64) [x24] (some ⟨s69.next, 0, none⟩) 1 3 false s69.next), (On.mk (rP (rI .i64) (rP rS (rP (rI .i64) (rP (rL (rI .i64)) (rP (rL (rI .i64)) (rP (rL rS) (rP (rL (rP (rI .i64) (rP (rP rB (rL (rI .u32))) (rP (rP rB (rL (rI .u32))) (rP rS (rI .i64)))))) (rP (rL (rP (rI .i64) (rP (rP rB (rL (rI .u32))) (rP (rP rB (rL (rI .u32))) (rP rS (rI .i64)))))) (rP (rI .i64) (rI .i64)))))))))) y20 A21 c22 60 false e23), (On.mk rS r7 A9 c10 9 true e12)] [] := h94 [] (by simp) List.Pairwise.nil
      refine (Rf.asI ?_)
      refine Rf.newR (r := (rI .i64)) (xs := [r91]) C95 rfl (many.cons (c := [(Value.int .i64 r91)]) rI_mk many.nil) fun s96 (C97 : Cx s0.next [] [] s0 s96 [(s83.next, AObj.box 60 [(Value.int .i64 9), (Value.string x72), (Value.int .i64 0), (Value.slice none 0 0), (Value.slice (some ⟨s69.next, 0, none⟩) ([x24]).length 1), (Value.slice none 0 0), (Value.slice none 0 0), (Value.slice none 0 0), (Value.int .i64 0), (Value.int .i64 0)]), (i25, AObj.box 56 [(Value.slice A21 (y20).length c22)]), (i26, AObj.box 56 [(Value.slice none 0 0)])] [(On.mk (rI .i64) [r91] (some ⟨s92.next, 0, none⟩) 1 3 false s92.next), (On.mk (rI .i64) [x24] (some ⟨s69.next, 0, none⟩) 1 3 false s69.next), (On.mk (rP (rI .i64) (rP rS (rP (rI .i64) (rP (rL (rI .i64)) (rP (rL (rI .i64)) (rP (rL rS) (rP (rL (rP (rI .i64) (rP (rP rB (rL (rI .u32))) (rP (rP rB (rL (rI .u32))) (rP rS (rI .i64)))))) (rP (rL (rP (rI .i64) (rP (rP rB (rL (rI .u32))) (rP (rP rB (rL (rI .u32))) (rP rS (rI .i64)))))) (rP (rI .i64) (rI .i64)))))))))) y20 A21 c22 60 false e23), (On.mk rS r7 A9 c10 9 true e12)] []) => ?_
      refine Rf.sto 0 C97 rfl (by simp) rfl fun s101 (C102 : Cx s0.next [] [] s0 s101 [(s83.next, AObj.box 60 [(Value.int .i64 9), (Value.string x72), (Value.int .i64 0), (Value.slice (some ⟨s92.next, 0, none⟩) ([r91]).length 1), (Value.slice (some ⟨s69.next, 0, none⟩) ([x24]).length 1), (Value.slice none 0 0), (Value.slice none 0 0), (Value.slice none 0 0), (Value.int .i64 0), (Value.int .i64 0)]), (i25, AObj.box 56 [(Value.slice A21 (y20).length c22)]), (i26, AObj.box 56 [(Value.slice none 0 0)])] [(On.mk (rI .i64) [r91] (some ⟨s92.next, 0, none⟩) 1 3 false s92.next), (On.mk (rI .i64) [x24] (some ⟨s69.next, 0, none⟩) 1 3 false s69.next), (On.mk (rP (rI .i64) (rP rS (rP (rI .i64) (rP (rL (rI .i64)) (rP (rL (rI .i64)) (rP (rL rS) (rP (rL (rP (rI .i64) (rP (rP rB (rL (rI .u32))) (rP (rP rB (rL (rI .u32))) (rP rS (rI .i64)))))) (rP (rL (rP (rI .i64) (rP (rP rB (rL (rI .u32))) (rP (rP rB (rL (rI .u32))) (rP rS (rI .i64)))))) (rP (rI .i64) (rI .i64)))))))))) y20 A21 c22 60 false e23), (On.mk rS r7 A9 c10 9 true e12)] []) => ?_
      refine Rf.ifp (C102.isB m0) ?_
      refine Rf.ldSl (C102.at m0 rfl) ?_
      refine Rf.ifp (C102.isB m1) ?_
      refine Rf.ldSl (C102.at m1 rfl) ?_
      refine Rf.elt (r := (rP (rI .i64) (rP rS (rP (rI .i64) (rP (rL (rI .i64)) (rP (rL (rI .i64)) (rP (rL rS) (rP (rL (rP (rI .i64) (rP (rP rB (rL (rI .u32))) (rP (rP rB (rL (rI .u32))) (rP rS (rI .i64)))))) (rP (rL (rP (rI .i64) (rP (rP rB (rL (rI .u32))) (rP (rP rB (rL (rI .u32))) (rP rS (rI .i64)))))) (rP (rI .i64) (rI .i64))))))))))) (C102.srB m2) rfl fun x109 i110 o111 c112 r113 h114 => ?_
      obtain ⟨c119, c120, rfl, r121, r122⟩ := rP_elim r113
      obtain rfl := rI_elim r121
      obtain ⟨c123, c124, rfl, r125, r126⟩ := rP_elim r122
      obtain rfl := rS_elim r125
      obtain ⟨c127, c128, rfl, r129, r130⟩ := rP_elim r126
      obtain rfl := rI_elim r129
      obtain ⟨c131, c132, rfl, r133, r134⟩ := rP_elim r130
      obtain ⟨A135, c136, rfl, h137⟩ := rL_elim r133
      have C139 := C102.add (Fa.sr (rI .i64) A135 c136 x109.2.2.2.1) h137
      obtain ⟨c140, c141, rfl, r142, r143⟩ := rP_elim r134
      obtain ⟨A144, c145, rfl, h146⟩ := rL_elim r142
      have C148 := C139.add (Fa.sr (rI .i64) A144 c145 x109.2.2.2.2.1) h146
      obtain ⟨c149, c150, rfl, r151, r152⟩ := rP_elim r143
      obtain ⟨A153, c154, rfl, h155⟩ := rL_elim r151
      have C157 := C148.add (Fa.sr rS A153 c154 x109.2.2.2.2.2.1) h155
      obtain ⟨c158, c159, rfl, r160, r161⟩ := rP_elim r152
      obtain ⟨A162, c163, rfl, h164⟩ := rL_elim r160
      have C166 := C157.add (Fa.sr (rP (rI .i64) (rP (rP rB (rL (rI .u32))) (rP (rP rB (rL (rI .u32))) (rP rS (rI .i64))))) A162 c163 x109.2.2.2.2.2.2.1) h164
      obtain ⟨c167, c168, rfl, r169, r170⟩ := rP_elim r161
      obtain ⟨A171, c172, rfl, h173⟩ := rL_elim r169
      have C175 := C166.add (Fa.sr (rP (rI .i64) (rP (rP rB (rL (rI .u32))) (rP (rP rB (rL (rI .u32))) (rP rS (rI .i64))))) A171 c172 x109.2.2.2.2.2.2.2.1) h173
      obtain ⟨c176, c177, rfl, r178, r179⟩ := rP_elim r170
      obtain rfl := rI_elim r178
      obtain rfl := rI_elim r179
      refine Rf.ldSl (h114.at 4 rfl) ?_
      refine Rf.kappA 1 C175 rfl rfl (by decide) (by decide) (Ap.sr u58 rfl (C175.lb.srG m3)) fun A183 c184 e185 s190 h191 (C189 : Cx s0.next [] [] s0 { s190 with lowb := min s101.lowb s190.lowb } [(s83.next, AObj.box 60 [(Value.int .i64 9), (Value.string x72), (Value.int .i64 0), (Value.slice (some ⟨s92.next, 0, none⟩) ([r91]).length 1), (Value.slice (some ⟨s69.next, 0, none⟩) ([x24]).length 1), (Value.slice none 0 0), (Value.slice none 0 0), (Value.slice none 0 0), (Value.int .i64 0), (Value.int .i64 0)]), (i25, AObj.box 56 [(Value.slice A21 (y20).length c22)]), (i26, AObj.box 56 [(Value.slice none 0 0)])] [(On.mk (rI .i64) [r91] (some ⟨s92.next, 0, none⟩) 1 3 false s92.next), (On.mk (rI .i64) ([x24] ++ x109.2.2.2.2.1) A183 c184 3 false e185), (On.mk (rP (rI .i64) (rP rS (rP (rI .i64) (rP (rL (rI .i64)) (rP (rL (rI .i64)) (rP (rL rS) (rP (rL (rP (rI .i64) (rP (rP rB (rL (rI .u32))) (rP (rP rB (rL (rI .u32))) (rP rS (rI .i64)))))) (rP (rL (rP (rI .i64) (rP (rP rB (rL (rI .u32))) (rP (rP rB (rL (rI .u32))) (rP rS (rI .i64)))))) (rP (rI .i64) (rI .i64)))))))))) y20 A21 c22 60 false e23), (On.mk rS r7 A9 c10 9 true e12)] [(Fa.sr (rP (rI .i64) (rP (rP rB (rL (rI .u32))) (rP (rP rB (rL (rI .u32))) (rP rS (rI .i64))))) A171 c172 x109.2.2.2.2.2.2.2.1), (Fa.sr (rP (rI .i64) (rP (rP rB (rL (rI .u32))) (rP (rP rB (rL (rI .u32))) (rP rS (rI .i64))))) A162 c163 x109.2.2.2.2.2.2.1), (Fa.sr rS A153 c154 x109.2.2.2.2.2.1), (Fa.sr (rI .i64) A144 c145 x109.2.2.2.2.1), (Fa.sr (rI .i64) A135 c136 x109.2.2.2.1)]) => ?_
      refine Rf.ifp h191 ?_
      refine Rf.lt ?_
      generalize { s190 with lowb := min s101.lowb s190.lowb } = s188 at C189 ⊢
      refine Rf.ifp rfl ?_
      refine Rf.sto 0 C189 rfl (by simp) rfl fun s195 (C196 : Cx s0.next [] [] s0 s195 [(s83.next, AObj.box 60 [(Value.int .i64 9), (Value.string x72), (Value.int .i64 0), (Value.slice (some ⟨s92.next, 0, none⟩) ([r91]).length 1), (Value.slice A183 (([x24] ++ x109.2.2.2.2.1)).length c184), (Value.slice none 0 0), (Value.slice none 0 0), (Value.slice none 0 0), (Value.int .i64 0), (Value.int .i64 0)]), (i25, AObj.box 56 [(Value.slice A21 (y20).length c22)]), (i26, AObj.box 56 [(Value.slice none 0 0)])] [(On.mk (rI .i64) [r91] (some ⟨s92.next, 0, none⟩) 1 3 false s92.next), (On.mk (rI .i64) ([x24] ++ x109.2.2.2.2.1) A183 c184 3 false e185), (On.mk (rP (rI .i64) (rP rS (rP (rI .i64) (rP (rL (rI .i64)) (rP (rL (rI .i64)) (rP (rL rS) (rP (rL (rP (rI .i64) (rP (rP rB (rL (rI .u32))) (rP (rP rB (rL (rI .u32))) (rP rS (rI .i64)))))) (rP (rL (rP (rI .i64) (rP (rP rB (rL (rI .u32))) (rP (rP rB (rL (rI .u32))) (rP rS (rI .i64)))))) (rP (rI .i64) (rI .i64)))))))))) y20 A21 c22 60 false e23), (On.mk rS r7 A9 c10 9 true e12)] [(Fa.sr (rP (rI .i64) (rP (rP rB (rL (rI .u32))) (rP (rP rB (rL (rI .u32))) (rP rS (rI .i64))))) A171 c172 x109.2.2.2.2.2.2.2.1), (Fa.sr (rP (rI .i64) (rP (rP rB (rL (rI .u32))) (rP (rP rB (rL (rI .u32))) (rP rS (rI .i64))))) A162 c163 x109.2.2.2.2.2.2.1), (Fa.sr rS A153 c154 x109.2.2.2.2.2.1), (Fa.sr (rI .i64) A144 c145 x109.2.2.2.2.1), (Fa.sr (rI .i64) A135 c136 x109.2.2.2.1)]) => ?_
      exact J197h _ _ (some ⟨s92.next, 0, none⟩) 1 s92.next A183 c184 e185 [r91] ([x24] ++ x109.2.2.2.2.1) _ (C196.sub (List.Sublist.refl _) (List.Sublist.refl _) (List.Sublist.cons _ (List.Sublist.cons _ (List.Sublist.cons _ (List.Sublist.cons _ (List.Sublist.cons _ List.Sublist.slnil))))))
    · have C198 : Cx s0.next [] [] s0 s89 [(s83.next, AObj.box 60 [(Value.int .i64 9), (Value.string x72), (Value.int .i64 0), (Value.slice none 0 0), (Value.slice (some ⟨s69.next, 0, none⟩) ([x24]).length 1), (Value.slice none 0 0), (Value.slice none 0 0), (Value.slice none 0 0), (Value.int .i64 0), (Value.int .i64 0)]), (i25, AObj.box 56 [(Value.slice A21 (y20).length c22)]), (i26, AObj.box 56 [(Value.slice none 0 0)])] [(On.mk (rI .i64) ([] : List Int) none 0 3 false 0), (On.mk (rI .i64) [x24] (some ⟨s69.next, 0, none⟩) 1 3 false s69.next), (On.mk (rP (rI .i64) (rP rS (rP (rI .i64) (rP (rL (rI .i64)) (rP (rL (rI .i64)) (rP (rL rS) (rP (rL (rP (rI .i64) (rP (rP rB (rL (rI .u32))) (rP (rP rB (rL (rI .u32))) (rP rS (rI .i64)))))) (rP (rL (rP (rI .i64) (rP (rP rB (rL (rI .u32))) (rP (rP rB (rL (rI .u32))) (rP rS (rI .i64)))))) (rP (rI .i64) (rI .i64)))))))))) y20 A21 c22 60 false e23), (On.mk rS r7 A9 c10 9 true e12)] [] := C90.addNil (rI .i64) 3
      exact J197h _ _ none 0 0 (some ⟨s69.next, 0, none⟩) 1 s69.next ([] : List Int) [x24] _ (C198.sub (List.Sublist.refl _) (List.Sublist.refl _) (List.Sublist.refl _))
  · subst hH; subst hQ
    exact Rf.leaf fun h => h _ _ _ ⟨_, _, _, rfl, rfl, (C70.sub (List.Sublist.refl _) (List.Sublist.refl _) (List.Sublist.refl _))⟩
abbrev P31 (N : Nat) (X : List Nat) (r : (List (Int × ByteArray × Int × (List Int) × (List Int) × (List ByteArray) × (List (Int × (Bool × (List Int)) × (Bool × (List Int)) × ByteArray × Int)) × (List (Int × (Bool × (List Int)) × (Bool × (List Int)) × ByteArray × Int)) × Int × Int))) (v : Value) (s : St) : Prop := ∃ (A0 : Option Addr) (c0 : Nat), v = (Value.agg #[(Value.slice A0 (r).length c0)]) ∧ Sr (rP (rI .i64) (rP rS (rP (rI .i64) (rP (rL (rI .i64)) (rP (rL (rI .i64)) (rP (rL rS) (rP (rL (rP (rI .i64) (rP (rP rB (rL (rI .u32))) (rP (rP rB (rL (rI .u32))) (rP rS (rI .i64)))))) (rP (rL (rP (rI .i64) (rP (rP rB (rL (rI .u32))) (rP (rP rB (rL (rI .u32))) (rP rS (rI .i64)))))) (rP (rI .i64) (rI .i64)))))))))) s A0 c0 r
def p31 : Nat → Option (List (Int × ByteArray × Int × (List Int) × (List Int) × (List ByteArray) × (List (Int × (Bool × (List Int)) × (Bool × (List Int)) × ByteArray × Int)) × (List (Int × (Bool × (List Int)) × (Bool × (List Int)) × ByteArray × Int)) × Int × Int))
  | 0 => none
  | n + 1 => (((p42 n (⟨#[111, 98, 106, 101, 99, 116, 32, 99, 108, 97, 115, 115, 32, 110, 105, 108, 95, 116, 121, 112, 101, 32, 98, 111, 111, 108, 32, 105, 110, 116, 32, 114, 97, 116, 105, 111, 32, 116, 101, 120, 116, 32, 98, 121, 116, 101, 115, 32, 116, 117, 112, 108, 101, 32, 108, 105, 115, 116, 32, 100, 105, 99, 116, 32, 115, 101, 116, 32, 114, 97, 110, 103, 101, 32, 99, 101, 108, 108, 32, 102, 117, 110, 99, 116, 105, 111, 110, 32, 98, 117, 105, 108, 116, 105, 110, 32, 109, 101, 116, 104, 111, 100, 32, 109, 111, 100, 117, 108, 101, 32, 112, 114, 111, 112, 101, 114, 116, 121, 32, 115, 116, 97, 116, 105, 99, 32, 99, 108, 97, 115, 115, 95, 109, 101, 116, 104, 111, 100, 32, 115, 117, 112, 101, 114, 95, 116, 121, 112, 101, 32, 105, 116, 101, 114, 97, 116, 111, 114, 32, 103, 101, 110, 101, 114, 97, 116, 111, 114, 32, 119, 101, 97, 107, 32, 116, 97, 115, 107, 32, 116, 105, 109, 101, 114, 32, 112, 97, 115, 115, 95, 116, 121, 112, 101, 32, 82, 97, 105, 115, 101, 100, 32, 69, 120, 105, 116, 32, 67, 97, 110, 99, 101, 108, 32, 69, 114, 114, 111, 114, 32, 84, 121, 112, 101, 69, 114, 114, 111, 114, 32, 86, 97, 108, 117, 101, 69, 114, 114, 111, 114, 32, 78, 97, 109, 101, 69, 114, 114, 111, 114, 32, 85, 110, 98, 111, 117, 110, 100, 69, 114, 114, 111, 114, 32, 65, 116, 116, 114, 105, 98, 117, 116, 101, 69, 114, 114, 111, 114, 32, 76, 111, 111, 107, 117, 112, 69, 114, 114, 111, 114, 32, 73, 110, 100, 101, 120, 69, 114, 114, 111, 114, 32, 75, 101, 121, 69, 114, 114, 111, 114, 32, 65, 114, 105, 116, 104, 109, 101, 116, 105, 99, 69, 114, 114, 111, 114, 32, 68, 105, 118, 105, 115, 105, 111, 110, 69, 114, 114, 111, 114, 32, 76, 105, 109, 105, 116, 69, 114, 114, 111, 114, 32, 82, 101, 99, 117, 114, 115, 105, 111, 110, 69, 114, 114, 111, 114, 32, 65, 115, 115, 101, 114, 116, 105, 111, 110, 69, 114, 114, 111, 114, 32, 73, 109, 112, 111, 114, 116, 69, 114, 114, 111, 114, 32, 83, 116, 111, 112, 69, 114, 114, 111, 114, 32, 83, 116, 97, 116, 101, 69, 114, 114, 111, 114, 32, 71, 114, 111, 117, 112, 69, 114, 114, 111, 114]⟩ : ByteArray)).bind fun r7 => ((loopP (pb31_1 n r7) n (([] : List (Int × ByteArray × Int × (List Int) × (List Int) × (List ByteArray) × (List (Int × (Bool × (List Int)) × (Bool × (List Int)) × ByteArray × Int)) × (List (Int × (Bool × (List Int)) × (Bool × (List Int)) × ByteArray × Int)) × Int × Int)), 0)).bind fun t249 => (some (t249.1 : (List (Int × ByteArray × Int × (List Int) × (List Int) × (List ByteArray) × (List (Int × (Bool × (List Int)) × (Bool × (List Int)) × ByteArray × Int)) × (List (Int × (Bool × (List Int)) × (Bool × (List Int)) × ByteArray × Int)) × Int × Int)))))))
theorem t31 (k : Nat) (s0 : St) (gl0 : GlobOk s0) :
    Rf (p31 k) (fun _ => True) (fun r => RtC s0.next [] [] s0 (P31 s0.next [] r)) (acall E k 31 [] s0) := by
  cases k with
  | zero => exact Rf.none
  | succ n =>
    rw [e31 n]
    rw [p31]
    refine Rf.gen fun H Q hH hQ => ?_
    have C0 : Cx s0.next [] [] s0 s0 [] [] [] := Cx.start s0
    refine Rf.new C0 fun s1 (C2 : Cx s0.next [] [] s0 s1 [(s0.next, AObj.box 56 [(Value.slice none 0 0)])] [] []) => ?_
    refine Rf.new C2 fun s4 (C5 : Cx s0.next [] [] s0 s4 [(s1.next, AObj.box 56 [(Value.slice none 0 0)]), (s0.next, AObj.box 56 [(Value.slice none 0 0)])] [] []) => ?_
    refine Rf.call0 C5 (t42 n (⟨#[111, 98, 106, 101, 99, 116, 32, 99, 108, 97, 115, 115, 32, 110, 105, 108, 95, 116, 121, 112, 101, 32, 98, 111, 111, 108, 32, 105, 110, 116, 32, 114, 97, 116, 105, 111, 32, 116, 101, 120, 116, 32, 98, 121, 116, 101, 115, 32, 116, 117, 112, 108, 101, 32, 108, 105, 115, 116, 32, 100, 105, 99, 116, 32, 115, 101, 116, 32, 114, 97, 110, 103, 101, 32, 99, 101, 108, 108, 32, 102, 117, 110, 99, 116, 105, 111, 110, 32, 98, 117, 105, 108, 116, 105, 110, 32, 109, 101, 116, 104, 111, 100, 32, 109, 111, 100, 117, 108, 101, 32, 112, 114, 111, 112, 101, 114, 116, 121, 32, 115, 116, 97, 116, 105, 99, 32, 99, 108, 97, 115, 115, 95, 109, 101, 116, 104, 111, 100, 32, 115, 117, 112, 101, 114, 95, 116, 121, 112, 101, 32, 105, 116, 101, 114, 97, 116, 111, 114, 32, 103, 101, 110, 101, 114, 97, 116, 111, 114, 32, 119, 101, 97, 107, 32, 116, 97, 115, 107, 32, 116, 105, 109, 101, 114, 32, 112, 97, 115, 115, 95, 116, 121, 112, 101, 32, 82, 97, 105, 115, 101, 100, 32, 69, 120, 105, 116, 32, 67, 97, 110, 99, 101, 108, 32, 69, 114, 114, 111, 114, 32, 84, 121, 112, 101, 69, 114, 114, 111, 114, 32, 86, 97, 108, 117, 101, 69, 114, 114, 111, 114, 32, 78, 97, 109, 101, 69, 114, 114, 111, 114, 32, 85, 110, 98, 111, 117, 110, 100, 69, 114, 114, 111, 114, 32, 65, 116, 116, 114, 105, 98, 117, 116, 101, 69, 114, 114, 111, 114, 32, 76, 111, 111, 107, 117, 112, 69, 114, 114, 111, 114, 32, 73, 110, 100, 101, 120, 69, 114, 114, 111, 114, 32, 75, 101, 121, 69, 114, 114, 111, 114, 32, 65, 114, 105, 116, 104, 109, 101, 116, 105, 99, 69, 114, 114, 111, 114, 32, 68, 105, 118, 105, 115, 105, 111, 110, 69, 114, 114, 111, 114, 32, 76, 105, 109, 105, 116, 69, 114, 114, 111, 114, 32, 82, 101, 99, 117, 114, 115, 105, 111, 110, 69, 114, 114, 111, 114, 32, 65, 115, 115, 101, 114, 116, 105, 111, 110, 69, 114, 114, 111, 114, 32, 73, 109, 112, 111, 114, 116, 69, 114, 114, 111, 114, 32, 83, 116, 111, 112, 69, 114, 114, 111, 114, 32, 83, 116, 97, 116, 101, 69, 114, 114, 111, 114, 32, 71, 114, 111, 117, 112, 69, 114, 114, 111, 114]⟩ : ByteArray) s4 (C5.gl rfl gl0)) ?_
    rintro r7 _ s8 ⟨A9, c10, e12, rfl, h11⟩ h15
    have C16 : Cx s0.next [] [] s0 s8 [(s1.next, AObj.box 56 [(Value.slice none 0 0)]), (s0.next, AObj.box 56 [(Value.slice none 0 0)])] [(On.mk rS r7 A9 c10 9 true e12)] [] := h15 [(On.mk rS r7 A9 c10 9 true e12)] (by simpa using h11) (List.pairwise_singleton _ _)
    refine (Rf.asSl ?_)
    have C17 : Cx s0.next [] [] s0 s8 [(s1.next, AObj.box 56 [(Value.slice none 0 0)]), (s0.next, AObj.box 56 [(Value.slice none 0 0)])] [(On.mk (rP (rI .i64) (rP rS (rP (rI .i64) (rP (rL (rI .i64)) (rP (rL (rI .i64)) (rP (rL rS) (rP (rL (rP (rI .i64) (rP (rP rB (rL (rI .u32))) (rP (rP rB (rL (rI .u32))) (rP rS (rI .i64)))))) (rP (rL (rP (rI .i64) (rP (rP rB (rL (rI .u32))) (rP (rP rB (rL (rI .u32))) (rP rS (rI .i64)))))) (rP (rI .i64) (rI .i64)))))))))) ([] : List (Int × ByteArray × Int × (List Int) × (List Int) × (List ByteArray) × (List (Int × (Bool × (List Int)) × (Bool × (List Int)) × ByteArray × Int)) × (List (Int × (Bool × (List Int)) × (Bool × (List Int)) × ByteArray × Int)) × Int × Int)) none 0 60 false 0), (On.mk rS r7 A9 c10 9 true e12)] [] := C16.addNil (rP (rI .i64) (rP rS (rP (rI .i64) (rP (rL (rI .i64)) (rP (rL (rI .i64)) (rP (rL rS) (rP (rL (rP (rI .i64) (rP (rP rB (rL (rI .u32))) (rP (rP rB (rL (rI .u32))) (rP rS (rI .i64)))))) (rP (rL (rP (rI .i64) (rP (rP rB (rL (rI .u32))) (rP (rP rB (rL (rI .u32))) (rP rS (rI .i64)))))) (rP (rI .i64) (rI .i64)))))))))) 60
    refine Rf.loop (Inv := Inv31_1 s0 gl0 A9 r7 c10 e12 s1.next s0.next) (Ex := Ex31_1 s0 gl0 A9 r7 c10 e12 s1.next s0.next) (x31_1 s0 gl0 A9 r7 c10 e12 s1.next s0.next) (fun t g s K Q h => b31_1 n s0 gl0 A9 r7 c10 e12 s1.next s0.next t g s K Q h) n _ _ _ ⟨_, _, _, rfl, (C17.sub (List.Sublist.refl _) (List.Sublist.refl _) (List.Sublist.refl _))⟩ ?_
    intro t249 e g s292 h
    obtain ⟨A245, c246, e247, rfl, rfl, C293⟩ := h
    rw [e31_after0_exit0 n]
    refine Rf.ldSl (C293.at m0 rfl) ?_
    refine Rf.sto 1 C293 rfl (by simp) rfl fun s295 (C296 : Cx s0.next [] [] s0 s295 [(s1.next, AObj.box 56 [(Value.slice A245 (t249.1).length c246)]), (s0.next, AObj.box 56 [(Value.slice A245 (t249.1).length c246)])] [(On.mk (rP (rI .i64) (rP rS (rP (rI .i64) (rP (rL (rI .i64)) (rP (rL (rI .i64)) (rP (rL rS) (rP (rL (rP (rI .i64) (rP (rP rB (rL (rI .u32))) (rP (rP rB (rL (rI .u32))) (rP rS (rI .i64)))))) (rP (rL (rP (rI .i64) (rP (rP rB (rL (rI .u32))) (rP (rP rB (rL (rI .u32))) (rP rS (rI .i64)))))) (rP (rI .i64) (rI .i64)))))))))) t249.1 A245 c246 60 false e247), (On.mk rS r7 A9 c10 9 true e12)] []) => ?_
    refine Rf.ldSl (C296.at m1 rfl) ?_
    subst hH; subst hQ
    exact Rf.leaf fun _ => Ev.done (Rf.ret C296 ⟨_, _, rfl, (C296.srB m0)⟩)
-- 15 "brindlewood/builtins.classOf"
abbrev Inv15_1 (s0 : St) (p0 : ByteArray) (gl0 : GlobOk s0) (A3 : Option Addr) (c4 : Nat) (r1 : (List (Int × ByteArray × Int × (List Int) × (List Int) × (List ByteArray) × (List (Int × (Bool × (List Int)) × (Bool × (List Int)) × ByteArray × Int)) × (List (Int × (Bool × (List Int)) × (Bool × (List Int)) × ByteArray × Int)) × Int × Int))) (t : Int) (g : Regs) (s : St) : Prop := g = (rg 20 [(0, (Value.string p0)), (7, (Value.slice A3 (r1).length c4)), (8, (Value.int .i64 ((r1).length : Nat))), (9, (Value.int .i64 t))]) ∧ Cx s0.next [] [] s0 s [] [] [(Fa.sr (rP (rI .i64) (rP rS (rP (rI .i64) (rP (rL (rI .i64)) (rP (rL (rI .i64)) (rP (rL rS) (rP (rL (rP (rI .i64) (rP (rP rB (rL (rI .u32))) (rP (rP rB (rL (rI .u32))) (rP rS (rI .i64)))))) (rP (rL (rP (rI .i64) (rP (rP rB (rL (rI .u32))) (rP (rP rB (rL (rI .u32))) (rP rS (rI .i64)))))) (rP (rI .i64) (rI .i64)))))))))) A3 c4 r1)]
abbrev Ex15_1 (s0 : St) (p0 : ByteArray) (gl0 : GlobOk s0) (A3 : Option Addr) (c4 : Nat) (r1 : (List (Int × ByteArray × Int × (List Int) × (List Int) × (List ByteArray) × (List (Int × (Bool × (List Int)) × (Bool × (List Int)) × ByteArray × Int)) × (List (Int × (Bool × (List Int)) × (Bool × (List Int)) × ByteArray × Int)) × Int × Int))) (t : (Int ⊕ Int)) (e : X) (g : Regs) (s : St) : Prop := match t with
  | (.inl t) => e = .exit 0 ∧ g = (rg 20 [(0, (Value.string p0)), (7, (Value.slice A3 (r1).length c4)), (8, (Value.int .i64 ((r1).length : Nat))), (9, (Value.int .i64 t)), (10, (Value.bool false))]) ∧ Cx s0.next [] [] s0 s [] [] [(Fa.sr (rP (rI .i64) (rP rS (rP (rI .i64) (rP (rL (rI .i64)) (rP (rL (rI .i64)) (rP (rL rS) (rP (rL (rP (rI .i64) (rP (rP rB (rL (rI .u32))) (rP (rP rB (rL (rI .u32))) (rP rS (rI .i64)))))) (rP (rL (rP (rI .i64) (rP (rP rB (rL (rI .u32))) (rP (rP rB (rL (rI .u32))) (rP rS (rI .i64)))))) (rP (rI .i64) (rI .i64)))))))))) A3 c4 r1)]
  | (.inr t) => e = .ret ∧ g = (rg 20 [(2, (Value.int .i64 t)), (3, (Value.bool true))]) ∧ Cx s0.next [] [] s0 s [] [] []
theorem x15_1 (s0 : St) (p0 : ByteArray) (gl0 : GlobOk s0) (A3 : Option Addr) (c4 : Nat) (r1 : (List (Int × ByteArray × Int × (List Int) × (List Int) × (List ByteArray) × (List (Int × (Bool × (List Int)) × (Bool × (List Int)) × ByteArray × Int)) × (List (Int × (Bool × (List Int)) × (Bool × (List Int)) × ByteArray × Int)) × Int × Int))) (t : (Int ⊕ Int)) (e : X) (g : Regs) (s : St) (h : Ex15_1 s0 p0 gl0 A3 c4 r1 t e g s) : e ≠ .normal := by
  rcases t with t | t
  · obtain ⟨h, _⟩ := h
    rw [h]; intro hh; cases hh
  · obtain ⟨h, _⟩ := h
    rw [h]; intro hh; cases hh
def pb15_1 (n : Nat) (p0 : ByteArray) (r1 : (List (Int × ByteArray × Int × (List Int) × (List Int) × (List ByteArray) × (List (Int × (Bool × (List Int)) × (Bool × (List Int)) × ByteArray × Int)) × (List (Int × (Bool × (List Int)) × (Bool × (List Int)) × ByteArray × Int)) × Int × Int))) (t : Int) : Option (Int ⊕ (Int ⊕ Int)) :=
  (if (decide ((t : Int) < ((r1).length : Nat))) then ((rd r1 t (fun x36 => ((if (x36.2.1.toList == p0.toList) then ((((some (.inr (.inr t)))))) else (((some (.inl (IntKind.wrap .i64 (t + 1))))))))))) else (((some (.inr (.inl t))))))
theorem b15_1 (n : Nat) (s0 : St) (p0 : ByteArray) (gl0 : GlobOk s0) (A3 : Option Addr) (c4 : Nat) (r1 : (List (Int × ByteArray × Int × (List Int) × (List Int) × (List ByteArray) × (List (Int × (Bool × (List Int)) × (Bool × (List Int)) × ByteArray × Int)) × (List (Int × (Bool × (List Int)) × (Bool × (List Int)) × ByteArray × Int)) × Int × Int))) (x12 : Int) (g : Regs) (s33 : St) (K : Kont) (Q : Out → St → Prop) (h : Inv15_1 s0 p0 gl0 A3 c4 r1 x12 g s33) :
    Rf (pb15_1 n p0 r1 x12) (fun r => ∀ e g' s', LK (Inv15_1 s0 p0 gl0 A3 c4 r1) (Ex15_1 s0 p0 gl0 A3 c4 r1) r e g' s' → Ev (K e g' s') Q) (fun _ => Q) (kBody E 15 n [.b, .a, .b, .a, .a] g s33 K) := by
  obtain ⟨rfl, C34⟩ := h
  rw [e15_body0 n]
  unfold pb15_1
  refine Rf.gen fun H Q hH hQ => ?_
  refine Rf.ite ?_ ?_
  · refine Rf.elt (r := (rP (rI .i64) (rP rS (rP (rI .i64) (rP (rL (rI .i64)) (rP (rL (rI .i64)) (rP (rL rS) (rP (rL (rP (rI .i64) (rP (rP rB (rL (rI .u32))) (rP (rP rB (rL (rI .u32))) (rP rS (rI .i64)))))) (rP (rL (rP (rI .i64) (rP (rP rB (rL (rI .u32))) (rP (rP rB (rL (rI .u32))) (rP rS (rI .i64)))))) (rP (rI .i64) (rI .i64))))))))))) (C34.srG m0) rfl fun x36 i37 o38 c39 r40 h41 => ?_
    obtain ⟨c46, c47, rfl, r48, r49⟩ := rP_elim r40
    obtain rfl := rI_elim r48
    obtain ⟨c50, c51, rfl, r52, r53⟩ := rP_elim r49
    obtain rfl := rS_elim r52
    obtain ⟨c54, c55, rfl, r56, r57⟩ := rP_elim r53
    obtain rfl := rI_elim r56
    obtain ⟨c58, c59, rfl, r60, r61⟩ := rP_elim r57
    obtain ⟨A62, c63, rfl, h64⟩ := rL_elim r60
    have C66 := C34.add (Fa.sr (rI .i64) A62 c63 x36.2.2.2.1) h64
    obtain ⟨c67, c68, rfl, r69, r70⟩ := rP_elim r61
    obtain ⟨A71, c72, rfl, h73⟩ := rL_elim r69
    have C75 := C66.add (Fa.sr (rI .i64) A71 c72 x36.2.2.2.2.1) h73
    obtain ⟨c76, c77, rfl, r78, r79⟩ := rP_elim r70
    obtain ⟨A80, c81, rfl, h82⟩ := rL_elim r78
    have C84 := C75.add (Fa.sr rS A80 c81 x36.2.2.2.2.2.1) h82
    obtain ⟨c85, c86, rfl, r87, r88⟩ := rP_elim r79
    obtain ⟨A89, c90, rfl, h91⟩ := rL_elim r87
    have C93 := C84.add (Fa.sr (rP (rI .i64) (rP (rP rB (rL (rI .u32))) (rP (rP rB (rL (rI .u32))) (rP rS (rI .i64))))) A89 c90 x36.2.2.2.2.2.2.1) h91
    obtain ⟨c94, c95, rfl, r96, r97⟩ := rP_elim r88
    obtain ⟨A98, c99, rfl, h100⟩ := rL_elim r96
    have C102 := C93.add (Fa.sr (rP (rI .i64) (rP (rP rB (rL (rI .u32))) (rP (rP rB (rL (rI .u32))) (rP rS (rI .i64))))) A98 c99 x36.2.2.2.2.2.2.2.1) h100
    obtain ⟨c103, c104, rfl, r105, r106⟩ := rP_elim r97
    obtain rfl := rI_elim r105
    obtain rfl := rI_elim r106
    refine Rf.ldI (h41.at 0 rfl) ?_
    refine Rf.ldS (h41.at 1 rfl) ?_
    refine Rf.ldI (h41.at 2 rfl) ?_
    refine Rf.ldSl (h41.at 3 rfl) ?_
    refine Rf.ldSl (h41.at 4 rfl) ?_
    refine Rf.ldSl (h41.at 5 rfl) ?_
    refine Rf.ldSl (h41.at 6 rfl) ?_
    refine Rf.ldSl (h41.at 7 rfl) ?_
    refine Rf.ldI (h41.at 8 rfl) ?_
    refine Rf.ldI (h41.at 9 rfl) ?_
    refine Rf.new C102 fun s117 (C118 : Cx s0.next [] [] s0 s117 [(s33.next, AObj.box 60 [(Value.int .i64 0), (Value.string ByteArray.empty), (Value.int .i64 0), (Value.slice none 0 0), (Value.slice none 0 0), (Value.slice none 0 0), (Value.slice none 0 0), (Value.slice none 0 0), (Value.int .i64 0), (Value.int .i64 0)])] [] [(Fa.sr (rP (rI .i64) (rP (rP rB (rL (rI .u32))) (rP (rP rB (rL (rI .u32))) (rP rS (rI .i64))))) A98 c99 x36.2.2.2.2.2.2.2.1), (Fa.sr (rP (rI .i64) (rP (rP rB (rL (rI .u32))) (rP (rP rB (rL (rI .u32))) (rP rS (rI .i64))))) A89 c90 x36.2.2.2.2.2.2.1), (Fa.sr rS A80 c81 x36.2.2.2.2.2.1), (Fa.sr (rI .i64) A71 c72 x36.2.2.2.2.1), (Fa.sr (rI .i64) A62 c63 x36.2.2.2.1), (Fa.sr (rP (rI .i64) (rP rS (rP (rI .i64) (rP (rL (rI .i64)) (rP (rL (rI .i64)) (rP (rL rS) (rP (rL (rP (rI .i64) (rP (rP rB (rL (rI .u32))) (rP (rP rB (rL (rI .u32))) (rP rS (rI .i64)))))) (rP (rL (rP (rI .i64) (rP (rP rB (rL (rI .u32))) (rP (rP rB (rL (rI .u32))) (rP rS (rI .i64)))))) (rP (rI .i64) (rI .i64)))))))))) A3 c4 r1)]) => ?_
    refine Rf.sto 0 C118 rfl (by simp) rfl fun s120 (C121 : Cx s0.next [] [] s0 s120 [(s33.next, AObj.box 60 [(Value.int .i64 x36.1), (Value.string x36.2.1), (Value.int .i64 x36.2.2.1), (Value.slice A62 (x36.2.2.2.1).length c63), (Value.slice A71 (x36.2.2.2.2.1).length c72), (Value.slice A80 (x36.2.2.2.2.2.1).length c81), (Value.slice A89 (x36.2.2.2.2.2.2.1).length c90), (Value.slice A98 (x36.2.2.2.2.2.2.2.1).length c99), (Value.int .i64 x36.2.2.2.2.2.2.2.2.1), (Value.int .i64 x36.2.2.2.2.2.2.2.2.2)])] [] [(Fa.sr (rP (rI .i64) (rP (rP rB (rL (rI .u32))) (rP (rP rB (rL (rI .u32))) (rP rS (rI .i64))))) A98 c99 x36.2.2.2.2.2.2.2.1), (Fa.sr (rP (rI .i64) (rP (rP rB (rL (rI .u32))) (rP (rP rB (rL (rI .u32))) (rP rS (rI .i64))))) A89 c90 x36.2.2.2.2.2.2.1), (Fa.sr rS A80 c81 x36.2.2.2.2.2.1), (Fa.sr (rI .i64) A71 c72 x36.2.2.2.2.1), (Fa.sr (rI .i64) A62 c63 x36.2.2.2.1), (Fa.sr (rP (rI .i64) (rP rS (rP (rI .i64) (rP (rL (rI .i64)) (rP (rL (rI .i64)) (rP (rL rS) (rP (rL (rP (rI .i64) (rP (rP rB (rL (rI .u32))) (rP (rP rB (rL (rI .u32))) (rP rS (rI .i64)))))) (rP (rL (rP (rI .i64) (rP (rP rB (rL (rI .u32))) (rP (rP rB (rL (rI .u32))) (rP rS (rI .i64)))))) (rP (rI .i64) (rI .i64)))))))))) A3 c4 r1)]) => ?_
    refine Rf.ldS (C121.at m0 rfl) ?_
    refine Rf.ite ?_ ?_
    · subst hH; subst hQ
      exact Rf.leaf fun h => h _ _ _ ⟨rfl, rfl, (C121.sub (List.Sublist.cons _ List.Sublist.slnil) (List.Sublist.refl _) (List.Sublist.cons _ (List.Sublist.cons _ (List.Sublist.cons _ (List.Sublist.cons _ (List.Sublist.cons _ (List.Sublist.cons _ List.Sublist.slnil)))))))⟩
    · subst hH; subst hQ
      exact Rf.leaf fun h => h _ _ _ ⟨rfl, rfl, (C121.sub (List.Sublist.cons _ List.Sublist.slnil) (List.Sublist.refl _) (List.Sublist.cons _ (List.Sublist.cons _ (List.Sublist.cons _ (List.Sublist.cons _ (List.Sublist.cons _ (List.Sublist.cons_cons _ List.Sublist.slnil)))))))⟩
  · subst hH; subst hQ
    exact Rf.leaf fun h => h _ _ _ ⟨rfl, rfl, (C34.sub (List.Sublist.refl _) (List.Sublist.refl _) (List.Sublist.refl _))⟩
abbrev P15 (N : Nat) (X : List Nat) (r : (Int × Bool)) (v : Value) (s : St) : Prop := v = (Value.tuple #[(Value.int .i64 r.1), (Value.bool r.2)])
def p15 : Nat → ByteArray → Option (Int × Bool)
  | 0, _ => none
  | n + 1, p0 => ((p31 n).bind fun r1 => ((loopP (pb15_1 n p0 r1) n 0).bind fun t174 => match t174 with | (.inl t128) => ((some ((0, false) : (Int × Bool)))) | (.inr t151) => (some ((t151, true) : (Int × Bool)))))
theorem t15 (k : Nat) (p0 : ByteArray) (s0 : St) (gl0 : GlobOk s0) :
    Rf (p15 k p0) (fun _ => True) (fun r => RtC s0.next [] [] s0 (P15 s0.next [] r)) (acall E k 15 [(Value.string p0)] s0) := by
  cases k with
  | zero => exact Rf.none
  | succ n =>
    rw [e15 n]
    rw [p15]
    refine Rf.gen fun H Q hH hQ => ?_
    have C0 : Cx s0.next [] [] s0 s0 [] [] [] := Cx.start s0
    refine Rf.call0 C0 (t31 n s0 (C0.gl rfl gl0)) ?_
    rintro r1 _ s2 ⟨A3, c4, rfl, h5⟩ h8
    have C9 : Cx s0.next [] [] s0 s2 [] [] [] := h8 [] (by simp) List.Pairwise.nil
    have C10 := C9.add (Fa.sr (rP (rI .i64) (rP rS (rP (rI .i64) (rP (rL (rI .i64)) (rP (rL (rI .i64)) (rP (rL rS) (rP (rL (rP (rI .i64) (rP (rP rB (rL (rI .u32))) (rP (rP rB (rL (rI .u32))) (rP rS (rI .i64)))))) (rP (rL (rP (rI .i64) (rP (rP rB (rL (rI .u32))) (rP (rP rB (rL (rI .u32))) (rP rS (rI .i64)))))) (rP (rI .i64) (rI .i64)))))))))) A3 c4 r1) h5
    refine (Rf.asAgg (Rf.unc (Rf.asSl (Rf.unn ?_))))
    refine Rf.loop (Inv := Inv15_1 s0 p0 gl0 A3 c4 r1) (Ex := Ex15_1 s0 p0 gl0 A3 c4 r1) (x15_1 s0 p0 gl0 A3 c4 r1) (fun t g s K Q h => b15_1 n s0 p0 gl0 A3 c4 r1 t g s K Q h) n _ _ _ ⟨rfl, (C10.sub (List.Sublist.refl _) (List.Sublist.refl _) (List.Sublist.refl _))⟩ ?_
    intro t e g s h
    rcases t with t128 | t151
    · generalize s = s149 at h ⊢
      obtain ⟨rfl, rfl, C150⟩ := h
      rw [e15_after0_exit0 n]
      subst hH; subst hQ
      exact Rf.leaf fun _ => Ev.done (Rf.ret C150 rfl)
    · generalize s = s172 at h ⊢
      obtain ⟨rfl, rfl, C173⟩ := h
      rw [e15_after0_ret n]
      subst hH; subst hQ
      exact Rf.leaf fun _ => Ev.done (Rf.ret C173 rfl)
-- 16 "brindlewood/heap.Ref"
abbrev P16 (N : Nat) (X : List Nat) (r : (Int × (Bool × (List Int)) × (Bool × (List Int)) × ByteArray × Int)) (v : Value) (s : St) : Prop := ∃ (A0 : Option Addr) (c0 : Nat) (A2 : Option Addr) (c2 : Nat), v = (Value.agg #[(Value.int .i64 r.1), (Value.bool r.2.1.1), (Value.slice A0 (r.2.1.2).length c0), (Value.bool r.2.2.1.1), (Value.slice A2 (r.2.2.1.2).length c2), (Value.string r.2.2.2.1), (Value.int .i64 r.2.2.2.2)]) ∧ Sr (rI .u32) s A0 c0 r.2.1.2 ∧ Sr (rI .u32) s A2 c2 r.2.2.1.2
def p16 : Nat → Int → Option (Int × (Bool × (List Int)) × (Bool × (List Int)) × ByteArray × Int)
  | 0, _ => none
  | n + 1, p0 => ((some ((6, (false, ([] : (List Int))), (false, ([] : (List Int))), ByteArray.empty, p0) : (Int × (Bool × (List Int)) × (Bool × (List Int)) × ByteArray × Int))))
theorem t16 (k : Nat) (p0 : Int) (s0 : St) (gl0 : GlobOk s0) :
    Rf (p16 k p0) (fun _ => True) (fun r => RtC s0.next [] [] s0 (P16 s0.next [] r)) (acall E k 16 [(Value.int .i64 p0)] s0) := by
  cases k with
  | zero => exact Rf.none
  | succ n =>
    rw [e16 n]
    rw [p16]
    refine Rf.gen fun H Q hH hQ => ?_
    have C0 : Cx s0.next [] [] s0 s0 [] [] [] := Cx.start s0
    refine Rf.new C0 fun s1 (C2 : Cx s0.next [] [] s0 s1 [(s0.next, AObj.box 26 [(Value.int .i64 0), (Value.bool false), (Value.slice none 0 0), (Value.bool false), (Value.slice none 0 0), (Value.string ByteArray.empty), (Value.int .i64 0)])] [] []) => ?_
    refine Rf.sto 0 C2 rfl (by simp) rfl fun s4 (C5 : Cx s0.next [] [] s0 s4 [(s0.next, AObj.box 26 [(Value.int .i64 6), (Value.bool false), (Value.slice none 0 0), (Value.bool false), (Value.slice none 0 0), (Value.string ByteArray.empty), (Value.int .i64 p0)])] [] []) => ?_
    refine Rf.ldI (C5.at m0 rfl) ?_
    refine Rf.ldB (C5.at m0 rfl) ?_
    refine Rf.ldSl (C5.at m0 rfl) ?_
    refine Rf.ldB (C5.at m0 rfl) ?_
    refine Rf.ldSl (C5.at m0 rfl) ?_
    refine Rf.ldS (C5.at m0 rfl) ?_
    refine Rf.ldI (C5.at m0 rfl) ?_
    subst hH; subst hQ
    exact Rf.leaf fun _ => Ev.done (Rf.ret C5 ⟨_, _, _, _, rfl, Sr.nil, Sr.nil⟩)
-- 17 "brindlewood/builtins.signature"
abbrev Inv17_1 (s0 : St) (p0 : ByteArray) (gl0 : GlobOk s0) (A3 : Option Addr) (c4 : Nat) (e6 : Nat) (r1 : (List ByteArray)) (t : Int) (g : Regs) (s : St) : Prop := g = (rg 26 [(0, (Value.string p0)), (9, (Value.slice A3 (r1).length c4)), (10, (Value.int .i64 ((r1).length : Nat))), (11, (Value.int .i64 t))]) ∧ Cx s0.next [] [] s0 s [] [(On.mk rS r1 A3 c4 9 true e6)] []
abbrev Ex17_1 (s0 : St) (p0 : ByteArray) (gl0 : GlobOk s0) (A3 : Option Addr) (c4 : Nat) (e6 : Nat) (r1 : (List ByteArray)) (t : (Int ⊕ ByteArray)) (e : X) (g : Regs) (s : St) : Prop := match t with
  | (.inl t) => e = .exit 0 ∧ g = (rg 26 [(0, (Value.string p0)), (9, (Value.slice A3 (r1).length c4)), (10, (Value.int .i64 ((r1).length : Nat))), (11, (Value.int .i64 t)), (12, (Value.bool false))]) ∧ Cx s0.next [] [] s0 s [] [(On.mk rS r1 A3 c4 9 true e6)] []
  | (.inr t) => e = .ret ∧ g = (rg 26 [(2, (Value.string t)), (3, (Value.bool true))]) ∧ Cx s0.next [] [] s0 s [] [] []
theorem x17_1 (s0 : St) (p0 : ByteArray) (gl0 : GlobOk s0) (A3 : Option Addr) (c4 : Nat) (e6 : Nat) (r1 : (List ByteArray)) (t : (Int ⊕ ByteArray)) (e : X) (g : Regs) (s : St) (h : Ex17_1 s0 p0 gl0 A3 c4 e6 r1 t e g s) : e ≠ .normal := by
  rcases t with t | t
  · obtain ⟨h, _⟩ := h
    rw [h]; intro hh; cases hh
  · obtain ⟨h, _⟩ := h
    rw [h]; intro hh; cases hh
def pb17_1 (n : Nat) (p0 : ByteArray) (r1 : (List ByteArray)) (t : Int) : Option (Int ⊕ (Int ⊕ ByteArray)) :=
  (if (decide ((t : Int) < ((r1).length : Nat))) then ((rd r1 t (fun x41 => ((p23 n x41 (⟨#[32]⟩ : ByteArray)).bind fun r52 => ((if (r52.1.toList == p0.toList) then ((((some (.inr (.inr r52.2.1)))))) else (((some (.inl (IntKind.wrap .i64 (t + 1)))))))))))) else (((some (.inr (.inl t))))))
theorem b17_1 (n : Nat) (s0 : St) (p0 : ByteArray) (gl0 : GlobOk s0) (A3 : Option Addr) (c4 : Nat) (e6 : Nat) (r1 : (List ByteArray)) (x11 : Int) (g : Regs) (s38 : St) (K : Kont) (Q : Out → St → Prop) (h : Inv17_1 s0 p0 gl0 A3 c4 e6 r1 x11 g s38) :
    Rf (pb17_1 n p0 r1 x11) (fun r => ∀ e g' s', LK (Inv17_1 s0 p0 gl0 A3 c4 e6 r1) (Ex17_1 s0 p0 gl0 A3 c4 e6 r1) r e g' s' → Ev (K e g' s') Q) (fun _ => Q) (kBody E 17 n [.b, .a, .b, .a, .a] g s38 K) := by
  obtain ⟨rfl, C39⟩ := h
  rw [e17_body0 n]
  unfold pb17_1
  refine Rf.gen fun H Q hH hQ => ?_
  refine Rf.ite ?_ ?_
  · refine Rf.eltW (j := 0) C39 rfl rfl rfl fun x41 i42 o43 h44 h45 h46 h47 => ?_
    obtain ⟨c48, r49, h50⟩ := C39.loW (j := 0) rfl h44 h45 h46 h47
    obtain rfl := rS_elim r49
    refine Rf.ldS (h50.at 0 rfl) ?_
    refine Rf.call0 C39 (t23 n x41 (⟨#[32]⟩ : ByteArray) s38 (C39.gl rfl gl0)) ?_
    rintro r52 _ s53 rfl h57
    have C58 : Cx s0.next [] [] s0 s53 [] [(On.mk rS r1 A3 c4 9 true e6)] [] := h57 [] (by simp) List.Pairwise.nil
    refine (Rf.asTup (Rf.unc (Rf.asS (Rf.unc (Rf.asS (Rf.unc (Rf.asB (Rf.unn ?_))))))))
    refine Rf.ite ?_ ?_
    · subst hH; subst hQ
      exact Rf.leaf fun h => h _ _ _ ⟨rfl, rfl, (C58.sub (List.Sublist.refl _) (List.Sublist.cons _ List.Sublist.slnil) (List.Sublist.refl _))⟩
    · subst hH; subst hQ
      exact Rf.leaf fun h => h _ _ _ ⟨rfl, rfl, (C58.sub (List.Sublist.refl _) (List.Sublist.refl _) (List.Sublist.refl _))⟩
  · subst hH; subst hQ
    exact Rf.leaf fun h => h _ _ _ ⟨rfl, rfl, (C39.sub (List.Sublist.refl _) (List.Sublist.refl _) (List.Sublist.refl _))⟩
abbrev P17 (N : Nat) (X : List Nat) (r : (ByteArray × Bool)) (v : Value) (s : St) : Prop := v = (Value.tuple #[(Value.string r.1), (Value.bool r.2)])
def p17 : Nat → ByteArray → Option (ByteArray × Bool)
  | 0, _ => none
  | n + 1, p0 => ((p22 n (⟨#[97, 98, 115, 32, 118, 10, 97, 108, 108, 32, 118, 10, 97, 110, 121, 32, 118, 10, 97, 98, 115, 116, 114, 97, 99, 116, 32, 102, 10, 99, 104, 114, 32, 110, 10, 99, 111, 108, 108, 101, 99, 116, 10, 100, 101, 114, 105, 118, 101, 115, 32, 99, 32, 100, 10, 100, 105, 118, 109, 111, 100, 32, 97, 32, 98, 10, 100, 114, 111, 112, 32, 118, 32, 110, 97, 109, 101, 10, 101, 110, 117, 109, 101, 114, 97, 116, 101, 32, 118, 32, 115, 116, 97, 114, 116, 61, 48, 10, 103, 101, 116, 32, 118, 32, 110, 97, 109, 101, 32, 100, 101, 102, 97, 117, 108, 116, 61, 63, 10, 104, 97, 115, 32, 118, 32, 110, 97, 109, 101, 10, 105, 115, 95, 97, 32, 118, 32, 99, 10, 105, 116, 101, 114, 32, 118, 10, 108, 101, 110, 32, 118, 10, 109, 97, 120, 32, 42, 118, 97, 108, 117, 101, 115, 32, 107, 101, 121, 61, 45, 10, 109, 105, 110, 32, 42, 118, 97, 108, 117, 101, 115, 32, 107, 101, 121, 61, 45, 10, 110, 97, 109, 101, 115, 32, 118, 10, 110, 101, 120, 116, 32, 105, 116, 32, 100, 101, 102, 97, 117, 108, 116, 61, 63, 10, 110, 111, 119, 10, 111, 114, 100, 32, 115, 10, 112, 114, 105, 110, 116, 32, 42, 118, 97, 108, 117, 101, 115, 32, 115, 101, 112, 61, 95, 32, 101, 110, 100, 61, 47, 10, 112, 117, 116, 32, 118, 32, 110, 97, 109, 101, 32, 119, 10, 114, 97, 110, 103, 101, 32, 97, 32, 98, 61, 63, 32, 99, 61, 49, 10, 114, 101, 108, 111, 97, 100, 32, 109, 10, 114, 101, 112, 114, 32, 118, 10, 114, 101, 118, 101, 114, 115, 101, 100, 32, 118, 10, 114, 111, 117, 110, 100, 32, 118, 32, 100, 105, 103, 105, 116, 115, 61, 48, 10, 114, 117, 110, 32, 99, 10, 115, 108, 101, 101, 112, 32, 110, 10, 115, 111, 114, 116, 101, 100, 32, 118, 32, 107, 101, 121, 61, 45, 32, 114, 101, 118, 101, 114, 115, 101, 61, 33, 10, 115, 112, 97, 119, 110, 32, 99, 10, 115, 117, 109, 32, 118, 32, 115, 116, 97, 114, 116, 61, 48, 10, 122, 105, 112, 32, 42, 118, 97, 108, 117, 101, 115, 10, 99, 108, 97, 115, 115, 32, 118, 10, 98, 111, 111, 108, 32, 118, 61, 33, 10, 105, 110, 116, 32, 118, 61, 48, 32, 98, 97, 115, 101, 61, 49, 48, 10, 114, 97, 116, 105, 111, 32, 118, 10, 116, 101, 120, 116, 32, 118, 61, 35, 10, 98, 121, 116, 101, 115, 32, 118, 61, 63, 10, 116, 117, 112, 108, 101, 32, 118, 61, 63, 10, 108, 105, 115, 116, 32, 118, 61, 63, 10, 115, 101, 116, 32, 118, 61, 63, 10, 100, 105, 99, 116, 32, 118, 61, 63, 10, 112, 114, 111, 112, 101, 114, 116, 121, 32, 103, 101, 116, 116, 101, 114, 32, 115, 101, 116, 116, 101, 114, 61, 45, 32, 100, 101, 108, 101, 116, 101, 114, 61, 45, 10, 115, 116, 97, 116, 105, 99, 32, 102, 10, 99, 108, 97, 115, 115, 95, 109, 101, 116, 104, 111, 100, 32, 102, 10, 119, 101, 97, 107, 32, 118, 10, 105, 110, 116, 46, 98, 105, 116, 115, 10, 114, 97, 116, 105, 111, 46, 100, 101, 110, 10, 114, 97, 116, 105, 111, 46, 110, 117, 109, 10, 116, 101, 120, 116, 46, 99, 111, 117, 110, 116, 32, 120, 10, 116, 101, 120, 116, 46, 101, 110, 99, 111, 100, 101, 10, 116, 101, 120, 116, 46, 101, 110, 100, 115, 95, 119, 105, 116, 104, 32, 120, 10, 116, 101, 120, 116, 46, 102, 105, 110, 100, 32, 120, 32, 115, 116, 97, 114, 116, 61, 48, 10, 116, 101, 120, 116, 46, 106, 111, 105, 110, 32, 118, 10, 116, 101, 120, 116, 46, 108, 111, 119, 101, 114, 10, 116, 101, 120, 116, 46, 114, 101, 112, 108, 97, 99, 101, 32, 97, 32, 98, 32, 109, 111, 115, 116, 61, 45, 49, 10, 116, 101, 120, 116, 46, 115, 112, 108, 105, 116, 32, 115, 101, 112, 61, 45, 32, 109, 111, 115, 116, 61, 45, 49, 10, 116, 101, 120, 116, 46, 115, 116, 97, 114, 116, 115, 95, 119, 105, 116, 104, 32, 120, 10, 116, 101, 120, 116, 46, 115, 116, 114, 105, 112, 32, 99, 104, 97, 114, 115, 61, 45, 10, 116, 101, 120, 116, 46, 117, 112, 112, 101, 114, 10, 98, 121, 116, 101, 115, 46, 100, 101, 99, 111, 100, 101, 10, 98, 121, 116, 101, 115, 46, 102, 105, 110, 100, 32, 120, 32, 115, 116, 97, 114, 116, 61, 48, 10, 98, 121, 116, 101, 115, 46, 104, 101, 120, 10, 116, 117, 112, 108, 101, 46, 99, 111, 117, 110, 116, 32, 118, 10, 116, 117, 112, 108, 101, 46, 105, 110, 100, 101, 120, 32, 118, 10, 108, 105, 115, 116, 46, 97, 112, 112, 101, 110, 100, 32, 118, 10, 108, 105, 115, 116, 46, 99, 108, 101, 97, 114, 10, 108, 105, 115, 116, 46, 99, 111, 112, 121, 10, 108, 105, 115, 116, 46, 99, 111, 117, 110, 116, 32, 118, 10, 108, 105, 115, 116, 46, 101, 120, 116, 101, 110, 100, 32, 118, 10, 108, 105, 115, 116, 46, 105, 110, 100, 101, 120, 32, 118, 10, 108, 105, 115, 116, 46, 105, 110, 115, 101, 114, 116, 32, 105, 32, 118, 10, 108, 105, 115, 116, 46, 112, 111, 112, 32, 105, 61, 45, 49, 10, 108, 105, 115, 116, 46, 114, 101, 109, 111, 118, 101, 32, 118, 10, 108, 105, 115, 116, 46, 114, 101, 118, 101, 114, 115, 101, 10, 108, 105, 115, 116, 46, 115, 111, 114, 116, 32, 107, 101, 121, 61, 45, 32, 114, 101, 118, 101, 114, 115, 101, 61, 33, 10, 100, 105, 99, 116, 46, 99, 108, 101, 97, 114, 10, 100, 105, 99, 116, 46, 99, 111, 112, 121, 10, 100, 105, 99, 116, 46, 103, 101, 116, 32, 107, 32, 100, 101, 102, 97, 117, 108, 116, 61, 45, 10, 100, 105, 99, 116, 46, 105, 116, 101, 109, 115, 10, 100, 105, 99, 116, 46, 107, 101, 121, 115, 10, 100, 105, 99, 116, 46, 112, 111, 112, 32, 107, 32, 100, 101, 102, 97, 117, 108, 116, 61, 63, 10, 100, 105, 99, 116, 46, 115, 101, 116, 95, 100, 101, 102, 97, 117, 108, 116, 32, 107, 32, 118, 61, 45, 10, 100, 105, 99, 116, 46, 117, 112, 100, 97, 116, 101, 32, 100, 10, 100, 105, 99, 116, 46, 118, 97, 108, 117, 101, 115, 10, 115, 101, 116, 46, 97, 100, 100, 32, 118, 10, 115, 101, 116, 46, 99, 108, 101, 97, 114, 10, 115, 101, 116, 46, 99, 111, 112, 121, 10, 115, 101, 116, 46, 100, 105, 115, 99, 97, 114, 100, 32, 118, 10, 115, 101, 116, 46, 114, 101, 109, 111, 118, 101, 32, 118, 10, 112, 114, 111, 112, 101, 114, 116, 121, 46, 119, 105, 116, 104, 95, 100, 101, 108, 101, 116, 101, 114, 32, 102, 10, 112, 114, 111, 112, 101, 114, 116, 121, 46, 119, 105, 116, 104, 95, 115, 101, 116, 116, 101, 114, 32, 102, 10, 103, 101, 110, 101, 114, 97, 116, 111, 114, 46, 99, 108, 111, 115, 101, 10, 103, 101, 110, 101, 114, 97, 116, 111, 114, 46, 115, 101, 110, 100, 32, 118, 10, 103, 101, 110, 101, 114, 97, 116, 111, 114, 46, 116, 104, 114, 111, 119, 32, 120, 10, 116, 97, 115, 107, 46, 99, 97, 110, 99, 101, 108, 10, 116, 97, 115, 107, 46, 100, 111, 110, 101]⟩ : ByteArray) (⟨#[10]⟩ : ByteArray)).bind fun r1 => ((loopP (pb17_1 n p0 r1) n 0).bind fun t119 => match t119 with | (.inl t61) => ((some (((⟨#[]⟩ : ByteArray), false) : (ByteArray × Bool)))) | (.inr t90) => (some ((t90, true) : (ByteArray × Bool)))))
theorem t17 (k : Nat) (p0 : ByteArray) (s0 : St) (gl0 : GlobOk s0) :
    Rf (p17 k p0) (fun _ => True) (fun r => RtC s0.next [] [] s0 (P17 s0.next [] r)) (acall E k 17 [(Value.string p0)] s0) := by
  cases k with
  | zero => exact Rf.none
  | succ n =>
    rw [e17 n]
    rw [p17]
    refine Rf.gen fun H Q hH hQ => ?_
    have C0 : Cx s0.next [] [] s0 s0 [] [] [] := Cx.start s0
    refine Rf.call0 C0 (t22 n (⟨#[97, 98, 115, 32, 118, 10, 97, 108, 108, 32, 118, 10, 97, 110, 121, 32, 118, 10, 97, 98, 115, 116, 114, 97, 99, 116, 32, 102, 10, 99, 104, 114, 32, 110, 10, 99, 111, 108, 108, 101, 99, 116, 10, 100, 101, 114, 105, 118, 101, 115, 32, 99, 32, 100, 10, 100, 105, 118, 109, 111, 100, 32, 97, 32, 98, 10, 100, 114, 111, 112, 32, 118, 32, 110, 97, 109, 101, 10, 101, 110, 117, 109, 101, 114, 97, 116, 101, 32, 118, 32, 115, 116, 97, 114, 116, 61, 48, 10, 103, 101, 116, 32, 118, 32, 110, 97, 109, 101, 32, 100, 101, 102, 97, 117, 108, 116, 61, 63, 10, 104, 97, 115, 32, 118, 32, 110, 97, 109, 101, 10, 105, 115, 95, 97, 32, 118, 32, 99, 10, 105, 116, 101, 114, 32, 118, 10, 108, 101, 110, 32, 118, 10, 109, 97, 120, 32, 42, 118, 97, 108, 117, 101, 115, 32, 107, 101, 121, 61, 45, 10, 109, 105, 110, 32, 42, 118, 97, 108, 117, 101, 115, 32, 107, 101, 121, 61, 45, 10, 110, 97, 109, 101, 115, 32, 118, 10, 110, 101, 120, 116, 32, 105, 116, 32, 100, 101, 102, 97, 117, 108, 116, 61, 63, 10, 110, 111, 119, 10, 111, 114, 100, 32, 115, 10, 112, 114, 105, 110, 116, 32, 42, 118, 97, 108, 117, 101, 115, 32, 115, 101, 112, 61, 95, 32, 101, 110, 100, 61, 47, 10, 112, 117, 116, 32, 118, 32, 110, 97, 109, 101, 32, 119, 10, 114, 97, 110, 103, 101, 32, 97, 32, 98, 61, 63, 32, 99, 61, 49, 10, 114, 101, 108, 111, 97, 100, 32, 109, 10, 114, 101, 112, 114, 32, 118, 10, 114, 101, 118, 101, 114, 115, 101, 100, 32, 118, 10, 114, 111, 117, 110, 100, 32, 118, 32, 100, 105, 103, 105, 116, 115, 61, 48, 10, 114, 117, 110, 32, 99, 10, 115, 108, 101, 101, 112, 32, 110, 10, 115, 111, 114, 116, 101, 100, 32, 118, 32, 107, 101, 121, 61, 45, 32, 114, 101, 118, 101, 114, 115, 101, 61, 33, 10, 115, 112, 97, 119, 110, 32, 99, 10, 115, 117, 109, 32, 118, 32, 115, 116, 97, 114, 116, 61, 48, 10, 122, 105, 112, 32, 42, 118, 97, 108, 117, 101, 115, 10, 99, 108, 97, 115, 115, 32, 118, 10, 98, 111, 111, 108, 32, 118, 61, 33, 10, 105, 110, 116, 32, 118, 61, 48, 32, 98, 97, 115, 101, 61, 49, 48, 10, 114, 97, 116, 105, 111, 32, 118, 10, 116, 101, 120, 116, 32, 118, 61, 35, 10, 98, 121, 116, 101, 115, 32, 118, 61, 63, 10, 116, 117, 112, 108, 101, 32, 118, 61, 63, 10, 108, 105, 115, 116, 32, 118, 61, 63, 10, 115, 101, 116, 32, 118, 61, 63, 10, 100, 105, 99, 116, 32, 118, 61, 63, 10, 112, 114, 111, 112, 101, 114, 116, 121, 32, 103, 101, 116, 116, 101, 114, 32, 115, 101, 116, 116, 101, 114, 61, 45, 32, 100, 101, 108, 101, 116, 101, 114, 61, 45, 10, 115, 116, 97, 116, 105, 99, 32, 102, 10, 99, 108, 97, 115, 115, 95, 109, 101, 116, 104, 111, 100, 32, 102, 10, 119, 101, 97, 107, 32, 118, 10, 105, 110, 116, 46, 98, 105, 116, 115, 10, 114, 97, 116, 105, 111, 46, 100, 101, 110, 10, 114, 97, 116, 105, 111, 46, 110, 117, 109, 10, 116, 101, 120, 116, 46, 99, 111, 117, 110, 116, 32, 120, 10, 116, 101, 120, 116, 46, 101, 110, 99, 111, 100, 101, 10, 116, 101, 120, 116, 46, 101, 110, 100, 115, 95, 119, 105, 116, 104, 32, 120, 10, 116, 101, 120, 116, 46, 102, 105, 110, 100, 32, 120, 32, 115, 116, 97, 114, 116, 61, 48, 10, 116, 101, 120, 116, 46, 106, 111, 105, 110, 32, 118, 10, 116, 101, 120, 116, 46, 108, 111, 119, 101, 114, 10, 116, 101, 120, 116, 46, 114, 101, 112, 108, 97, 99, 101, 32, 97, 32, 98, 32, 109, 111, 115, 116, 61, 45, 49, 10, 116, 101, 120, 116, 46, 115, 112, 108, 105, 116, 32, 115, 101, 112, 61, 45, 32, 109, 111, 115, 116, 61, 45, 49, 10, 116, 101, 120, 116, 46, 115, 116, 97, 114, 116, 115, 95, 119, 105, 116, 104, 32, 120, 10, 116, 101, 120, 116, 46, 115, 116, 114, 105, 112, 32, 99, 104, 97, 114, 115, 61, 45, 10, 116, 101, 120, 116, 46, 117, 112, 112, 101, 114, 10, 98, 121, 116, 101, 115, 46, 100, 101, 99, 111, 100, 101, 10, 98, 121, 116, 101, 115, 46, 102, 105, 110, 100, 32, 120, 32, 115, 116, 97, 114, 116, 61, 48, 10, 98, 121, 116, 101, 115, 46, 104, 101, 120, 10, 116, 117, 112, 108, 101, 46, 99, 111, 117, 110, 116, 32, 118, 10, 116, 117, 112, 108, 101, 46, 105, 110, 100, 101, 120, 32, 118, 10, 108, 105, 115, 116, 46, 97, 112, 112, 101, 110, 100, 32, 118, 10, 108, 105, 115, 116, 46, 99, 108, 101, 97, 114, 10, 108, 105, 115, 116, 46, 99, 111, 112, 121, 10, 108, 105, 115, 116, 46, 99, 111, 117, 110, 116, 32, 118, 10, 108, 105, 115, 116, 46, 101, 120, 116, 101, 110, 100, 32, 118, 10, 108, 105, 115, 116, 46, 105, 110, 100, 101, 120, 32, 118, 10, 108, 105, 115, 116, 46, 105, 110, 115, 101, 114, 116, 32, 105, 32, 118, 10, 108, 105, 115, 116, 46, 112, 111, 112, 32, 105, 61, 45, 49, 10, 108, 105, 115, 116, 46, 114, 101, 109, 111, 118, 101, 32, 118, 10, 108, 105, 115, 116, 46, 114, 101, 118, 101, 114, 115, 101, 10, 108, 105, 115, 116, 46, 115, 111, 114, 116, 32, 107, 101, 121, 61, 45, 32, 114, 101, 118, 101, 114, 115, 101, 61, 33, 10, 100, 105, 99, 116, 46, 99, 108, 101, 97, 114, 10, 100, 105, 99, 116, 46, 99, 111, 112, 121, 10, 100, 105, 99, 116, 46, 103, 101, 116, 32, 107, 32, 100, 101, 102, 97, 117, 108, 116, 61, 45, 10, 100, 105, 99, 116, 46, 105, 116, 101, 109, 115, 10, 100, 105, 99, 116, 46, 107, 101, 121, 115, 10, 100, 105, 99, 116, 46, 112, 111, 112, 32, 107, 32, 100, 101, 102, 97, 117, 108, 116, 61, 63, 10, 100, 105, 99, 116, 46, 115, 101, 116, 95, 100, 101, 102, 97, 117, 108, 116, 32, 107, 32, 118, 61, 45, 10, 100, 105, 99, 116, 46, 117, 112, 100, 97, 116, 101, 32, 100, 10, 100, 105, 99, 116, 46, 118, 97, 108, 117, 101, 115, 10, 115, 101, 116, 46, 97, 100, 100, 32, 118, 10, 115, 101, 116, 46, 99, 108, 101, 97, 114, 10, 115, 101, 116, 46, 99, 111, 112, 121, 10, 115, 101, 116, 46, 100, 105, 115, 99, 97, 114, 100, 32, 118, 10, 115, 101, 116, 46, 114, 101, 109, 111, 118, 101, 32, 118, 10, 112, 114, 111, 112, 101, 114, 116, 121, 46, 119, 105, 116, 104, 95, 100, 101, 108, 101, 116, 101, 114, 32, 102, 10, 112, 114, 111, 112, 101, 114, 116, 121, 46, 119, 105, 116, 104, 95, 115, 101, 116, 116, 101, 114, 32, 102, 10, 103, 101, 110, 101, 114, 97, 116, 111, 114, 46, 99, 108, 111, 115, 101, 10, 103, 101, 110, 101, 114, 97, 116, 111, 114, 46, 115, 101, 110, 100, 32, 118, 10, 103, 101, 110, 101, 114, 97, 116, 111, 114, 46, 116, 104, 114, 111, 119, 32, 120, 10, 116, 97, 115, 107, 46, 99, 97, 110, 99, 101, 108, 10, 116, 97, 115, 107, 46, 100, 111, 110, 101]⟩ : ByteArray) (⟨#[10]⟩ : ByteArray) s0 (C0.gl rfl gl0)) ?_
    rintro r1 _ s2 ⟨A3, c4, e6, rfl, h5⟩ h9
    have C10 : Cx s0.next [] [] s0 s2 [] [(On.mk rS r1 A3 c4 9 true e6)] [] := h9 [(On.mk rS r1 A3 c4 9 true e6)] (by simpa using h5) (List.pairwise_singleton _ _)
    refine (Rf.asSl ?_)
    refine Rf.loop (Inv := Inv17_1 s0 p0 gl0 A3 c4 e6 r1) (Ex := Ex17_1 s0 p0 gl0 A3 c4 e6 r1) (x17_1 s0 p0 gl0 A3 c4 e6 r1) (fun t g s K Q h => b17_1 n s0 p0 gl0 A3 c4 e6 r1 t g s K Q h) n _ _ _ ⟨rfl, (C10.sub (List.Sublist.refl _) (List.Sublist.refl _) (List.Sublist.refl _))⟩ ?_
    intro t e g s h
    rcases t with t61 | t90
    · generalize s = s88 at h ⊢
      obtain ⟨rfl, rfl, C89⟩ := h
      rw [e17_after0_exit0 n]
      subst hH; subst hQ
      exact Rf.leaf fun _ => Ev.done (Rf.ret C89 rfl)
    · generalize s = s117 at h ⊢
      obtain ⟨rfl, rfl, C118⟩ := h
      rw [e17_after0_ret n]
      subst hH; subst hQ
      exact Rf.leaf fun _ => Ev.done (Rf.ret C118 rfl)
-- 4 "brindlewood/builtins.Named"
abbrev P4 (N : Nat) (X : List Nat) (r : ((Int × (Bool × (List Int)) × (Bool × (List Int)) × ByteArray × Int) × Bool)) (v : Value) (s : St) : Prop := ∃ (A0 : Option Addr) (c0 : Nat) (A2 : Option Addr) (c2 : Nat), v = (Value.tuple #[(Value.agg #[(Value.int .i64 r.1.1), (Value.bool r.1.2.1.1), (Value.slice A0 (r.1.2.1.2).length c0), (Value.bool r.1.2.2.1.1), (Value.slice A2 (r.1.2.2.1.2).length c2), (Value.string r.1.2.2.2.1), (Value.int .i64 r.1.2.2.2.2)]), (Value.bool r.2)]) ∧ Sr (rI .u32) s A0 c0 r.1.2.1.2 ∧ Sr (rI .u32) s A2 c2 r.1.2.2.1.2
def p4 : Nat → ByteArray → Option ((Int × (Bool × (List Int)) × (Bool × (List Int)) × ByteArray × Int) × Bool)
  | 0, _ => none
  | n + 1, p0 => ((p15 n p0).bind fun r4 => ((if r4.2 then ((p16 n r4.1).bind fun r10 => ((some (((r10.1, (r10.2.1.1, r10.2.1.2), (r10.2.2.1.1, r10.2.2.1.2), r10.2.2.2.1, r10.2.2.2.2), true) : ((Int × (Bool × (List Int)) × (Bool × (List Int)) × ByteArray × Int) × Bool))))) else (((if (p0.toList == (⟨#[112, 97, 115, 115, 95]⟩ : ByteArray).toList) then (((some (((8, (false, ([] : (List Int))), (false, ([] : (List Int))), ByteArray.empty, 0), true) : ((Int × (Bool × (List Int)) × (Bool × (List Int)) × ByteArray × Int) × Bool))))) else (((p17 n p0).bind fun r49 => (pj (fun (b61 : Bool) => if b61 then (((some (((7, (false, ([] : (List Int))), (false, ([] : (List Int))), p0, 0), true) : ((Int × (Bool × (List Int)) × (Bool × (List Int)) × ByteArray × Int) × Bool))))) else (((some (((0, (false, ([] : (List Int))), (false, ([] : (List Int))), ByteArray.empty, 0), false) : ((Int × (Bool × (List Int)) × (Bool × (List Int)) × ByteArray × Int) × Bool)))))) (fun J60 => if r49.2 then ((p18 n p0 (⟨#[46]⟩ : ByteArray)).bind fun r55 => (J60 (!r55))) else ((J60 false))))))))))))
theorem t4 (k : Nat) (p0 : ByteArray) (s0 : St) (gl0 : GlobOk s0) :
    Rf (p4 k p0) (fun _ => True) (fun r => RtC s0.next [] [] s0 (P4 s0.next [] r)) (acall E k 4 [(Value.string p0)] s0) := by
  cases k with
  | zero => exact Rf.none
  | succ n =>
    rw [e4 n]
    rw [p4]
    refine Rf.gen fun H Q hH hQ => ?_
    have C0 : Cx s0.next [] [] s0 s0 [] [] [] := Cx.start s0
    refine Rf.new C0 fun s1 (C2 : Cx s0.next [] [] s0 s1 [(s0.next, AObj.box 26 [(Value.int .i64 0), (Value.bool false), (Value.slice none 0 0), (Value.bool false), (Value.slice none 0 0), (Value.string ByteArray.empty), (Value.int .i64 0)])] [] []) => ?_
    refine Rf.call0 C2 (t15 n p0 s1 (C2.gl rfl gl0)) ?_
    rintro r4 _ s5 rfl h8
    have C9 : Cx s0.next [] [] s0 s5 [(s0.next, AObj.box 26 [(Value.int .i64 0), (Value.bool false), (Value.slice none 0 0), (Value.bool false), (Value.slice none 0 0), (Value.string ByteArray.empty), (Value.int .i64 0)])] [] [] := h8 [] (by simp) List.Pairwise.nil
    refine (Rf.asTup (Rf.unc (Rf.asI (Rf.unc (Rf.asB (Rf.unn ?_))))))
    refine Rf.ite ?_ ?_
    · refine Rf.call0 C9 (t16 n r4.1 s5 (C9.gl rfl gl0)) ?_
      rintro r10 _ s11 ⟨A12, c13, A16, c17, rfl, h14, h18⟩ h27
      have C28 : Cx s0.next [] [] s0 s11 [(s0.next, AObj.box 26 [(Value.int .i64 0), (Value.bool false), (Value.slice none 0 0), (Value.bool false), (Value.slice none 0 0), (Value.string ByteArray.empty), (Value.int .i64 0)])] [] [] := h27 [] (by simp) List.Pairwise.nil
      have C29 := C28.add (Fa.sr (rI .u32) A12 c13 r10.2.1.2) h14
      have C30 := C29.add (Fa.sr (rI .u32) A16 c17 r10.2.2.1.2) h18
      refine (Rf.asAgg (Rf.unc (Rf.asI (Rf.unc (Rf.asB (Rf.unc (Rf.asSl (Rf.unc (Rf.asB (Rf.unc (Rf.asSl (Rf.unc (Rf.asS (Rf.unc (Rf.asI (Rf.unn ?_))))))))))))))))
      refine Rf.sto 0 C30 rfl (by simp) rfl fun s31 (C32 : Cx s0.next [] [] s0 s31 [(s0.next, AObj.box 26 [(Value.int .i64 r10.1), (Value.bool r10.2.1.1), (Value.slice A12 (r10.2.1.2).length c13), (Value.bool r10.2.2.1.1), (Value.slice A16 (r10.2.2.1.2).length c17), (Value.string r10.2.2.2.1), (Value.int .i64 r10.2.2.2.2)])] [] [(Fa.sr (rI .u32) A16 c17 r10.2.2.1.2), (Fa.sr (rI .u32) A12 c13 r10.2.1.2)]) => ?_
      refine Rf.ldI (C32.at m0 rfl) ?_
      refine Rf.ldB (C32.at m0 rfl) ?_
      refine Rf.ldSl (C32.at m0 rfl) ?_
      refine Rf.ldB (C32.at m0 rfl) ?_
      refine Rf.ldSl (C32.at m0 rfl) ?_
      refine Rf.ldS (C32.at m0 rfl) ?_
      refine Rf.ldI (C32.at m0 rfl) ?_
      subst hH; subst hQ
      exact Rf.leaf fun _ => Ev.done (Rf.ret C32 ⟨_, _, _, _, rfl, (C32.srG m1), (C32.srG m0)⟩)
    · refine Rf.ite ?_ ?_
      · refine Rf.sto 0 C9 rfl (by simp) rfl fun s40 (C41 : Cx s0.next [] [] s0 s40 [(s0.next, AObj.box 26 [(Value.int .i64 8), (Value.bool false), (Value.slice none 0 0), (Value.bool false), (Value.slice none 0 0), (Value.string ByteArray.empty), (Value.int .i64 0)])] [] []) => ?_
        refine Rf.ldI (C41.at m0 rfl) ?_
        refine Rf.ldB (C41.at m0 rfl) ?_
        refine Rf.ldSl (C41.at m0 rfl) ?_
        refine Rf.ldB (C41.at m0 rfl) ?_
        refine Rf.ldSl (C41.at m0 rfl) ?_
        refine Rf.ldS (C41.at m0 rfl) ?_
        refine Rf.ldI (C41.at m0 rfl) ?_
        subst hH; subst hQ
        exact Rf.leaf fun _ => Ev.done (Rf.ret C41 ⟨_, _, _, _, rfl, Sr.nil, Sr.nil⟩)
      · refine Rf.call0 C9 (t17 n p0 s5 (C9.gl rfl gl0)) ?_
        rintro r49 _ s50 rfl h53
        have C54 : Cx s0.next [] [] s0 s50 [(s0.next, AObj.box 26 [(Value.int .i64 0), (Value.bool false), (Value.slice none 0 0), (Value.bool false), (Value.slice none 0 0), (Value.string ByteArray.empty), (Value.int .i64 0)])] [] [] := h53 [] (by simp) List.Pairwise.nil
        refine (Rf.asTup (Rf.unc (Rf.asS (Rf.unc (Rf.asB (Rf.unn ?_))))))
        refine Rf.pj fun J60 J60' hJ60 hJ60' => ?_
        have J60h : ∀ (b61 : Bool) (s63 : St) (_ : Cx s0.next [] [] s0 s63 [(s0.next, AObj.box 26 [(Value.int .i64 0), (Value.bool false), (Value.slice none 0 0), (Value.bool false), (Value.slice none 0 0), (Value.string ByteArray.empty), (Value.int .i64 0)])] [] []), Rf (J60 b61) H Q (J60' b61 s63) := by
          subst hJ60
          subst hJ60'
          intro b61 s63 C64
          refine Rf.ite ?_ ?_
          · refine Rf.sto 0 C64 rfl (by simp) rfl fun s65 (C66 : Cx s0.next [] [] s0 s65 [(s0.next, AObj.box 26 [(Value.int .i64 7), (Value.bool false), (Value.slice none 0 0), (Value.bool false), (Value.slice none 0 0), (Value.string p0), (Value.int .i64 0)])] [] []) => ?_
            refine Rf.ldI (C66.at m0 rfl) ?_
            refine Rf.ldB (C66.at m0 rfl) ?_
            refine Rf.ldSl (C66.at m0 rfl) ?_
            refine Rf.ldB (C66.at m0 rfl) ?_
            refine Rf.ldSl (C66.at m0 rfl) ?_
            refine Rf.ldS (C66.at m0 rfl) ?_
            refine Rf.ldI (C66.at m0 rfl) ?_
            subst hH; subst hQ
            exact Rf.leaf fun _ => Ev.done (Rf.ret C66 ⟨_, _, _, _, rfl, Sr.nil, Sr.nil⟩)
          · refine Rf.sto 0 C64 rfl (by simp) rfl fun s74 (C75 : Cx s0.next [] [] s0 s74 [(s0.next, AObj.box 26 [(Value.int .i64 0), (Value.bool false), (Value.slice none 0 0), (Value.bool false), (Value.slice none 0 0), (Value.string ByteArray.empty), (Value.int .i64 0)])] [] []) => ?_
            refine Rf.ldI (C75.at m0 rfl) ?_
            refine Rf.ldB (C75.at m0 rfl) ?_
            refine Rf.ldSl (C75.at m0 rfl) ?_
            refine Rf.ldB (C75.at m0 rfl) ?_
            refine Rf.ldSl (C75.at m0 rfl) ?_
            refine Rf.ldS (C75.at m0 rfl) ?_
            refine Rf.ldI (C75.at m0 rfl) ?_
            subst hH; subst hQ
            exact Rf.leaf fun _ => Ev.done (Rf.ret C75 ⟨_, _, _, _, rfl, Sr.nil, Sr.nil⟩)
        clear hJ60 hJ60'
        refine Rf.ite ?_ ?_
        · refine Rf.call0 C54 (t18 n p0 (⟨#[46]⟩ : ByteArray) s50 (C54.gl rfl gl0)) ?_
          rintro r55 _ s56 rfl h58
          have C59 : Cx s0.next [] [] s0 s56 [(s0.next, AObj.box 26 [(Value.int .i64 0), (Value.bool false), (Value.slice none 0 0), (Value.bool false), (Value.slice none 0 0), (Value.string ByteArray.empty), (Value.int .i64 0)])] [] [] := h58 [] (by simp) List.Pairwise.nil
          refine (Rf.asB ?_)
          exact J60h (!r55) _ (C59.sub (List.Sublist.refl _) (List.Sublist.refl _) (List.Sublist.refl _))
        · exact J60h false _ (C54.sub (List.Sublist.refl _) (List.Sublist.refl _) (List.Sublist.refl _))
-- 30 "slices.Index[[]string,string]"
abbrev Inv30_1 (s0 : St) (p0 : (List ByteArray)) (p1 : ByteArray) (A0 : Option Addr) (c0 : Nat) (gl0 : GlobOk s0) (h0 : Sr rS s0 A0 c0 p0)  (t : Int) (g : Regs) (s : St) : Prop := g = (rg 19 [(0, (Value.slice A0 (p0).length c0)), (1, (Value.string p1)), (7, (Value.int .i64 ((p0).length : Nat))), (8, (Value.int .i64 t))]) ∧ Cx s0.next [] [] s0 s [] [] []
abbrev Ex30_1 (s0 : St) (p0 : (List ByteArray)) (p1 : ByteArray) (A0 : Option Addr) (c0 : Nat) (gl0 : GlobOk s0) (h0 : Sr rS s0 A0 c0 p0)  (t : (Int ⊕ Int)) (e : X) (g : Regs) (s : St) : Prop := match t with
  | (.inl t) => e = .exit 0 ∧ g = (rg 19 [(0, (Value.slice A0 (p0).length c0)), (1, (Value.string p1)), (7, (Value.int .i64 ((p0).length : Nat))), (8, (Value.int .i64 t)), (9, (Value.bool false))]) ∧ Cx s0.next [] [] s0 s [] [] []
  | (.inr t) => e = .ret ∧ g = (rg 19 [(4, (Value.int .i64 t))]) ∧ Cx s0.next [] [] s0 s [] [] []
theorem x30_1 (s0 : St) (p0 : (List ByteArray)) (p1 : ByteArray) (A0 : Option Addr) (c0 : Nat) (gl0 : GlobOk s0) (h0 : Sr rS s0 A0 c0 p0)  (t : (Int ⊕ Int)) (e : X) (g : Regs) (s : St) (h : Ex30_1 s0 p0 p1 A0 c0 gl0 h0  t e g s) : e ≠ .normal := by
  rcases t with t | t
  · obtain ⟨h, _⟩ := h
    rw [h]; intro hh; cases hh
  · obtain ⟨h, _⟩ := h
    rw [h]; intro hh; cases hh
def pb30_1 (n : Nat) (p0 : (List ByteArray)) (p1 : ByteArray) (t : Int) : Option (Int ⊕ (Int ⊕ Int)) :=
  (if (decide ((t : Int) < ((p0).length : Nat))) then (((rd p0 t (fun x24 => (if (p1.toList == x24.toList) then ((((some (.inr (.inr t)))))) else (((some (.inl (IntKind.wrap .i64 (t + 1))))))))))) else (((some (.inr (.inl t))))))
theorem b30_1 (n : Nat) (s0 : St) (p0 : (List ByteArray)) (p1 : ByteArray) (A0 : Option Addr) (c0 : Nat) (gl0 : GlobOk s0) (h0 : Sr rS s0 A0 c0 p0)  (x1 : Int) (g : Regs) (s21 : St) (K : Kont) (Q : Out → St → Prop) (h : Inv30_1 s0 p0 p1 A0 c0 gl0 h0  x1 g s21) :
    Rf (pb30_1 n p0 p1 x1) (fun r => ∀ e g' s', LK (Inv30_1 s0 p0 p1 A0 c0 gl0 h0 ) (Ex30_1 s0 p0 p1 A0 c0 gl0 h0 ) r e g' s' → Ev (K e g' s') Q) (fun _ => Q) (kBody E 30 n [.b, .a, .b, .a, .a] g s21 K) := by
  obtain ⟨rfl, C22⟩ := h
  rw [e30_body0 n]
  unfold pb30_1
  refine Rf.gen fun H Q hH hQ => ?_
  refine Rf.ite ?_ ?_
  · refine Rf.elt (r := rS) (C22.sr0 rfl h0) rfl fun x24 i25 o26 c27 r28 h29 => ?_
    obtain rfl := rS_elim r28
    refine Rf.ldS (h29.at 0 rfl) ?_
    refine Rf.ite ?_ ?_
    · subst hH; subst hQ
      exact Rf.leaf fun h => h _ _ _ ⟨rfl, rfl, (C22.sub (List.Sublist.refl _) (List.Sublist.refl _) (List.Sublist.refl _))⟩
    · subst hH; subst hQ
      exact Rf.leaf fun h => h _ _ _ ⟨rfl, rfl, (C22.sub (List.Sublist.refl _) (List.Sublist.refl _) (List.Sublist.refl _))⟩
  · subst hH; subst hQ
    exact Rf.leaf fun h => h _ _ _ ⟨rfl, rfl, (C22.sub (List.Sublist.refl _) (List.Sublist.refl _) (List.Sublist.refl _))⟩
abbrev P30 (N : Nat) (X : List Nat) (r : Int) (v : Value) (s : St) : Prop := v = (Value.int .i64 r)
def p30 : Nat → (List ByteArray) → ByteArray → Option Int
  | 0, _, _ => none
  | n + 1, p0, p1 => (((loopP (pb30_1 n p0 p1) n 0).bind fun t77 => match t77 with | (.inl t33) => ((some ((-1) : Int))) | (.inr t55) => (some (t55 : Int))))
theorem t30 (k : Nat) (p0 : (List ByteArray)) (p1 : ByteArray) (s0 : St) {A0 : Option Addr} {c0 : Nat} (gl0 : GlobOk s0) (h0 : Sr rS s0 A0 c0 p0) :
    Rf (p30 k p0 p1) (fun _ => True) (fun r => RtC s0.next [] [] s0 (P30 s0.next [] r)) (acall E k 30 [(Value.slice A0 (p0).length c0), (Value.string p1)] s0) := by
  cases k with
  | zero => exact Rf.none
  | succ n =>
    rw [e30 n]
    rw [p30]
    refine Rf.gen fun H Q hH hQ => ?_
    have C0 : Cx s0.next [] [] s0 s0 [] [] [] := Cx.start s0
    refine Rf.loop (Inv := Inv30_1 s0 p0 p1 A0 c0 gl0 h0 ) (Ex := Ex30_1 s0 p0 p1 A0 c0 gl0 h0 ) (x30_1 s0 p0 p1 A0 c0 gl0 h0 ) (fun t g s K Q h => b30_1 n s0 p0 p1 A0 c0 gl0 h0  t g s K Q h) n _ _ _ ⟨rfl, (C0.sub (List.Sublist.refl _) (List.Sublist.refl _) (List.Sublist.refl _))⟩ ?_
    intro t e g s h
    rcases t with t33 | t55
    · generalize s = s53 at h ⊢
      obtain ⟨rfl, rfl, C54⟩ := h
      rw [e30_after0_exit0 n]
      subst hH; subst hQ
      exact Rf.leaf fun _ => Ev.done (Rf.ret C54 rfl)
    · generalize s = s75 at h ⊢
      obtain ⟨rfl, rfl, C76⟩ := h
      rw [e30_after0_ret n]
      subst hH; subst hQ
      exact Rf.leaf fun _ => Ev.done (Rf.ret C76 rfl)
-- 14 "slices.Contains[[]string,string]"
abbrev P14 (N : Nat) (X : List Nat) (r : Bool) (v : Value) (s : St) : Prop := v = (Value.bool r)
def p14 : Nat → (List ByteArray) → ByteArray → Option Bool
  | 0, _, _ => none
  | n + 1, p0, p1 => ((p30 n p0 p1).bind fun r1 => (some ((decide ((r1 : Int) ≥ 0)) : Bool)))
theorem t14 (k : Nat) (p0 : (List ByteArray)) (p1 : ByteArray) (s0 : St) {A0 : Option Addr} {c0 : Nat} (gl0 : GlobOk s0) (h0 : Sr rS s0 A0 c0 p0) :
    Rf (p14 k p0 p1) (fun _ => True) (fun r => RtC s0.next [] [] s0 (P14 s0.next [] r)) (acall E k 14 [(Value.slice A0 (p0).length c0), (Value.string p1)] s0) := by
  cases k with
  | zero => exact Rf.none
  | succ n =>
    rw [e14 n]
    rw [p14]
    refine Rf.gen fun H Q hH hQ => ?_
    have C0 : Cx s0.next [] [] s0 s0 [] [] [] := Cx.start s0
    refine Rf.call0 C0 (t30 n p0 p1 s0 (C0.gl rfl gl0) (C0.sr0 rfl h0)) ?_
    rintro r1 _ s2 rfl h4
    have C5 : Cx s0.next [] [] s0 s2 [] [] [] := h4 [] (by simp) List.Pairwise.nil
    refine (Rf.asI ?_)
    subst hH; subst hQ
    exact Rf.leaf fun _ => Ev.done (Rf.ret C5 rfl)
-- 34 "brindlewood/brindlewoodref7.O"
abbrev P34 (N : Nat) (X : List Nat) (r : (Int × (Bool × (List Int)) × (Bool × (List Int)) × ByteArray × Int)) (v : Value) (s : St) : Prop := ∃ (A0 : Option Addr) (c0 : Nat) (A2 : Option Addr) (c2 : Nat), v = (Value.agg #[(Value.int .i64 r.1), (Value.bool r.2.1.1), (Value.slice A0 (r.2.1.2).length c0), (Value.bool r.2.2.1.1), (Value.slice A2 (r.2.2.1.2).length c2), (Value.string r.2.2.2.1), (Value.int .i64 r.2.2.2.2)]) ∧ Sr (rI .u32) s A0 c0 r.2.1.2 ∧ Sr (rI .u32) s A2 c2 r.2.2.1.2
def p34 : Nat → Int → Option (Int × (Bool × (List Int)) × (Bool × (List Int)) × ByteArray × Int)
  | 0, _ => none
  | n + 1, p0 => ((some ((6, (false, ([] : (List Int))), (false, ([] : (List Int))), ByteArray.empty, p0) : (Int × (Bool × (List Int)) × (Bool × (List Int)) × ByteArray × Int))))
theorem t34 (k : Nat) (p0 : Int) (s0 : St) (gl0 : GlobOk s0) :
    Rf (p34 k p0) (fun _ => True) (fun r => RtC s0.next [] [] s0 (P34 s0.next [] r)) (acall E k 34 [(Value.int .i64 p0)] s0) := by
  cases k with
  | zero => exact Rf.none
  | succ n =>
    rw [e34 n]
    rw [p34]
    refine Rf.gen fun H Q hH hQ => ?_
    have C0 : Cx s0.next [] [] s0 s0 [] [] [] := Cx.start s0
    refine Rf.new C0 fun s1 (C2 : Cx s0.next [] [] s0 s1 [(s0.next, AObj.box 26 [(Value.int .i64 0), (Value.bool false), (Value.slice none 0 0), (Value.bool false), (Value.slice none 0 0), (Value.string ByteArray.empty), (Value.int .i64 0)])] [] []) => ?_
    refine Rf.sto 0 C2 rfl (by simp) rfl fun s4 (C5 : Cx s0.next [] [] s0 s4 [(s0.next, AObj.box 26 [(Value.int .i64 6), (Value.bool false), (Value.slice none 0 0), (Value.bool false), (Value.slice none 0 0), (Value.string ByteArray.empty), (Value.int .i64 p0)])] [] []) => ?_
    refine Rf.ldI (C5.at m0 rfl) ?_
    refine Rf.ldB (C5.at m0 rfl) ?_
    refine Rf.ldSl (C5.at m0 rfl) ?_
    refine Rf.ldB (C5.at m0 rfl) ?_
    refine Rf.ldSl (C5.at m0 rfl) ?_
    refine Rf.ldS (C5.at m0 rfl) ?_
    refine Rf.ldI (C5.at m0 rfl) ?_
    subst hH; subst hQ
    exact Rf.leaf fun _ => Ev.done (Rf.ret C5 ⟨_, _, _, _, rfl, Sr.nil, Sr.nil⟩)
-- 41 "brindlewood/brindlewoodref8.libraries"
abbrev P41 (N : Nat) (X : List Nat) (r : (List ByteArray)) (v : Value) (s : St) : Prop := ∃ (A0 : Option Addr) (c0 : Nat) (e0 : Nat), v = (Value.slice A0 (r).length c0) ∧ (On.mk rS r A0 c0 9 false e0).holds N X s
def p41 : Nat → Option (List ByteArray)
  | 0 => none
  | n + 1 => ((some ([(⟨#[99, 115, 118]⟩ : ByteArray), (⟨#[100, 97, 116, 101]⟩ : ByteArray), (⟨#[106, 115, 111, 110]⟩ : ByteArray), (⟨#[109, 97, 116, 104]⟩ : ByteArray), (⟨#[112, 97, 99, 107]⟩ : ByteArray), (⟨#[114, 97, 110, 100, 111, 109]⟩ : ByteArray), (⟨#[114, 101]⟩ : ByteArray)] : (List ByteArray))))
theorem t41 (k : Nat) (s0 : St) (gl0 : GlobOk s0) :
    Rf (p41 k) (fun _ => True) (fun r => RtC s0.next [] [] s0 (P41 s0.next [] r)) (acall E k 41 [] s0) := by
  cases k with
  | zero => exact Rf.none
  | succ n =>
    rw [e41 n]
    rw [p41]
    refine Rf.gen fun H Q hH hQ => ?_
    have C0 : Cx s0.next [] [] s0 s0 [] [] [] := Cx.start s0
    refine Rf.newR (r := rS) (xs := [(⟨#[99, 115, 118]⟩ : ByteArray), (⟨#[100, 97, 116, 101]⟩ : ByteArray), (⟨#[106, 115, 111, 110]⟩ : ByteArray), (⟨#[109, 97, 116, 104]⟩ : ByteArray), (⟨#[112, 97, 99, 107]⟩ : ByteArray), (⟨#[114, 97, 110, 100, 111, 109]⟩ : ByteArray), (⟨#[114, 101]⟩ : ByteArray)]) C0 rfl (many.cons (c := [(Value.string (⟨#[99, 115, 118]⟩ : ByteArray))]) rS_mk (many.cons (c := [(Value.string (⟨#[100, 97, 116, 101]⟩ : ByteArray))]) rS_mk (many.cons (c := [(Value.string (⟨#[106, 115, 111, 110]⟩ : ByteArray))]) rS_mk (many.cons (c := [(Value.string (⟨#[109, 97, 116, 104]⟩ : ByteArray))]) rS_mk (many.cons (c := [(Value.string (⟨#[112, 97, 99, 107]⟩ : ByteArray))]) rS_mk (many.cons (c := [(Value.string (⟨#[114, 97, 110, 100, 111, 109]⟩ : ByteArray))]) rS_mk (many.cons (c := [(Value.string (⟨#[114, 101]⟩ : ByteArray))]) rS_mk many.nil))))))) fun s1 (C2 : Cx s0.next [] [] s0 s1 [] [(On.mk rS [(⟨#[99, 115, 118]⟩ : ByteArray), (⟨#[100, 97, 116, 101]⟩ : ByteArray), (⟨#[106, 115, 111, 110]⟩ : ByteArray), (⟨#[109, 97, 116, 104]⟩ : ByteArray), (⟨#[112, 97, 99, 107]⟩ : ByteArray), (⟨#[114, 97, 110, 100, 111, 109]⟩ : ByteArray), (⟨#[114, 101]⟩ : ByteArray)] (some ⟨s0.next, 0, none⟩) 7 9 false s0.next)] []) => ?_
    subst hH; subst hQ
    exact Rf.leaf fun _ => Ev.done (Rf.ret C2 ⟨_, _, _, rfl, C2.own _ m0⟩)
-- 26 "brindlewood/brindlewoodref8.libraryOf"
abbrev Inv26_1 (s0 : St) (p0 : ByteArray) (gl0 : GlobOk s0) (A18 : Option Addr) (c19 : Nat) (e21 : Nat) (r16 : (List ByteArray)) (t : ((List ByteArray) × Int)) (g : Regs) (s : St) : Prop := ∃ (A30 : Option Addr) (c31 : Nat) (e32 : Nat), g = (rg 36 [(0, (Value.string p0)), (3, (Value.slice A30 (t.1).length c31)), (11, (Value.slice A18 (r16).length c19)), (12, (Value.int .i64 ((r16).length : Nat))), (13, (Value.int .i64 t.2))]) ∧ Cx s0.next [] [] s0 s [] [(On.mk rS t.1 A30 c31 9 false e32), (On.mk rS r16 A18 c19 9 true e21)] []
abbrev Ex26_1 (s0 : St) (p0 : ByteArray) (gl0 : GlobOk s0) (A18 : Option Addr) (c19 : Nat) (e21 : Nat) (r16 : (List ByteArray)) (t : ((List ByteArray) × Int)) (e : X) (g : Regs) (s : St) : Prop := ∃ (A122 : Option Addr) (c123 : Nat) (e124 : Nat), e = .exit 0 ∧ g = (rg 36 [(0, (Value.string p0)), (3, (Value.slice A122 (t.1).length c123)), (11, (Value.slice A18 (r16).length c19)), (12, (Value.int .i64 ((r16).length : Nat))), (13, (Value.int .i64 t.2)), (14, (Value.bool false))]) ∧ Cx s0.next [] [] s0 s [] [(On.mk rS t.1 A122 c123 9 false e124), (On.mk rS r16 A18 c19 9 true e21)] []
theorem x26_1 (s0 : St) (p0 : ByteArray) (gl0 : GlobOk s0) (A18 : Option Addr) (c19 : Nat) (e21 : Nat) (r16 : (List ByteArray)) (t : ((List ByteArray) × Int)) (e : X) (g : Regs) (s : St) (h : Ex26_1 s0 p0 gl0 A18 c19 e21 r16 t e g s) : e ≠ .normal := by
  obtain ⟨_, _, _, h, _⟩ := h
  rw [h]; intro hh; cases hh
def pb26_1 (n : Nat) (p0 : ByteArray) (r16 : (List ByteArray)) (t : ((List ByteArray) × Int)) : Option (((List ByteArray) × Int) ⊕ ((List ByteArray) × Int)) :=
  (if (decide ((t.2 : Int) < ((r16).length : Nat))) then ((pj (fun (y111 : (List ByteArray)) => (some (.inl (y111, (IntKind.wrap .i64 (t.2 + 1)))))) (fun J109 => rd r16 t.2 (fun x73 => ((p23 n x73 (⟨#[40]⟩ : ByteArray)).bind fun r84 => (catP p0 (⟨#[46]⟩ : ByteArray) (fun z91 => (p25 n r84.1 z91).bind fun r92 => ((if (!(r92.toList == r84.1.toList)) then (apP 16 t.1 [r92] (fun y103 => (J109 (t.1 ++ [r92])))) else ((J109 t.1))))))))))) else (((some (.inr (t.1, t.2))))))
theorem b26_1 (n : Nat) (s0 : St) (p0 : ByteArray) (gl0 : GlobOk s0) (A18 : Option Addr) (c19 : Nat) (e21 : Nat) (r16 : (List ByteArray)) (t : ((List ByteArray) × Int)) (g : Regs) (s70 : St) (K : Kont) (Q : Out → St → Prop) (h : Inv26_1 s0 p0 gl0 A18 c19 e21 r16 t g s70) :
    Rf (pb26_1 n p0 r16 t) (fun r => ∀ e g' s', LK (Inv26_1 s0 p0 gl0 A18 c19 e21 r16) (Ex26_1 s0 p0 gl0 A18 c19 e21 r16) r e g' s' → Ev (K e g' s') Q) (fun _ => Q) (kBody E 26 n [.b, .b, .b, .a, .b, .a, .a] g s70 K) := by
  obtain ⟨y29, x33⟩ := t
  obtain ⟨A30, c31, e32, rfl, C71⟩ := h
  rw [e26_body0 n]
  unfold pb26_1
  refine Rf.gen fun H Q hH hQ => ?_
  try dsimp only
  refine Rf.ite ?_ ?_
  · refine Rf.pj fun J109 J109' hJ109 hJ109' => ?_
    have J109h : ∀ (e116 : Value) (e117 : Value) (A112 : Option Addr) (c113 : Nat) (e114 : Nat) (y111 : (List ByteArray)) (s118 : St) (_ : Cx s0.next [] [] s0 s118 [] [(On.mk rS y111 A112 c113 9 false e114), (On.mk rS r16 A18 c19 9 true e21)] []), Rf (J109 y111) H Q (J109' (Value.slice A112 (y111).length c113) e116 e117 s118) := by
      subst hJ109
      subst hJ109'
      intro e116 e117 A112 c113 e114 y111 s118 C119
      subst hH; subst hQ
      exact Rf.leaf fun h => h _ _ _ ⟨rfl, _, _, _, rfl, (C119.sub (List.Sublist.refl _) (List.Sublist.refl _) (List.Sublist.refl _))⟩
    clear hJ109 hJ109'
    refine Rf.eltW (j := 1) C71 rfl rfl rfl fun x73 i74 o75 h76 h77 h78 h79 => ?_
    obtain ⟨c80, r81, h82⟩ := C71.loW (j := 1) rfl h76 h77 h78 h79
    obtain rfl := rS_elim r81
    refine Rf.ldS (h82.at 0 rfl) ?_
    refine Rf.call0 C71 (t23 n x73 (⟨#[40]⟩ : ByteArray) s70 (C71.gl rfl gl0)) ?_
    rintro r84 _ s85 rfl h89
    have C90 : Cx s0.next [] [] s0 s85 [] [(On.mk rS y29 A30 c31 9 false e32), (On.mk rS r16 A18 c19 9 true e21)] [] := h89 [] (by simp) List.Pairwise.nil
    refine (Rf.asTup (Rf.unc (Rf.asS (Rf.unc (Rf.asS (Rf.unc (Rf.asB (Rf.unn ?_))))))))
    refine Rf.cat fun z91 => ?_
    refine Rf.call0 C90 (t25 n r84.1 z91 s85 (C90.gl rfl gl0)) ?_
    rintro r92 _ s93 rfl h95
    have C96 : Cx s0.next [] [] s0 s93 [] [(On.mk rS y29 A30 c31 9 false e32), (On.mk rS r16 A18 c19 9 true e21)] [] := h95 [] (by simp) List.Pairwise.nil
    refine (Rf.asS ?_)
    refine Rf.ite ?_ ?_
    · refine Rf.newR (r := rS) (xs := [r92]) C96 rfl (many.cons (c := [(Value.string r92)]) rS_mk many.nil) fun s97 (C98 : Cx s0.next [] [] s0 s97 [] [(On.mk rS [r92] (some ⟨s93.next, 0, none⟩) 1 9 false s93.next), (On.mk rS y29 A30 c31 9 false e32), (On.mk rS r16 A18 c19 9 true e21)] []) => ?_
      refine Rf.kapp 1 C98 rfl rfl (by decide) (by decide) (Ap.sr u31 rfl (C98.srB m0)) fun A100 c101 e102 s105 (C106 : Cx s0.next [] [] s0 s105 [] [(On.mk rS [r92] (some ⟨s93.next, 0, none⟩) 1 9 false s93.next), (On.mk rS (y29 ++ [r92]) A100 c101 9 false e102), (On.mk rS r16 A18 c19 9 true e21)] []) => ?_
      have C107 : Cx s0.next [] [] s0 s105 [] [(On.mk rS (y29 ++ [r92]) A100 c101 9 false e102), (On.mk rS r16 A18 c19 9 true e21)] [] := C106.sub (List.Sublist.refl _) (List.Sublist.cons _ (List.Sublist.cons_cons _ (List.Sublist.cons_cons _ List.Sublist.slnil))) (List.Sublist.refl _)
      exact J109h _ _ A100 c101 e102 (y29 ++ [r92]) _ (C107.sub (List.Sublist.refl _) (List.Sublist.refl _) (List.Sublist.refl _))
    · exact J109h _ _ A30 c31 e32 y29 _ (C96.sub (List.Sublist.refl _) (List.Sublist.refl _) (List.Sublist.refl _))
  · subst hH; subst hQ
    exact Rf.leaf fun h => h _ _ _ ⟨_, _, _, rfl, rfl, (C71.sub (List.Sublist.refl _) (List.Sublist.refl _) (List.Sublist.refl _))⟩
abbrev P26 (N : Nat) (X : List Nat) (r : (List ByteArray)) (v : Value) (s : St) : Prop := ∃ (A0 : Option Addr) (c0 : Nat) (e0 : Nat), v = (Value.slice A0 (r).length c0) ∧ (On.mk rS r A0 c0 9 false e0).holds N X s
def p26 : Nat → ByteArray → Option (List ByteArray)
  | 0, _ => none
  | n + 1, p0 => (((p41 n).bind fun r1 => (p14 n r1 p0).bind fun r11 => (if (!r11) then (((some (([] : (List ByteArray)) : (List ByteArray))))) else (((p42 n (⟨#[97, 98, 115, 40, 118, 41, 32, 97, 108, 108, 40, 118, 41, 32, 97, 110, 121, 40, 118, 41, 32, 97, 98, 115, 116, 114, 97, 99, 116, 40, 102, 41, 32, 99, 104, 114, 40, 110, 41, 32, 99, 111, 108, 108, 101, 99, 116, 40, 41, 32, 100, 101, 114, 105, 118, 101, 115, 40, 99, 44, 100, 41, 32, 100, 105, 118, 109, 111, 100, 40, 97, 44, 98, 41, 32, 100, 114, 111, 112, 40, 118, 44, 110, 97, 109, 101, 41, 32, 101, 110, 117, 109, 101, 114, 97, 116, 101, 40, 118, 44, 115, 116, 97, 114, 116, 61, 48, 41, 32, 103, 101, 116, 40, 118, 44, 110, 97, 109, 101, 44, 100, 101, 102, 97, 117, 108, 116, 61, 63, 41, 32, 104, 97, 115, 40, 118, 44, 110, 97, 109, 101, 41, 32, 105, 115, 95, 97, 40, 118, 44, 99, 41, 32, 105, 116, 101, 114, 40, 118, 41, 32, 108, 101, 110, 40, 118, 41, 32, 109, 97, 120, 40, 42, 118, 97, 108, 117, 101, 115, 44, 107, 101, 121, 61, 45, 41, 32, 109, 105, 110, 40, 42, 118, 97, 108, 117, 101, 115, 44, 107, 101, 121, 61, 45, 41, 32, 110, 97, 109, 101, 115, 40, 118, 41, 32, 110, 101, 120, 116, 40, 105, 116, 44, 100, 101, 102, 97, 117, 108, 116, 61, 63, 41, 32, 110, 111, 119, 40, 41, 32, 111, 114, 100, 40, 115, 41, 32, 112, 114, 105, 110, 116, 40, 42, 118, 97, 108, 117, 101, 115, 44, 115, 101, 112, 61, 95, 44, 101, 110, 100, 61, 47, 41, 32, 112, 117, 116, 40, 118, 44, 110, 97, 109, 101, 44, 119, 41, 32, 114, 97, 110, 103, 101, 40, 97, 44, 98, 61, 63, 44, 99, 61, 49, 41, 32, 114, 101, 108, 111, 97, 100, 40, 109, 41, 32, 114, 101, 112, 114, 40, 118, 41, 32, 114, 101, 118, 101, 114, 115, 101, 100, 40, 118, 41, 32, 114, 111, 117, 110, 100, 40, 118, 44, 100, 105, 103, 105, 116, 115, 61, 48, 41, 32, 114, 117, 110, 40, 99, 41, 32, 115, 108, 101, 101, 112, 40, 110, 41, 32, 115, 111, 114, 116, 101, 100, 40, 118, 44, 107, 101, 121, 61, 45, 44, 114, 101, 118, 101, 114, 115, 101, 61, 33, 41, 32, 115, 112, 97, 119, 110, 40, 99, 41, 32, 115, 117, 109, 40, 118, 44, 115, 116, 97, 114, 116, 61, 48, 41, 32, 122, 105, 112, 40, 42, 118, 97, 108, 117, 101, 115, 41, 32, 99, 108, 97, 115, 115, 40, 118, 41, 32, 98, 111, 111, 108, 40, 118, 61, 33, 41, 32, 105, 110, 116, 40, 118, 61, 48, 44, 98, 97, 115, 101, 61, 49, 48, 41, 32, 114, 97, 116, 105, 111, 40, 118, 41, 32, 116, 101, 120, 116, 40, 118, 61, 35, 41, 32, 98, 121, 116, 101, 115, 40, 118, 61, 63, 41, 32, 116, 117, 112, 108, 101, 40, 118, 61, 63, 41, 32, 108, 105, 115, 116, 40, 118, 61, 63, 41, 32, 115, 101, 116, 40, 118, 61, 63, 41, 32, 100, 105, 99, 116, 40, 118, 61, 63, 41, 32, 112, 114, 111, 112, 101, 114, 116, 121, 40, 103, 101, 116, 116, 101, 114, 44, 115, 101, 116, 116, 101, 114, 61, 45, 44, 100, 101, 108, 101, 116, 101, 114, 61, 45, 41, 32, 115, 116, 97, 116, 105, 99, 40, 102, 41, 32, 99, 108, 97, 115, 115, 95, 109, 101, 116, 104, 111, 100, 40, 102, 41, 32, 119, 101, 97, 107, 40, 118, 41, 32, 105, 110, 116, 46, 98, 105, 116, 115, 40, 41, 32, 114, 97, 116, 105, 111, 46, 100, 101, 110, 40, 41, 32, 114, 97, 116, 105, 111, 46, 110, 117, 109, 40, 41, 32, 116, 101, 120, 116, 46, 99, 111, 117, 110, 116, 40, 120, 41, 32, 116, 101, 120, 116, 46, 101, 110, 99, 111, 100, 101, 40, 41, 32, 116, 101, 120, 116, 46, 101, 110, 100, 115, 95, 119, 105, 116, 104, 40, 120, 41, 32, 116, 101, 120, 116, 46, 102, 105, 110, 100, 40, 120, 44, 115, 116, 97, 114, 116, 61, 48, 41, 32, 116, 101, 120, 116, 46, 106, 111, 105, 110, 40, 118, 41, 32, 116, 101, 120, 116, 46, 108, 111, 119, 101, 114, 40, 41, 32, 116, 101, 120, 116, 46, 114, 101, 112, 108, 97, 99, 101, 40, 97, 44, 98, 44, 109, 111, 115, 116, 61, 45, 49, 41, 32, 116, 101, 120, 116, 46, 115, 112, 108, 105, 116, 40, 115, 101, 112, 61, 45, 44, 109, 111, 115, 116, 61, 45, 49, 41, 32, 116, 101, 120, 116, 46, 115, 116, 97, 114, 116, 115, 95, 119, 105, 116, 104, 40, 120, 41, 32, 116, 101, 120, 116, 46, 115, 116, 114, 105, 112, 40, 99, 104, 97, 114, 115, 61, 45, 41, 32, 116, 101, 120, 116, 46, 117, 112, 112, 101, 114, 40, 41, 32, 98, 121, 116, 101, 115, 46, 100, 101, 99, 111, 100, 101, 40, 41, 32, 98, 121, 116, 101, 115, 46, 102, 105, 110, 100, 40, 120, 44, 115, 116, 97, 114, 116, 61, 48, 41, 32, 98, 121, 116, 101, 115, 46, 104, 101, 120, 40, 41, 32, 116, 117, 112, 108, 101, 46, 99, 111, 117, 110, 116, 40, 118, 41, 32, 116, 117, 112, 108, 101, 46, 105, 110, 100, 101, 120, 40, 118, 41, 32, 108, 105, 115, 116, 46, 97, 112, 112, 101, 110, 100, 40, 118, 41, 32, 108, 105, 115, 116, 46, 99, 108, 101, 97, 114, 40, 41, 32, 108, 105, 115, 116, 46, 99, 111, 112, 121, 40, 41, 32, 108, 105, 115, 116, 46, 99, 111, 117, 110, 116, 40, 118, 41, 32, 108, 105, 115, 116, 46, 101, 120, 116, 101, 110, 100, 40, 118, 41, 32, 108, 105, 115, 116, 46, 105, 110, 100, 101, 120, 40, 118, 41, 32, 108, 105, 115, 116, 46, 105, 110, 115, 101, 114, 116, 40, 105, 44, 118, 41, 32, 108, 105, 115, 116, 46, 112, 111, 112, 40, 105, 61, 45, 49, 41, 32, 108, 105, 115, 116, 46, 114, 101, 109, 111, 118, 101, 40, 118, 41, 32, 108, 105, 115, 116, 46, 114, 101, 118, 101, 114, 115, 101, 40, 41, 32, 108, 105, 115, 116, 46, 115, 111, 114, 116, 40, 107, 101, 121, 61, 45, 44, 114, 101, 118, 101, 114, 115, 101, 61, 33, 41, 32, 100, 105, 99, 116, 46, 99, 108, 101, 97, 114, 40, 41, 32, 100, 105, 99, 116, 46, 99, 111, 112, 121, 40, 41, 32, 100, 105, 99, 116, 46, 103, 101, 116, 40, 107, 44, 100, 101, 102, 97, 117, 108, 116, 61, 45, 41, 32, 100, 105, 99, 116, 46, 105, 116, 101, 109, 115, 40, 41, 32, 100, 105, 99, 116, 46, 107, 101, 121, 115, 40, 41, 32, 100, 105, 99, 116, 46, 112, 111, 112, 40, 107, 44, 100, 101, 102, 97, 117, 108, 116, 61, 63, 41, 32, 100, 105, 99, 116, 46, 115, 101, 116, 95, 100, 101, 102, 97, 117, 108, 116, 40, 107, 44, 118, 61, 45, 41, 32, 100, 105, 99, 116, 46, 117, 112, 100, 97, 116, 101, 40, 100, 41, 32, 100, 105, 99, 116, 46, 118, 97, 108, 117, 101, 115, 40, 41, 32, 115, 101, 116, 46, 97, 100, 100, 40, 118, 41, 32, 115, 101, 116, 46, 99, 108, 101, 97, 114, 40, 41, 32, 115, 101, 116, 46, 99, 111, 112, 121, 40, 41, 32, 115, 101, 116, 46, 100, 105, 115, 99, 97, 114, 100, 40, 118, 41, 32, 115, 101, 116, 46, 114, 101, 109, 111, 118, 101, 40, 118, 41, 32, 112, 114, 111, 112, 101, 114, 116, 121, 46, 119, 105, 116, 104, 95, 100, 101, 108, 101, 116, 101, 114, 40, 102, 41, 32, 112, 114, 111, 112, 101, 114, 116, 121, 46, 119, 105, 116, 104, 95, 115, 101, 116, 116, 101, 114, 40, 102, 41, 32, 103, 101, 110, 101, 114, 97, 116, 111, 114, 46, 99, 108, 111, 115, 101, 40, 41, 32, 103, 101, 110, 101, 114, 97, 116, 111, 114, 46, 115, 101, 110, 100, 40, 118, 41, 32, 103, 101, 110, 101, 114, 97, 116, 111, 114, 46, 116, 104, 114, 111, 119, 40, 120, 41, 32, 116, 97, 115, 107, 46, 99, 97, 110, 99, 101, 108, 40, 41, 32, 116, 97, 115, 107, 46, 100, 111, 110, 101, 40, 41, 32, 99, 115, 118, 46, 114, 111, 119, 115, 40, 116, 101, 120, 116, 41, 32, 99, 115, 118, 46, 116, 101, 120, 116, 40, 114, 111, 119, 115, 41, 32, 100, 97, 116, 101, 46, 97, 100, 100, 95, 109, 111, 110, 116, 104, 115, 40, 110, 44, 109, 111, 110, 116, 104, 115, 41, 32, 100, 97, 116, 101, 46, 109, 111, 109, 101, 110, 116, 40, 110, 41, 32, 100, 97, 116, 101, 46, 115, 101, 99, 111, 110, 100, 115, 40, 109, 41, 32, 100, 97, 116, 101, 46, 119, 101, 101, 107, 100, 97, 121, 40, 110, 41, 32, 106, 115, 111, 110, 46, 100, 101, 99, 111, 100, 101, 40, 116, 101, 120, 116, 41, 32, 106, 115, 111, 110, 46, 101, 110, 99, 111, 100, 101, 40, 118, 44, 105, 110, 100, 101, 110, 116, 61, 48, 41, 32, 109, 97, 116, 104, 46, 103, 99, 100, 40, 97, 44, 98, 41, 32, 109, 97, 116, 104, 46, 105, 115, 113, 114, 116, 40, 110, 41, 32, 109, 97, 116, 104, 46, 110, 101, 97, 114, 101, 115, 116, 40, 120, 44, 109, 111, 115, 116, 41, 32, 109, 97, 116, 104, 46, 112, 111, 119, 109, 111, 100, 40, 97, 44, 110, 44, 109, 41, 32, 112, 97, 99, 107, 46, 112, 97, 99, 107, 40, 102, 111, 114, 109, 97, 116, 44, 118, 97, 108, 117, 101, 115, 41, 32, 112, 97, 99, 107, 46, 117, 110, 112, 97, 99, 107, 40, 102, 111, 114, 109, 97, 116, 44, 100, 97, 116, 97, 41, 32, 114, 97, 110, 100, 111, 109, 46, 98, 101, 108, 111, 119, 40, 115, 116, 97, 116, 101, 44, 110, 41, 32, 114, 97, 110, 100, 111, 109, 46, 115, 97, 109, 112, 108, 101, 40, 115, 116, 97, 116, 101, 44, 110, 44, 107, 41, 32, 114, 97, 110, 100, 111, 109, 46, 115, 101, 101, 100, 40, 110, 41, 32, 114, 101, 46, 97, 108, 108, 40, 112, 97, 116, 116, 101, 114, 110, 44, 116, 101, 120, 116, 41, 32, 114, 101, 46, 102, 105, 110, 100, 40, 112, 97, 116, 116, 101, 114, 110, 44, 116, 101, 120, 116, 44, 115, 116, 97, 114, 116, 61, 48, 41, 32, 114, 101, 46, 102, 117, 108, 108, 40, 112, 97, 116, 116, 101, 114, 110, 44, 116, 101, 120, 116, 41, 32, 114, 101, 46, 114, 101, 112, 108, 97, 99, 101, 40, 112, 97, 116, 116, 101, 114, 110, 44, 116, 101, 120, 116, 44, 119, 105, 116, 104, 41, 32, 114, 101, 46, 115, 112, 108, 105, 116, 40, 112, 97, 116, 116, 101, 114, 110, 44, 116, 101, 120, 116, 41]⟩ : ByteArray)).bind fun r16 => ((loopP (pb26_1 n p0 r16) n (([] : List ByteArray), 0)).bind fun t126 => (some (t126.1 : (List ByteArray)))))))))
theorem t26 (k : Nat) (p0 : ByteArray) (s0 : St) (gl0 : GlobOk s0) :
    Rf (p26 k p0) (fun _ => True) (fun r => RtC s0.next [] [] s0 (P26 s0.next [] r)) (acall E k 26 [(Value.string p0)] s0) := by
  cases k with
  | zero => exact Rf.none
  | succ n =>
    rw [e26 n]
    rw [p26]
    refine Rf.gen fun H Q hH hQ => ?_
    have C0 : Cx s0.next [] [] s0 s0 [] [] [] := Cx.start s0
    refine Rf.call0 C0 (t41 n s0 (C0.gl rfl gl0)) ?_
    rintro r1 _ s2 ⟨A3, c4, e6, rfl, h5⟩ h9
    have C10 : Cx s0.next [] [] s0 s2 [] [(On.mk rS r1 A3 c4 9 false e6)] [] := h9 [(On.mk rS r1 A3 c4 9 false e6)] (by simpa using h5) (List.pairwise_singleton _ _)
    refine (Rf.asSl ?_)
    refine Rf.call0 C10 (t14 n r1 p0 s2 (C10.gl rfl gl0) (C10.srB m0)) ?_
    rintro r11 _ s12 rfl h14
    have C15 : Cx s0.next [] [] s0 s12 [] [(On.mk rS r1 A3 c4 9 false e6)] [] := h14 [] (by simp) List.Pairwise.nil
    refine (Rf.asB ?_)
    refine Rf.ite ?_ ?_
    · subst hH; subst hQ
      exact Rf.leaf fun _ => Ev.done (Rf.ret C15 ⟨none, 0, 0, rfl, .inl ⟨rfl, rfl, rfl⟩⟩)
    · refine Rf.call0 C15 (t42 n (⟨#[97, 98, 115, 40, 118, 41, 32, 97, 108, 108, 40, 118, 41, 32, 97, 110, 121, 40, 118, 41, 32, 97, 98, 115, 116, 114, 97, 99, 116, 40, 102, 41, 32, 99, 104, 114, 40, 110, 41, 32, 99, 111, 108, 108, 101, 99, 116, 40, 41, 32, 100, 101, 114, 105, 118, 101, 115, 40, 99, 44, 100, 41, 32, 100, 105, 118, 109, 111, 100, 40, 97, 44, 98, 41, 32, 100, 114, 111, 112, 40, 118, 44, 110, 97, 109, 101, 41, 32, 101, 110, 117, 109, 101, 114, 97, 116, 101, 40, 118, 44, 115, 116, 97, 114, 116, 61, 48, 41, 32, 103, 101, 116, 40, 118, 44, 110, 97, 109, 101, 44, 100, 101, 102, 97, 117, 108, 116, 61, 63, 41, 32, 104, 97, 115, 40, 118, 44, 110, 97, 109, 101, 41, 32, 105, 115, 95, 97, 40, 118, 44, 99, 41, 32, 105, 116, 101, 114, 40, 118, 41, 32, 108, 101, 110, 40, 118, 41, 32, 109, 97, 120, 40, 42, 118, 97, 108, 117, 101, 115, 44, 107, 101, 121, 61, 45, 41, 32, 109, 105, 110, 40, 42, 118, 97, 108, 117, 101, 115, 44, 107, 101, 121, 61, 45, 41, 32, 110, 97, 109, 101, 115, 40, 118, 41, 32, 110, 101, 120, 116, 40, 105, 116, 44, 100, 101, 102, 97, 117, 108, 116, 61, 63, 41, 32, 110, 111, 119, 40, 41, 32, 111, 114, 100, 40, 115, 41, 32, 112, 114, 105, 110, 116, 40, 42, 118, 97, 108, 117, 101, 115, 44, 115, 101, 112, 61, 95, 44, 101, 110, 100, 61, 47, 41, 32, 112, 117, 116, 40, 118, 44, 110, 97, 109, 101, 44, 119, 41, 32, 114, 97, 110, 103, 101, 40, 97, 44, 98, 61, 63, 44, 99, 61, 49, 41, 32, 114, 101, 108, 111, 97, 100, 40, 109, 41, 32, 114, 101, 112, 114, 40, 118, 41, 32, 114, 101, 118, 101, 114, 115, 101, 100, 40, 118, 41, 32, 114, 111, 117, 110, 100, 40, 118, 44, 100, 105, 103, 105, 116, 115, 61, 48, 41, 32, 114, 117, 110, 40, 99, 41, 32, 115, 108, 101, 101, 112, 40, 110, 41, 32, 115, 111, 114, 116, 101, 100, 40, 118, 44, 107, 101, 121, 61, 45, 44, 114, 101, 118, 101, 114, 115, 101, 61, 33, 41, 32, 115, 112, 97, 119, 110, 40, 99, 41, 32, 115, 117, 109, 40, 118, 44, 115, 116, 97, 114, 116, 61, 48, 41, 32, 122, 105, 112, 40, 42, 118, 97, 108, 117, 101, 115, 41, 32, 99, 108, 97, 115, 115, 40, 118, 41, 32, 98, 111, 111, 108, 40, 118, 61, 33, 41, 32, 105, 110, 116, 40, 118, 61, 48, 44, 98, 97, 115, 101, 61, 49, 48, 41, 32, 114, 97, 116, 105, 111, 40, 118, 41, 32, 116, 101, 120, 116, 40, 118, 61, 35, 41, 32, 98, 121, 116, 101, 115, 40, 118, 61, 63, 41, 32, 116, 117, 112, 108, 101, 40, 118, 61, 63, 41, 32, 108, 105, 115, 116, 40, 118, 61, 63, 41, 32, 115, 101, 116, 40, 118, 61, 63, 41, 32, 100, 105, 99, 116, 40, 118, 61, 63, 41, 32, 112, 114, 111, 112, 101, 114, 116, 121, 40, 103, 101, 116, 116, 101, 114, 44, 115, 101, 116, 116, 101, 114, 61, 45, 44, 100, 101, 108, 101, 116, 101, 114, 61, 45, 41, 32, 115, 116, 97, 116, 105, 99, 40, 102, 41, 32, 99, 108, 97, 115, 115, 95, 109, 101, 116, 104, 111, 100, 40, 102, 41, 32, 119, 101, 97, 107, 40, 118, 41, 32, 105, 110, 116, 46, 98, 105, 116, 115, 40, 41, 32, 114, 97, 116, 105, 111, 46, 100, 101, 110, 40, 41, 32, 114, 97, 116, 105, 111, 46, 110, 117, 109, 40, 41, 32, 116, 101, 120, 116, 46, 99, 111, 117, 110, 116, 40, 120, 41, 32, 116, 101, 120, 116, 46, 101, 110, 99, 111, 100, 101, 40, 41, 32, 116, 101, 120, 116, 46, 101, 110, 100, 115, 95, 119, 105, 116, 104, 40, 120, 41, 32, 116, 101, 120, 116, 46, 102, 105, 110, 100, 40, 120, 44, 115, 116, 97, 114, 116, 61, 48, 41, 32, 116, 101, 120, 116, 46, 106, 111, 105, 110, 40, 118, 41, 32, 116, 101, 120, 116, 46, 108, 111, 119, 101, 114, 40, 41, 32, 116, 101, 120, 116, 46, 114, 101, 112, 108, 97, 99, 101, 40, 97, 44, 98, 44, 109, 111, 115, 116, 61, 45, 49, 41, 32, 116, 101, 120, 116, 46, 115, 112, 108, 105, 116, 40, 115, 101, 112, 61, 45, 44, 109, 111, 115, 116, 61, 45, 49, 41, 32, 116, 101, 120, 116, 46, 115, 116, 97, 114, 116, 115, 95, 119, 105, 116, 104, 40, 120, 41, 32, 116, 101, 120, 116, 46, 115, 116, 114, 105, 112, 40, 99, 104, 97, 114, 115, 61, 45, 41, 32, 116, 101, 120, 116, 46, 117, 112, 112, 101, 114, 40, 41, 32, 98, 121, 116, 101, 115, 46, 100, 101, 99, 111, 100, 101, 40, 41, 32, 98, 121, 116, 101, 115, 46, 102, 105, 110, 100, 40, 120, 44, 115, 116, 97, 114, 116, 61, 48, 41, 32, 98, 121, 116, 101, 115, 46, 104, 101, 120, 40, 41, 32, 116, 117, 112, 108, 101, 46, 99, 111, 117, 110, 116, 40, 118, 41, 32, 116, 117, 112, 108, 101, 46, 105, 110, 100, 101, 120, 40, 118, 41, 32, 108, 105, 115, 116, 46, 97, 112, 112, 101, 110, 100, 40, 118, 41, 32, 108, 105, 115, 116, 46, 99, 108, 101, 97, 114, 40, 41, 32, 108, 105, 115, 116, 46, 99, 111, 112, 121, 40, 41, 32, 108, 105, 115, 116, 46, 99, 111, 117, 110, 116, 40, 118, 41, 32, 108, 105, 115, 116, 46, 101, 120, 116, 101, 110, 100, 40, 118, 41, 32, 108, 105, 115, 116, 46, 105, 110, 100, 101, 120, 40, 118, 41, 32, 108, 105, 115, 116, 46, 105, 110, 115, 101, 114, 116, 40, 105, 44, 118, 41, 32, 108, 105, 115, 116, 46, 112, 111, 112, 40, 105, 61, 45, 49, 41, 32, 108, 105, 115, 116, 46, 114, 101, 109, 111, 118, 101, 40, 118, 41, 32, 108, 105, 115, 116, 46, 114, 101, 118, 101, 114, 115, 101, 40, 41, 32, 108, 105, 115, 116, 46, 115, 111, 114, 116, 40, 107, 101, 121, 61, 45, 44, 114, 101, 118, 101, 114, 115, 101, 61, 33, 41, 32, 100, 105, 99, 116, 46, 99, 108, 101, 97, 114, 40, 41, 32, 100, 105, 99, 116, 46, 99, 111, 112, 121, 40, 41, 32, 100, 105, 99, 116, 46, 103, 101, 116, 40, 107, 44, 100, 101, 102, 97, 117, 108, 116, 61, 45, 41, 32, 100, 105, 99, 116, 46, 105, 116, 101, 109, 115, 40, 41, 32, 100, 105, 99, 116, 46, 107, 101, 121, 115, 40, 41, 32, 100, 105, 99, 116, 46, 112, 111, 112, 40, 107, 44, 100, 101, 102, 97, 117, 108, 116, 61, 63, 41, 32, 100, 105, 99, 116, 46, 115, 101, 116, 95, 100, 101, 102, 97, 117, 108, 116, 40, 107, 44, 118, 61, 45, 41, 32, 100, 105, 99, 116, 46, 117, 112, 100, 97, 116, 101, 40, 100, 41, 32, 100, 105, 99, 116, 46, 118, 97, 108, 117, 101, 115, 40, 41, 32, 115, 101, 116, 46, 97, 100, 100, 40, 118, 41, 32, 115, 101, 116, 46, 99, 108, 101, 97, 114, 40, 41, 32, 115, 101, 116, 46, 99, 111, 112, 121, 40, 41, 32, 115, 101, 116, 46, 100, 105, 115, 99, 97, 114, 100, 40, 118, 41, 32, 115, 101, 116, 46, 114, 101, 109, 111, 118, 101, 40, 118, 41, 32, 112, 114, 111, 112, 101, 114, 116, 121, 46, 119, 105, 116, 104, 95, 100, 101, 108, 101, 116, 101, 114, 40, 102, 41, 32, 112, 114, 111, 112, 101, 114, 116, 121, 46, 119, 105, 116, 104, 95, 115, 101, 116, 116, 101, 114, 40, 102, 41, 32, 103, 101, 110, 101, 114, 97, 116, 111, 114, 46, 99, 108, 111, 115, 101, 40, 41, 32, 103, 101, 110, 101, 114, 97, 116, 111, 114, 46, 115, 101, 110, 100, 40, 118, 41, 32, 103, 101, 110, 101, 114, 97, 116, 111, 114, 46, 116, 104, 114, 111, 119, 40, 120, 41, 32, 116, 97, 115, 107, 46, 99, 97, 110, 99, 101, 108, 40, 41, 32, 116, 97, 115, 107, 46, 100, 111, 110, 101, 40, 41, 32, 99, 115, 118, 46, 114, 111, 119, 115, 40, 116, 101, 120, 116, 41, 32, 99, 115, 118, 46, 116, 101, 120, 116, 40, 114, 111, 119, 115, 41, 32, 100, 97, 116, 101, 46, 97, 100, 100, 95, 109, 111, 110, 116, 104, 115, 40, 110, 44, 109, 111, 110, 116, 104, 115, 41, 32, 100, 97, 116, 101, 46, 109, 111, 109, 101, 110, 116, 40, 110, 41, 32, 100, 97, 116, 101, 46, 115, 101, 99, 111, 110, 100, 115, 40, 109, 41, 32, 100, 97, 116, 101, 46, 119, 101, 101, 107, 100, 97, 121, 40, 110, 41, 32, 106, 115, 111, 110, 46, 100, 101, 99, 111, 100, 101, 40, 116, 101, 120, 116, 41, 32, 106, 115, 111, 110, 46, 101, 110, 99, 111, 100, 101, 40, 118, 44, 105, 110, 100, 101, 110, 116, 61, 48, 41, 32, 109, 97, 116, 104, 46, 103, 99, 100, 40, 97, 44, 98, 41, 32, 109, 97, 116, 104, 46, 105, 115, 113, 114, 116, 40, 110, 41, 32, 109, 97, 116, 104, 46, 110, 101, 97, 114, 101, 115, 116, 40, 120, 44, 109, 111, 115, 116, 41, 32, 109, 97, 116, 104, 46, 112, 111, 119, 109, 111, 100, 40, 97, 44, 110, 44, 109, 41, 32, 112, 97, 99, 107, 46, 112, 97, 99, 107, 40, 102, 111, 114, 109, 97, 116, 44, 118, 97, 108, 117, 101, 115, 41, 32, 112, 97, 99, 107, 46, 117, 110, 112, 97, 99, 107, 40, 102, 111, 114, 109, 97, 116, 44, 100, 97, 116, 97, 41, 32, 114, 97, 110, 100, 111, 109, 46, 98, 101, 108, 111, 119, 40, 115, 116, 97, 116, 101, 44, 110, 41, 32, 114, 97, 110, 100, 111, 109, 46, 115, 97, 109, 112, 108, 101, 40, 115, 116, 97, 116, 101, 44, 110, 44, 107, 41, 32, 114, 97, 110, 100, 111, 109, 46, 115, 101, 101, 100, 40, 110, 41, 32, 114, 101, 46, 97, 108, 108, 40, 112, 97, 116, 116, 101, 114, 110, 44, 116, 101, 120, 116, 41, 32, 114, 101, 46, 102, 105, 110, 100, 40, 112, 97, 116, 116, 101, 114, 110, 44, 116, 101, 120, 116, 44, 115, 116, 97, 114, 116, 61, 48, 41, 32, 114, 101, 46, 102, 117, 108, 108, 40, 112, 97, 116, 116, 101, 114, 110, 44, 116, 101, 120, 116, 41, 32, 114, 101, 46, 114, 101, 112, 108, 97, 99, 101, 40, 112, 97, 116, 116, 101, 114, 110, 44, 116, 101, 120, 116, 44, 119, 105, 116, 104, 41, 32, 114, 101, 46, 115, 112, 108, 105, 116, 40, 112, 97, 116, 116, 101, 114, 110, 44, 116, 101, 120, 116, 41]⟩ : ByteArray) s12 (C15.gl rfl gl0)) ?_
      rintro r16 _ s17 ⟨A18, c19, e21, rfl, h20⟩ h24
      have C25 : Cx s0.next [] [] s0 s17 [] [(On.mk rS r16 A18 c19 9 true e21), (On.mk rS r1 A3 c4 9 false e6)] [] := h24 [(On.mk rS r16 A18 c19 9 true e21)] (by simpa using h20) (List.pairwise_singleton _ _)
      refine (Rf.asSl ?_)
      have C26 : Cx s0.next [] [] s0 s17 [] [(On.mk rS ([] : List ByteArray) none 0 9 false 0), (On.mk rS r16 A18 c19 9 true e21), (On.mk rS r1 A3 c4 9 false e6)] [] := C25.addNil rS 9
      refine Rf.loop (Inv := Inv26_1 s0 p0 gl0 A18 c19 e21 r16) (Ex := Ex26_1 s0 p0 gl0 A18 c19 e21 r16) (x26_1 s0 p0 gl0 A18 c19 e21 r16) (fun t g s K Q h => b26_1 n s0 p0 gl0 A18 c19 e21 r16 t g s K Q h) n _ _ _ ⟨_, _, _, rfl, (C26.sub (List.Sublist.refl _) (List.Sublist.cons_cons _ (List.Sublist.cons_cons _ (List.Sublist.cons _ List.Sublist.slnil))) (List.Sublist.refl _))⟩ ?_
      intro t126 e g s163 h
      obtain ⟨A122, c123, e124, rfl, rfl, C164⟩ := h
      rw [e26_after0_exit0 n]
      subst hH; subst hQ
      exact Rf.leaf fun _ => Ev.done (Rf.ret C164 ⟨_, _, _, rfl, C164.own _ m0⟩)
-- 9 "brindlewood/brindlewoodref8.Library"
abbrev P9 (N : Nat) (X : List Nat) (r : (List ByteArray)) (v : Value) (s : St) : Prop := ∃ (A0 : Option Addr) (c0 : Nat) (e0 : Nat), v = (Value.slice A0 (r).length c0) ∧ (On.mk rS r A0 c0 9 false e0).holds N X s
def p9 : Nat → ByteArray → Option (List ByteArray)
  | 0, _ => none
  | n + 1, p0 => ((p26 n p0).bind fun r1 => (some (r1 : (List ByteArray))))
theorem t9 (k : Nat) (p0 : ByteArray) (s0 : St) (gl0 : GlobOk s0) :
    Rf (p9 k p0) (fun _ => True) (fun r => RtC s0.next [] [] s0 (P9 s0.next [] r)) (acall E k 9 [(Value.string p0)] s0) := by
  cases k with
  | zero => exact Rf.none
  | succ n =>
    rw [e9 n]
    rw [p9]
    refine Rf.gen fun H Q hH hQ => ?_
    have C0 : Cx s0.next [] [] s0 s0 [] [] [] := Cx.start s0
    refine Rf.call0 C0 (t26 n p0 s0 (C0.gl rfl gl0)) ?_
    rintro r1 _ s2 ⟨A3, c4, e6, rfl, h5⟩ h9
    have C10 : Cx s0.next [] [] s0 s2 [] [(On.mk rS r1 A3 c4 9 false e6)] [] := h9 [(On.mk rS r1 A3 c4 9 false e6)] (by simpa using h5) (List.pairwise_singleton _ _)
    refine (Rf.asSl ?_)
    subst hH; subst hQ
    exact Rf.leaf fun _ => Ev.done (Rf.ret C10 ⟨_, _, _, rfl, C10.own _ m0⟩)
-- 43 "brindlewood/heap.Int"
abbrev Inv43_1 (s0 : St) (p0 : Int) (gl0 : GlobOk s0) (b16 : Bool) (i30 : Nat) (i31 : Nat) (t : ((List Int) × Int)) (g : Regs) (s : St) : Prop := ∃ (A26 : Option Addr) (c27 : Nat) (e28 : Nat) (w63 : Value), g = (rg 28 [(2, (Value.pointer (some ⟨i31, 0, none⟩))), (3, (Value.pointer (some ⟨i30, 0, none⟩))), (4, (Value.int .u64 t.2)), (9, w63)]) ∧ Cx s0.next [] [] s0 s [(i30, AObj.box 26 [(Value.int .i64 2), (Value.bool b16), (Value.slice A26 (t.1).length c27), (Value.bool false), (Value.slice none 0 0), (Value.string ByteArray.empty), (Value.int .i64 0)]), (i31, AObj.box 26 [(Value.int .i64 0), (Value.bool false), (Value.slice none 0 0), (Value.bool false), (Value.slice none 0 0), (Value.string ByteArray.empty), (Value.int .i64 0)])] [(On.mk (rI .u32) t.1 A26 c27 63 false e28)] []
abbrev Ex43_1 (s0 : St) (p0 : Int) (gl0 : GlobOk s0) (b16 : Bool) (i30 : Nat) (i31 : Nat) (t : ((List Int) × Int)) (e : X) (g : Regs) (s : St) : Prop := ∃ (A90 : Option Addr) (c91 : Nat) (e92 : Nat), e = .exit 0 ∧ g = (rg 28 [(2, (Value.pointer (some ⟨i31, 0, none⟩))), (3, (Value.pointer (some ⟨i30, 0, none⟩))), (4, (Value.int .u64 t.2)), (15, (Value.bool false))]) ∧ Cx s0.next [] [] s0 s [(i30, AObj.box 26 [(Value.int .i64 2), (Value.bool b16), (Value.slice A90 (t.1).length c91), (Value.bool false), (Value.slice none 0 0), (Value.string ByteArray.empty), (Value.int .i64 0)]), (i31, AObj.box 26 [(Value.int .i64 0), (Value.bool false), (Value.slice none 0 0), (Value.bool false), (Value.slice none 0 0), (Value.string ByteArray.empty), (Value.int .i64 0)])] [(On.mk (rI .u32) t.1 A90 c91 63 false e92)] []
theorem x43_1 (s0 : St) (p0 : Int) (gl0 : GlobOk s0) (b16 : Bool) (i30 : Nat) (i31 : Nat) (t : ((List Int) × Int)) (e : X) (g : Regs) (s : St) (h : Ex43_1 s0 p0 gl0 b16 i30 i31 t e g s) : e ≠ .normal := by
  obtain ⟨_, _, _, h, _⟩ := h
  rw [h]; intro hh; cases hh
def pb43_1 (n : Nat)  (t : ((List Int) × Int)) : Option (((List Int) × Int) ⊕ ((List Int) × Int)) :=
  (if (decide ((t.2 : Int) > 0)) then ((apP 4 t.1 [(IntKind.wrap .u32 t.2)] (fun y75 => (shrP .u64 t.2 32 (fun x87 => (some (.inl ((t.1 ++ [(IntKind.wrap .u32 t.2)]), x87)))))))) else (((some (.inr (t.1, t.2))))))
theorem b43_1 (n : Nat) (s0 : St) (p0 : Int) (gl0 : GlobOk s0) (b16 : Bool) (i30 : Nat) (i31 : Nat) (t : ((List Int) × Int)) (g : Regs) (s60 : St) (K : Kont) (Q : Out → St → Prop) (h : Inv43_1 s0 p0 gl0 b16 i30 i31 t g s60) :
    Rf (pb43_1 n t) (fun r => ∀ e g' s', LK (Inv43_1 s0 p0 gl0 b16 i30 i31) (Ex43_1 s0 p0 gl0 b16 i30 i31) r e g' s' → Ev (K e g' s') Q) (fun _ => Q) (kBody E 43 n [.b, .b, .b, .b, .a, .a, .a] g s60 K) := by
  obtain ⟨y25, x29⟩ := t
  obtain ⟨A26, c27, e28, w63, rfl, C61⟩ := h
  rw [e43_body0 n]
  unfold pb43_1
  refine Rf.gen fun H Q hH hQ => ?_
  try dsimp only
  refine Rf.ite ?_ ?_
  · refine Rf.ldSl (C61.at m0 rfl) ?_
    refine Rf.newR (r := (rI .u32)) (xs := [(IntKind.wrap .u32 x29)]) C61 rfl (many.cons (c := [(Value.int .u32 (IntKind.wrap .u32 x29))]) rI_mk many.nil) fun s69 (C70 : Cx s0.next [] [] s0 s69 [(i30, AObj.box 26 [(Value.int .i64 2), (Value.bool b16), (Value.slice A26 (y25).length c27), (Value.bool false), (Value.slice none 0 0), (Value.string ByteArray.empty), (Value.int .i64 0)]), (i31, AObj.box 26 [(Value.int .i64 0), (Value.bool false), (Value.slice none 0 0), (Value.bool false), (Value.slice none 0 0), (Value.string ByteArray.empty), (Value.int .i64 0)])] [(On.mk (rI .u32) [(IntKind.wrap .u32 x29)] (some ⟨s60.next, 0, none⟩) 1 63 false s60.next), (On.mk (rI .u32) y25 A26 c27 63 false e28)] []) => ?_
    refine Rf.kapp 1 C70 rfl rfl (by decide) (by decide) (Ap.sr u22 rfl (C70.srB m0)) fun A72 c73 e74 s77 (C78 : Cx s0.next [] [] s0 s77 [(i30, AObj.box 26 [(Value.int .i64 2), (Value.bool b16), (Value.slice A26 (y25).length c27), (Value.bool false), (Value.slice none 0 0), (Value.string ByteArray.empty), (Value.int .i64 0)]), (i31, AObj.box 26 [(Value.int .i64 0), (Value.bool false), (Value.slice none 0 0), (Value.bool false), (Value.slice none 0 0), (Value.string ByteArray.empty), (Value.int .i64 0)])] [(On.mk (rI .u32) [(IntKind.wrap .u32 x29)] (some ⟨s60.next, 0, none⟩) 1 63 false s60.next), (On.mk (rI .u32) (y25 ++ [(IntKind.wrap .u32 x29)]) A72 c73 63 false e74)] []) => ?_
    have C79 : Cx s0.next [] [] s0 s77 [(i30, AObj.box 26 [(Value.int .i64 2), (Value.bool b16), (Value.slice A26 (y25).length c27), (Value.bool false), (Value.slice none 0 0), (Value.string ByteArray.empty), (Value.int .i64 0)]), (i31, AObj.box 26 [(Value.int .i64 0), (Value.bool false), (Value.slice none 0 0), (Value.bool false), (Value.slice none 0 0), (Value.string ByteArray.empty), (Value.int .i64 0)])] [(On.mk (rI .u32) (y25 ++ [(IntKind.wrap .u32 x29)]) A72 c73 63 false e74)] [] := C78.sub (List.Sublist.refl _) (List.Sublist.cons _ (List.Sublist.cons_cons _ List.Sublist.slnil)) (List.Sublist.refl _)
    refine Rf.ifp rfl ?_
    refine Rf.sto 0 C79 rfl (by simp) rfl fun s85 (C86 : Cx s0.next [] [] s0 s85 [(i30, AObj.box 26 [(Value.int .i64 2), (Value.bool b16), (Value.slice A72 ((y25 ++ [(IntKind.wrap .u32 x29)])).length c73), (Value.bool false), (Value.slice none 0 0), (Value.string ByteArray.empty), (Value.int .i64 0)]), (i31, AObj.box 26 [(Value.int .i64 0), (Value.bool false), (Value.slice none 0 0), (Value.bool false), (Value.slice none 0 0), (Value.string ByteArray.empty), (Value.int .i64 0)])] [(On.mk (rI .u32) (y25 ++ [(IntKind.wrap .u32 x29)]) A72 c73 63 false e74)] []) => ?_
    refine Rf.shrI fun x87 => ?_
    subst hH; subst hQ
    exact Rf.leaf fun h => h _ _ _ ⟨rfl, _, _, _, _, rfl, (C86.sub (List.Sublist.refl _) (List.Sublist.refl _) (List.Sublist.refl _))⟩
  · subst hH; subst hQ
    exact Rf.leaf fun h => h _ _ _ ⟨_, _, _, rfl, rfl, (C61.sub (List.Sublist.refl _) (List.Sublist.refl _) (List.Sublist.refl _))⟩
abbrev P43 (N : Nat) (X : List Nat) (r : (Int × (Bool × (List Int)) × (Bool × (List Int)) × ByteArray × Int)) (v : Value) (s : St) : Prop := ∃ (A0 : Option Addr) (c0 : Nat) (A2 : Option Addr) (c2 : Nat), v = (Value.agg #[(Value.int .i64 r.1), (Value.bool r.2.1.1), (Value.slice A0 (r.2.1.2).length c0), (Value.bool r.2.2.1.1), (Value.slice A2 (r.2.2.1.2).length c2), (Value.string r.2.2.2.1), (Value.int .i64 r.2.2.2.2)]) ∧ Sr (rI .u32) s A0 c0 r.2.1.2 ∧ Sr (rI .u32) s A2 c2 r.2.2.1.2
def p43 : Nat → Int → Option (Int × (Bool × (List Int)) × (Bool × (List Int)) × ByteArray × Int)
  | 0, _ => none
  | n + 1, p0 => (((pj (fun (b16 : Bool) (x17 : Int) => (loopP (pb43_1 n) n (([] : List Int), x17)).bind fun t94 => (some ((2, (b16, t94.1), (false, ([] : (List Int))), ByteArray.empty, 0) : (Int × (Bool × (List Int)) × (Bool × (List Int)) × ByteArray × Int)))) (fun J15 => (if (decide ((p0 : Int) < 0)) then (((J15 true (IntKind.wrap .u64 (0 - (IntKind.wrap .u64 p0)))))) else ((J15 false (IntKind.wrap .u64 p0))))))))
theorem t43 (k : Nat) (p0 : Int) (s0 : St) (gl0 : GlobOk s0) :
    Rf (p43 k p0) (fun _ => True) (fun r => RtC s0.next [] [] s0 (P43 s0.next [] r)) (acall E k 43 [(Value.int .i64 p0)] s0) := by
  cases k with
  | zero => exact Rf.none
  | succ n =>
    rw [e43 n]
    rw [p43]
    refine Rf.gen fun H Q hH hQ => ?_
    have C0 : Cx s0.next [] [] s0 s0 [] [] [] := Cx.start s0
    refine Rf.new C0 fun s1 (C2 : Cx s0.next [] [] s0 s1 [(s0.next, AObj.box 26 [(Value.int .i64 0), (Value.bool false), (Value.slice none 0 0), (Value.bool false), (Value.slice none 0 0), (Value.string ByteArray.empty), (Value.int .i64 0)])] [] []) => ?_
    refine Rf.new C2 fun s4 (C5 : Cx s0.next [] [] s0 s4 [(s1.next, AObj.box 26 [(Value.int .i64 0), (Value.bool false), (Value.slice none 0 0), (Value.bool false), (Value.slice none 0 0), (Value.string ByteArray.empty), (Value.int .i64 0)]), (s0.next, AObj.box 26 [(Value.int .i64 0), (Value.bool false), (Value.slice none 0 0), (Value.bool false), (Value.slice none 0 0), (Value.string ByteArray.empty), (Value.int .i64 0)])] [] []) => ?_
    refine Rf.sto 0 C5 rfl (by simp) rfl fun s7 (C8 : Cx s0.next [] [] s0 s7 [(s1.next, AObj.box 26 [(Value.int .i64 2), (Value.bool false), (Value.slice none 0 0), (Value.bool false), (Value.slice none 0 0), (Value.string ByteArray.empty), (Value.int .i64 0)]), (s0.next, AObj.box 26 [(Value.int .i64 0), (Value.bool false), (Value.slice none 0 0), (Value.bool false), (Value.slice none 0 0), (Value.string ByteArray.empty), (Value.int .i64 0)])] [] []) => ?_
    refine Rf.pj fun J15 J15' hJ15 hJ15' => ?_
    have J15h : ∀ (e19 : Value) (b16 : Bool) (x17 : Int) (s20 : St) (_ : Cx s0.next [] [] s0 s20 [(s1.next, AObj.box 26 [(Value.int .i64 2), (Value.bool b16), (Value.slice none 0 0), (Value.bool false), (Value.slice none 0 0), (Value.string ByteArray.empty), (Value.int .i64 0)]), (s0.next, AObj.box 26 [(Value.int .i64 0), (Value.bool false), (Value.slice none 0 0), (Value.bool false), (Value.slice none 0 0), (Value.string ByteArray.empty), (Value.int .i64 0)])] [] []), Rf (J15 b16 x17) H Q (J15' x17 e19 s20) := by
      subst hJ15
      subst hJ15'
      intro e19 b16 x17 s20 C21
      have C22 : Cx s0.next [] [] s0 s20 [(s1.next, AObj.box 26 [(Value.int .i64 2), (Value.bool b16), (Value.slice none 0 0), (Value.bool false), (Value.slice none 0 0), (Value.string ByteArray.empty), (Value.int .i64 0)]), (s0.next, AObj.box 26 [(Value.int .i64 0), (Value.bool false), (Value.slice none 0 0), (Value.bool false), (Value.slice none 0 0), (Value.string ByteArray.empty), (Value.int .i64 0)])] [(On.mk (rI .u32) ([] : List Int) none 0 63 false 0)] [] := C21.addNil (rI .u32) 63
      refine Rf.loop (Inv := Inv43_1 s0 p0 gl0 b16 s1.next s0.next) (Ex := Ex43_1 s0 p0 gl0 b16 s1.next s0.next) (x43_1 s0 p0 gl0 b16 s1.next s0.next) (fun t g s K Q h => b43_1 n s0 p0 gl0 b16 s1.next s0.next t g s K Q h) n _ _ _ ⟨_, _, _, _, rfl, (C22.sub (List.Sublist.refl _) (List.Sublist.refl _) (List.Sublist.refl _))⟩ ?_
      intro t94 e g s123 h
      obtain ⟨A90, c91, e92, rfl, rfl, C124⟩ := h
      rw [e43_after0_exit0 n]
      refine Rf.ldI (C124.at m0 rfl) ?_
      refine Rf.ldB (C124.at m0 rfl) ?_
      refine Rf.ldSl (C124.at m0 rfl) ?_
      refine Rf.ldB (C124.at m0 rfl) ?_
      refine Rf.ldSl (C124.at m0 rfl) ?_
      refine Rf.ldS (C124.at m0 rfl) ?_
      refine Rf.ldI (C124.at m0 rfl) ?_
      refine Rf.sto 1 C124 rfl (by simp) rfl fun s132 (C133 : Cx s0.next [] [] s0 s132 [(s1.next, AObj.box 26 [(Value.int .i64 2), (Value.bool b16), (Value.slice A90 (t94.1).length c91), (Value.bool false), (Value.slice none 0 0), (Value.string ByteArray.empty), (Value.int .i64 0)]), (s0.next, AObj.box 26 [(Value.int .i64 2), (Value.bool b16), (Value.slice A90 (t94.1).length c91), (Value.bool false), (Value.slice none 0 0), (Value.string ByteArray.empty), (Value.int .i64 0)])] [(On.mk (rI .u32) t94.1 A90 c91 63 false e92)] []) => ?_
      refine Rf.ldI (C133.at m1 rfl) ?_
      refine Rf.ldB (C133.at m1 rfl) ?_
      refine Rf.ldSl (C133.at m1 rfl) ?_
      refine Rf.ldB (C133.at m1 rfl) ?_
      refine Rf.ldSl (C133.at m1 rfl) ?_
      refine Rf.ldS (C133.at m1 rfl) ?_
      refine Rf.ldI (C133.at m1 rfl) ?_
      subst hH; subst hQ
      exact Rf.leaf fun _ => Ev.done (Rf.ret C133 ⟨_, _, _, _, rfl, (C133.srB m0), Sr.nil⟩)
    clear hJ15 hJ15'
    refine Rf.ite ?_ ?_
    · refine Rf.sto 0 C8 rfl (by simp) rfl fun s13 (C14 : Cx s0.next [] [] s0 s13 [(s1.next, AObj.box 26 [(Value.int .i64 2), (Value.bool true), (Value.slice none 0 0), (Value.bool false), (Value.slice none 0 0), (Value.string ByteArray.empty), (Value.int .i64 0)]), (s0.next, AObj.box 26 [(Value.int .i64 0), (Value.bool false), (Value.slice none 0 0), (Value.bool false), (Value.slice none 0 0), (Value.string ByteArray.empty), (Value.int .i64 0)])] [] []) => ?_
      exact J15h _ true (IntKind.wrap .u64 (0 - (IntKind.wrap .u64 p0))) _ (C14.sub (List.Sublist.refl _) (List.Sublist.refl _) (List.Sublist.refl _))
    · exact J15h _ false (IntKind.wrap .u64 p0) _ (C8.sub (List.Sublist.refl _) (List.Sublist.refl _) (List.Sublist.refl _))
end Go.Proofs.YtckalckfihhldaaDoorF
