/- The functions of the laws of sources, told as plain functions. -/
import Derived.Test.YtnkbddljndfpnaaDoorG2
import Derived.Test.YtnkbddljndfpnaaDoorF22c
set_option linter.unusedVariables false
set_option linter.unusedSimpArgs false
namespace Go.Proofs.YtnkbddljndfpnaaDoorF
open Go Go.Proofs
set_option maxRecDepth 100000
set_option maxHeartbeats 2000000


theorem u31 : E.und 31 = some (.slice 9) := by kernel_rfl
theorem u59 : E.und 59 = some (.slice 3) := by kernel_rfl
theorem u63 : E.und 63 = some (.slice 21) := by kernel_rfl
/-! ### Package variables that are read -/
def gT2 : List Int := [240, 240, 240, 240, 240, 240, 240, 240, 240, 240, 240, 240, 240, 240, 240, 240, 240, 240, 240, 240, 240, 240, 240, 240, 240, 240, 240, 240, 240, 240, 240, 240, 240, 240, 240, 240, 240, 240, 240, 240, 240, 240, 240, 240, 240, 240, 240, 240, 240, 240, 240, 240, 240, 240, 240, 240, 240, 240, 240, 240, 240, 240, 240, 240, 240, 240, 240, 240, 240, 240, 240, 240, 240, 240, 240, 240, 240, 240, 240, 240, 240, 240, 240, 240, 240, 240, 240, 240, 240, 240, 240, 240, 240, 240, 240, 240, 240, 240, 240, 240, 240, 240, 240, 240, 240, 240, 240, 240, 240, 240, 240, 240, 240, 240, 240, 240, 240, 240, 240, 240, 240, 240, 240, 240, 240, 240, 240, 240, 241, 241, 241, 241, 241, 241, 241, 241, 241, 241, 241, 241, 241, 241, 241, 241, 241, 241, 241, 241, 241, 241, 241, 241, 241, 241, 241, 241, 241, 241, 241, 241, 241, 241, 241, 241, 241, 241, 241, 241, 241, 241, 241, 241, 241, 241, 241, 241, 241, 241, 241, 241, 241, 241, 241, 241, 241, 241, 241, 241, 241, 241, 241, 241, 241, 241, 2, 2, 2, 2, 2, 2, 2, 2, 2, 2, 2, 2, 2, 2, 2, 2, 2, 2, 2, 2, 2, 2, 2, 2, 2, 2, 2, 2, 2, 2, 19, 3, 3, 3, 3, 3, 3, 3, 3, 3, 3, 3, 3, 35, 3, 3, 52, 4, 4, 4, 68, 241, 241, 241, 241, 241, 241, 241, 241, 241, 241, 241]
def gT3 : List Int := [128, 191, 160, 191, 128, 159, 144, 191, 128, 143, 0, 0, 0, 0, 0, 0, 0, 0, 0, 0, 0, 0, 0, 0, 0, 0, 0, 0, 0, 0, 0, 0]
structure GlobOk (s : St) : Prop where
  g2 : Lo s 2 0 (gT2.map (Value.int .u8))
  g3 : Lo s 3 0 (gT3.map (Value.int .u8))
theorem GlobOk.ext {s s' : St} (h1 : s.next ≤ s'.next) (h2 : Kr s.next s s') (h : GlobOk s) : GlobOk s' := ⟨h.g2.ext h1 h2, h.g3.ext h1 h2⟩
theorem Cx.gl {N : Nat} {X Z : List Nat} {s0 s : St} {L : List (Nat × AObj)} {B : List On} {G : List Fa} (C : Cx N X Z s0 s L B G) (hN : s0.next = N) (h : GlobOk s0) : GlobOk s := h.ext C.keep.next (by rw [hN]; exact C.kr)
theorem gAt2 {s : St} (h : GlobOk s) {i x : Int} (hx : gT2[i.toNat]? = some x) : At s 2 (0 + i.toNat * 1) (.int .u8 x) := by
  rw [Nat.mul_one]
  exact h.g2.at _ (by rw [List.getElem?_map, hx]; rfl)
theorem gAt3 {s : St} (h : GlobOk s) {i x : Int} (hx : gT3[i.toNat]? = some x) : At s 3 (0 + i.toNat * 1) (.int .u8 x) := by
  rw [Nat.mul_one]
  exact h.g3.at _ (by rw [List.getElem?_map, hx]; rfl)
abbrev P27 (N : Nat) (X : List Nat) (r : ByteArray) (v : Value) (s : St) : Prop := v = (Value.string r)
def p27 (n : Nat) (p0 : (List ByteArray)) (p1 : ByteArray) : Option ByteArray := match n with | 0 => none | _ + 1 => joP p0 p1
theorem t27 (k : Nat) (p0 : (List ByteArray)) (p1 : ByteArray) (s0 : St) {A0 : Option Addr} {c0 : Nat} (gl0 : GlobOk s0) (h0 : Sr rS s0 A0 c0 p0) :
    Rf (p27 k p0 p1) (fun _ => True) (fun r => RtC s0.next [] [] s0 (P27 s0.next [] r)) (acall E k 27 [(Value.slice A0 (p0).length c0), (Value.string p1)] s0) := by
  unfold p27
  exact Rf.sum (e := sumJoin) rfl (fun r hr => by obtain ⟨x, h1, rfl⟩ := sumJoin_sr h0 hr; exact ⟨_, h1, rfl⟩)
abbrev P33 (N : Nat) (X : List Nat) (r : Int) (v : Value) (s : St) : Prop := v = (Value.int .i64 r)
def p33 (n : Nat) (p0 : ByteArray) (p1 : Int) : Option Int := match n with | 0 => none | _ + 1 => liP p0 p1
theorem t33 (k : Nat) (p0 : ByteArray) (p1 : Int) (s0 : St) (gl0 : GlobOk s0) :
    Rf (p33 k p0 p1) (fun _ => True) (fun r => RtC s0.next [] [] s0 (P33 s0.next [] r)) (acall E k 33 [(Value.string p0), (Value.int .u8 p1)] s0) := by
  unfold p33
  exact Rf.sum (e := sumLastIndexByte) rfl (fun r hr => ⟨(Value.int .i64 r), by simp only [sumLastIndexByte, hr, Option.map_some], rfl⟩)
abbrev P34 (N : Nat) (X : List Nat) (r : Int) (v : Value) (s : St) : Prop := v = (Value.int .i64 r)
def p34 (n : Nat) (p0 : ByteArray) (p1 : ByteArray) : Option Int := match n with | 0 => none | _ + 1 => coP p0 p1
theorem t34 (k : Nat) (p0 : ByteArray) (p1 : ByteArray) (s0 : St) (gl0 : GlobOk s0) :
    Rf (p34 k p0 p1) (fun _ => True) (fun r => RtC s0.next [] [] s0 (P34 s0.next [] r)) (acall E k 34 [(Value.string p0), (Value.string p1)] s0) := by
  unfold p34
  exact Rf.sum (e := sumCount) rfl (fun r hr => ⟨(Value.int .i64 r), by simp only [sumCount, hr, Option.map_some], rfl⟩)
abbrev P35 (N : Nat) (X : List Nat) (r : Int) (v : Value) (s : St) : Prop := v = (Value.int .i64 r)
def p35 (n : Nat) (p0 : ByteArray) : Option Int := match n with | 0 => none | _ + 1 => rcP p0
theorem t35 (k : Nat) (p0 : ByteArray) (s0 : St) (gl0 : GlobOk s0) :
    Rf (p35 k p0) (fun _ => True) (fun r => RtC s0.next [] [] s0 (P35 s0.next [] r)) (acall E k 35 [(Value.string p0)] s0) := by
  unfold p35
  exact Rf.sum (e := sumRuneCount) rfl (fun r hr => ⟨(Value.int .i64 r), by simp only [sumRuneCount, hr, Option.map_some], rfl⟩)
abbrev P36 (N : Nat) (X : List Nat) (r : (Int × ByteArray × Bool)) (v : Value) (s : St) : Prop := v = (Value.tuple #[(Value.int .i64 r.1), (Value.string r.2.1), (Value.bool r.2.2)])
def p36 (n : Nat) (p0 : ByteArray) (p1 : Int) : Option (Int × ByteArray × Bool) := match n with | 0 => none | _ + 1 => fiP p0 p1
theorem t36 (k : Nat) (p0 : ByteArray) (p1 : Int) (s0 : St) (gl0 : GlobOk s0) :
    Rf (p36 k p0 p1) (fun _ => True) (fun r => RtC s0.next [] [] s0 (P36 s0.next [] r)) (acall E k 36 [(Value.string p0), (Value.int .i64 p1)] s0) := by
  unfold p36
  exact Rf.sum (e := sumFind) rfl (fun r hr => ⟨(Value.tuple #[(Value.int .i64 r.1), (Value.string r.2.1), (Value.bool r.2.2)]), by simp only [sumFind, hr, Option.map_some], rfl⟩)
abbrev P38 (N : Nat) (X : List Nat) (r : (Int × Int)) (v : Value) (s : St) : Prop := v = (Value.tuple #[(Value.int .i32 r.1), (Value.int .i64 r.2)])
def p38 (n : Nat) (p0 : ByteArray) : Option (Int × Int) := match n with | 0 => none | _ + 1 => some (((Lib.decodeGo p0).1 : Int), ((Lib.decodeGo p0).2 : Int))
theorem t38 (k : Nat) (p0 : ByteArray) (s0 : St) (gl0 : GlobOk s0) :
    Rf (p38 k p0) (fun _ => True) (fun r => RtC s0.next [] [] s0 (P38 s0.next [] r)) (acall E k 38 [(Value.string p0)] s0) := by
  unfold p38
  exact Rf.sum (e := (sumDecode 2 3)) rfl (fun r hr => by injection hr with hr; subst hr; exact ⟨_, by unfold sumDecode; exact if_pos ⟨gl0.g2, gl0.g3⟩, rfl⟩)
abbrev P40 (N : Nat) (X : List Nat) (r : ByteArray) (v : Value) (s : St) : Prop := v = (Value.string r)
def p40 (n : Nat) (p0 : ByteArray) (p1 : Int) : Option ByteArray := match n with | 0 => none | _ + 1 => repP p0 p1
theorem t40 (k : Nat) (p0 : ByteArray) (p1 : Int) (s0 : St) (gl0 : GlobOk s0) :
    Rf (p40 k p0 p1) (fun _ => True) (fun r => RtC s0.next [] [] s0 (P40 s0.next [] r)) (acall E k 40 [(Value.string p0), (Value.int .i64 p1)] s0) := by
  unfold p40
  exact Rf.sum (e := sumRepeat) rfl (fun r hr => ⟨(Value.string r), by simp only [sumRepeat, hr, Option.map_some], rfl⟩)
-- 32 "unicode/utf8.RuneStart"
abbrev P32 (N : Nat) (X : List Nat) (r : Bool) (v : Value) (s : St) : Prop := v = (Value.bool r)
def p32 : Nat → Int → Option Bool
  | 0, _ => none
  | n + 1, p0 => ((some ((((IntKind.wrap .u8 (((BitVec.ofInt (IntKind.bits .u8) p0 &&& BitVec.ofInt (IntKind.bits .u8) 192).toNat : Nat))) : Int) != 128) : Bool)))
theorem t32 (k : Nat) (p0 : Int) (s0 : St) (gl0 : GlobOk s0) :
    Rf (p32 k p0) (fun _ => True) (fun r => RtC s0.next [] [] s0 (P32 s0.next [] r)) (acall E k 32 [(Value.int .u8 p0)] s0) := by
  cases k with
  | zero => exact Rf.none
  | succ n =>
    rw [e32 n]
    rw [p32]
    refine Rf.gen fun H Q hH hQ => ?_
    have C0 : Cx s0.next [] [] s0 s0 [] [] [] := Cx.start s0
    subst hH; subst hQ
    exact Rf.leaf fun _ => Ev.done (Rf.ret C0 rfl)
-- 17 "brindlewood/brindlewoodref1.At"
abbrev P17 (N : Nat) (X : List Nat) (r : (Int × Int)) (v : Value) (s : St) : Prop := v = (Value.agg #[(Value.int .i64 r.1), (Value.int .i64 r.2)])
def p17 : Nat → Int → Int → Option (Int × Int)
  | 0, _, _ => none
  | n + 1, p0, p1 => ((some ((p0, p1) : (Int × Int))))
theorem t17 (k : Nat) (p0 : Int) (p1 : Int) (s0 : St) (gl0 : GlobOk s0) :
    Rf (p17 k p0 p1) (fun _ => True) (fun r => RtC s0.next [] [] s0 (P17 s0.next [] r)) (acall E k 17 [(Value.int .i64 p0), (Value.int .i64 p1)] s0) := by
  cases k with
  | zero => exact Rf.none
  | succ n =>
    rw [e17 n]
    rw [p17]
    refine Rf.gen fun H Q hH hQ => ?_
    have C0 : Cx s0.next [] [] s0 s0 [] [] [] := Cx.start s0
    refine Rf.new C0 fun s1 (C2 : Cx s0.next [] [] s0 s1 [(s0.next, AObj.box 24 [(Value.int .i64 0), (Value.int .i64 0)])] [] []) => ?_
    refine Rf.sto 0 C2 rfl (by simp) rfl fun s4 (C5 : Cx s0.next [] [] s0 s4 [(s0.next, AObj.box 24 [(Value.int .i64 p0), (Value.int .i64 p1)])] [] []) => ?_
    refine Rf.ldI (C5.at m0 rfl) ?_
    refine Rf.ldI (C5.at m0 rfl) ?_
    subst hH; subst hQ
    exact Rf.leaf fun _ => Ev.done (Rf.ret C5 rfl)
-- 37 "brindlewood/brindlewoodref1.Widths"
abbrev Inv37_1 (s0 : St) (p0 : ByteArray) (gl0 : GlobOk s0) (A9 : Option Addr) (e10 : Nat) (t : ((List Int) × Int)) (g : Regs) (s : St) : Prop := g = (rg 48 [(0, (Value.string p0)), (3, (Value.slice A9 ((List.replicate (Int.toNat (p0.size : Nat)) (0 : Int))).length (Int.toNat (p0.size : Nat)))), (4, (Value.int .i64 t.2))]) ∧ ((List.replicate (Int.toNat (p0.size : Nat)) (0 : Int))).length = (t.1).length ∧ Cx s0.next [] [] s0 s [] [(On.mk (rI .i64) t.1 A9 (Int.toNat (p0.size : Nat)) 3 true e10)] []
abbrev Ex37_1 (s0 : St) (p0 : ByteArray) (gl0 : GlobOk s0) (A9 : Option Addr) (e10 : Nat) (t : ((List Int) × Int)) (e : X) (g : Regs) (s : St) : Prop := e = .exit 0 ∧ g = (rg 48 [(0, (Value.string p0)), (3, (Value.slice A9 ((List.replicate (Int.toNat (p0.size : Nat)) (0 : Int))).length (Int.toNat (p0.size : Nat)))), (4, (Value.int .i64 t.2)), (13, (Value.bool false))]) ∧ ((List.replicate (Int.toNat (p0.size : Nat)) (0 : Int))).length = (t.1).length ∧ Cx s0.next [] [] s0 s [] [(On.mk (rI .i64) t.1 A9 (Int.toNat (p0.size : Nat)) 3 true e10)] []
theorem x37_1 (s0 : St) (p0 : ByteArray) (gl0 : GlobOk s0) (A9 : Option Addr) (e10 : Nat) (t : ((List Int) × Int)) (e : X) (g : Regs) (s : St) (h : Ex37_1 s0 p0 gl0 A9 e10 t e g s) : e ≠ .normal := by
  obtain ⟨h, _⟩ := h
  rw [h]; intro hh; cases hh
def pb37_1 (n : Nat) (p0 : ByteArray) (t : ((List Int) × Int)) : Option (((List Int) × Int) ⊕ ((List Int) × Int)) :=
  (if (decide ((t.2 : Int) < (p0.size : Nat))) then ((subP p0 t.2 (p0.size : Nat) (fun z63 => (p38 n z63).bind fun r64 => (pj (fun (b71 : Bool) => if b71 then (rd t.1 t.2 (fun x74 => pj (List.set t.1 (t.2).toNat (-1)) (fun y83 => ((((some (.inl ((List.set t.1 (t.2).toNat (-1)), (IntKind.wrap .i64 (t.2 + 1))))))))))) else ((rd t.1 t.2 (fun x88 => pj (List.set t.1 (t.2).toNat r64.2) (fun y97 => ((some (.inl ((List.set t.1 (t.2).toNat r64.2), (IntKind.wrap .i64 (t.2 + r64.2))))))))))) (fun J70 => if ((r64.1 : Int) == 65533) then (if (decide ((r64.2 : Int) ≤ 1)) then ((J70 true)) else (if (decide ((r64.1 : Int) < 32)) then ((J70 ((r64.1 : Int) != 10))) else ((J70 false)))) else (if (decide ((r64.1 : Int) < 32)) then ((J70 ((r64.1 : Int) != 10))) else ((J70 false)))))))) else (((some (.inr (t.1, t.2))))))
theorem b37_1 (n : Nat) (s0 : St) (p0 : ByteArray) (gl0 : GlobOk s0) (A9 : Option Addr) (e10 : Nat) (t : ((List Int) × Int)) (g : Regs) (s59 : St) (K : Kont) (Q : Out → St → Prop) (h : Inv37_1 s0 p0 gl0 A9 e10 t g s59) :
    Rf (pb37_1 n p0 t) (fun r => ∀ e g' s', LK (Inv37_1 s0 p0 gl0 A9 e10) (Ex37_1 s0 p0 gl0 A9 e10) r e g' s' → Ev (K e g' s') Q) (fun _ => Q) (kBody E 37 n [.b, .b, .a, .b, .a, .a] g s59 K) := by
  obtain ⟨y7, x8⟩ := t
  obtain ⟨rfl, h62, C60⟩ := h
  rw [e37_body0 n]
  unfold pb37_1
  refine Rf.gen fun H Q hH hQ => ?_
  try dsimp only
  refine Rf.ite ?_ ?_
  · refine Rf.subS fun z63 => ?_
    refine Rf.call0 C60 (t38 n z63 s59 (C60.gl rfl gl0)) ?_
    rintro r64 _ s65 rfl h68
    have C69 : Cx s0.next [] [] s0 s65 [] [(On.mk (rI .i64) y7 A9 (Int.toNat (p0.size : Nat)) 3 true e10)] [] := h68 [] (by simp) List.Pairwise.nil
    refine (Rf.asTup (Rf.unc (Rf.asI (Rf.unc (Rf.asI (Rf.unn ?_))))))
    refine Rf.pj fun J70 J70' hJ70 hJ70' => ?_
    have J70h : ∀ (b71 : Bool) (h87 : ((List.replicate (Int.toNat (p0.size : Nat)) (0 : Int))).length = (y7).length) (_ : Cx s0.next [] [] s0 s65 [] [(On.mk (rI .i64) y7 A9 (Int.toNat (p0.size : Nat)) 3 true e10)] []), Rf (J70 b71) H Q (J70' b71) := by
      subst hJ70
      subst hJ70'
      intro b71 h87 C73
      refine Rf.ite ?_ ?_
      · refine Rf.asSl ?_
        refine Rf.eltW (j := 0) C73 rfl (by first | rfl | assumption | (simp only [List.length_set]; done) | (simp only [List.length_set]; assumption) | (simp only [List.length_set]; omega) | (congr 1 <;> omega) | (congr 1 <;> simp only [List.length_set] <;> omega) | (simp only [List.length_set, *]; done)) rfl fun x74 i75 o76 h77 h78 h79 h80 => ?_
        refine Rf.pjl ?_
        refine Rf.stoW 0 C73 rfl NoRow.nil (fl_cons rI_fl fl_nil) rfl h78 h79 h80 rI_mk fun s84 (C85 : Cx s0.next [] [] s0 s84 [] [(On.mk (rI .i64) (List.set y7 (x8).toNat (-1)) A9 (Int.toNat (p0.size : Nat)) 3 true e10)] []) => ?_
        subst hH; subst hQ
        exact Rf.leaf fun h => h _ _ _ ⟨rfl, (by first | rfl | assumption | (simp only [List.length_set]; done) | (simp only [List.length_set]; assumption) | (simp only [List.length_set]; omega) | (congr 1 <;> omega) | (congr 1 <;> simp only [List.length_set] <;> omega) | (simp only [List.length_set, *]; done)), (by first | rfl | assumption | (simp only [List.length_set]; done) | (simp only [List.length_set]; assumption) | (simp only [List.length_set]; omega) | (congr 1 <;> omega) | (congr 1 <;> simp only [List.length_set] <;> omega) | (simp only [List.length_set, *]; done)), (C85.sub (List.Sublist.refl _) (List.Sublist.refl _) (List.Sublist.refl _))⟩
      · refine Rf.asSl ?_
        refine Rf.eltW (j := 0) C73 rfl (by first | rfl | assumption | (simp only [List.length_set]; done) | (simp only [List.length_set]; assumption) | (simp only [List.length_set]; omega) | (congr 1 <;> omega) | (congr 1 <;> simp only [List.length_set] <;> omega) | (simp only [List.length_set, *]; done)) rfl fun x88 i89 o90 h91 h92 h93 h94 => ?_
        refine Rf.pjl ?_
        refine Rf.stoW 0 C73 rfl NoRow.nil (fl_cons rI_fl fl_nil) rfl h92 h93 h94 rI_mk fun s98 (C99 : Cx s0.next [] [] s0 s98 [] [(On.mk (rI .i64) (List.set y7 (x8).toNat r64.2) A9 (Int.toNat (p0.size : Nat)) 3 true e10)] []) => ?_
        subst hH; subst hQ
        exact Rf.leaf fun h => h _ _ _ ⟨rfl, (by first | rfl | assumption | (simp only [List.length_set]; done) | (simp only [List.length_set]; assumption) | (simp only [List.length_set]; omega) | (congr 1 <;> omega) | (congr 1 <;> simp only [List.length_set] <;> omega) | (simp only [List.length_set, *]; done)), (by first | rfl | assumption | (simp only [List.length_set]; done) | (simp only [List.length_set]; assumption) | (simp only [List.length_set]; omega) | (congr 1 <;> omega) | (congr 1 <;> simp only [List.length_set] <;> omega) | (simp only [List.length_set, *]; done)), (C99.sub (List.Sublist.refl _) (List.Sublist.refl _) (List.Sublist.refl _))⟩
    clear hJ70 hJ70'
    refine Rf.ite ?_ ?_
    · refine Rf.ite ?_ ?_
      · first | exact J70h true (by first | rfl | assumption | (simp only [List.length_set]; done) | (simp only [List.length_set]; assumption) | (simp only [List.length_set]; omega) | (congr 1 <;> omega) | (congr 1 <;> simp only [List.length_set] <;> omega) | (simp only [List.length_set, *]; done)) (C69.sub (List.Sublist.refl _) (List.Sublist.refl _) (List.Sublist.refl _)) | (refine Rf.cast ?_ (J70h true (by first | rfl | assumption | (simp only [List.length_set]; done) | (simp only [List.length_set]; assumption) | (simp only [List.length_set]; omega) | (congr 1 <;> omega) | (congr 1 <;> simp only [List.length_set] <;> omega) | (simp only [List.length_set, *]; done)) (C69.sub (List.Sublist.refl _) (List.Sublist.refl _) (List.Sublist.refl _))); first | rfl | assumption | (simp only [List.length_set]; done) | (simp only [List.length_set]; assumption) | (simp only [List.length_set]; omega) | (congr 1 <;> omega) | (congr 1 <;> simp only [List.length_set] <;> omega) | (simp only [List.length_set, *]; done))
      · refine Rf.ite ?_ ?_
        · first | exact J70h ((r64.1 : Int) != 10) (by first | rfl | assumption | (simp only [List.length_set]; done) | (simp only [List.length_set]; assumption) | (simp only [List.length_set]; omega) | (congr 1 <;> omega) | (congr 1 <;> simp only [List.length_set] <;> omega) | (simp only [List.length_set, *]; done)) (C69.sub (List.Sublist.refl _) (List.Sublist.refl _) (List.Sublist.refl _)) | (refine Rf.cast ?_ (J70h ((r64.1 : Int) != 10) (by first | rfl | assumption | (simp only [List.length_set]; done) | (simp only [List.length_set]; assumption) | (simp only [List.length_set]; omega) | (congr 1 <;> omega) | (congr 1 <;> simp only [List.length_set] <;> omega) | (simp only [List.length_set, *]; done)) (C69.sub (List.Sublist.refl _) (List.Sublist.refl _) (List.Sublist.refl _))); first | rfl | assumption | (simp only [List.length_set]; done) | (simp only [List.length_set]; assumption) | (simp only [List.length_set]; omega) | (congr 1 <;> omega) | (congr 1 <;> simp only [List.length_set] <;> omega) | (simp only [List.length_set, *]; done))
        · first | exact J70h false (by first | rfl | assumption | (simp only [List.length_set]; done) | (simp only [List.length_set]; assumption) | (simp only [List.length_set]; omega) | (congr 1 <;> omega) | (congr 1 <;> simp only [List.length_set] <;> omega) | (simp only [List.length_set, *]; done)) (C69.sub (List.Sublist.refl _) (List.Sublist.refl _) (List.Sublist.refl _)) | (refine Rf.cast ?_ (J70h false (by first | rfl | assumption | (simp only [List.length_set]; done) | (simp only [List.length_set]; assumption) | (simp only [List.length_set]; omega) | (congr 1 <;> omega) | (congr 1 <;> simp only [List.length_set] <;> omega) | (simp only [List.length_set, *]; done)) (C69.sub (List.Sublist.refl _) (List.Sublist.refl _) (List.Sublist.refl _))); first | rfl | assumption | (simp only [List.length_set]; done) | (simp only [List.length_set]; assumption) | (simp only [List.length_set]; omega) | (congr 1 <;> omega) | (congr 1 <;> simp only [List.length_set] <;> omega) | (simp only [List.length_set, *]; done))
    · refine Rf.ite ?_ ?_
      · first | exact J70h ((r64.1 : Int) != 10) (by first | rfl | assumption | (simp only [List.length_set]; done) | (simp only [List.length_set]; assumption) | (simp only [List.length_set]; omega) | (congr 1 <;> omega) | (congr 1 <;> simp only [List.length_set] <;> omega) | (simp only [List.length_set, *]; done)) (C69.sub (List.Sublist.refl _) (List.Sublist.refl _) (List.Sublist.refl _)) | (refine Rf.cast ?_ (J70h ((r64.1 : Int) != 10) (by first | rfl | assumption | (simp only [List.length_set]; done) | (simp only [List.length_set]; assumption) | (simp only [List.length_set]; omega) | (congr 1 <;> omega) | (congr 1 <;> simp only [List.length_set] <;> omega) | (simp only [List.length_set, *]; done)) (C69.sub (List.Sublist.refl _) (List.Sublist.refl _) (List.Sublist.refl _))); first | rfl | assumption | (simp only [List.length_set]; done) | (simp only [List.length_set]; assumption) | (simp only [List.length_set]; omega) | (congr 1 <;> omega) | (congr 1 <;> simp only [List.length_set] <;> omega) | (simp only [List.length_set, *]; done))
      · first | exact J70h false (by first | rfl | assumption | (simp only [List.length_set]; done) | (simp only [List.length_set]; assumption) | (simp only [List.length_set]; omega) | (congr 1 <;> omega) | (congr 1 <;> simp only [List.length_set] <;> omega) | (simp only [List.length_set, *]; done)) (C69.sub (List.Sublist.refl _) (List.Sublist.refl _) (List.Sublist.refl _)) | (refine Rf.cast ?_ (J70h false (by first | rfl | assumption | (simp only [List.length_set]; done) | (simp only [List.length_set]; assumption) | (simp only [List.length_set]; omega) | (congr 1 <;> omega) | (congr 1 <;> simp only [List.length_set] <;> omega) | (simp only [List.length_set, *]; done)) (C69.sub (List.Sublist.refl _) (List.Sublist.refl _) (List.Sublist.refl _))); first | rfl | assumption | (simp only [List.length_set]; done) | (simp only [List.length_set]; assumption) | (simp only [List.length_set]; omega) | (congr 1 <;> omega) | (congr 1 <;> simp only [List.length_set] <;> omega) | (simp only [List.length_set, *]; done))
  · subst hH; subst hQ
    exact Rf.leaf fun h => h _ _ _ ⟨rfl, (by first | rfl | assumption | (simp only [List.length_set]; done) | (simp only [List.length_set]; assumption) | (simp only [List.length_set]; omega) | (congr 1 <;> omega) | (congr 1 <;> simp only [List.length_set] <;> omega) | (simp only [List.length_set, *]; done)), (by first | rfl | assumption | (simp only [List.length_set]; done) | (simp only [List.length_set]; assumption) | (simp only [List.length_set]; omega) | (congr 1 <;> omega) | (congr 1 <;> simp only [List.length_set] <;> omega) | (simp only [List.length_set, *]; done)), (C60.sub (List.Sublist.refl _) (List.Sublist.refl _) (List.Sublist.refl _))⟩
abbrev P37 (N : Nat) (X : List Nat) (r : (List Int)) (v : Value) (s : St) : Prop := ∃ (A0 : Option Addr) (c0 : Nat) (e0 : Nat), v = (Value.slice A0 (r).length c0) ∧ (On.mk (rI .i64) r A0 c0 3 true e0).holds N X s
def p37 : Nat → ByteArray → Option (List Int)
  | 0, _ => none
  | n + 1, p0 => (mkP 8 (p0.size : Nat) (p0.size : Nat) (0 : Int) (fun y4 => (((loopP (pb37_1 n p0) n ((List.replicate (Int.toNat (p0.size : Nat)) (0 : Int)), 0)).bind fun t104 => (some (t104.1 : (List Int)))))))
theorem t37 (k : Nat) (p0 : ByteArray) (s0 : St) (gl0 : GlobOk s0) :
    Rf (p37 k p0) (fun _ => True) (fun r => RtC s0.next [] [] s0 (P37 s0.next [] r)) (acall E k 37 [(Value.string p0)] s0) := by
  cases k with
  | zero => exact Rf.none
  | succ n =>
    rw [e37 n]
    rw [p37]
    refine Rf.gen fun H Q hH hQ => ?_
    have C0 : Cx s0.next [] [] s0 s0 [] [] [] := Cx.start s0
    refine Rf.kmake (r := (rI .i64)) (z := (0 : Int)) C0 u59 (by kernel_rfl) (by kernel_rfl) (fun _ => rI_mk) (by decide) fun s1 (C2 : Cx s0.next [] [] s0 s1 [] [(On.mk (rI .i64) (List.replicate (Int.toNat (p0.size : Nat)) (0 : Int)) (some ⟨s0.next, 0, none⟩) (Int.toNat (p0.size : Nat)) 3 true s0.next)] []) => ?_
    refine Rf.loop (Inv := Inv37_1 s0 p0 gl0 (some ⟨s0.next, 0, none⟩) s0.next) (Ex := Ex37_1 s0 p0 gl0 (some ⟨s0.next, 0, none⟩) s0.next) (x37_1 s0 p0 gl0 (some ⟨s0.next, 0, none⟩) s0.next) (fun t g s K Q h => b37_1 n s0 p0 gl0 (some ⟨s0.next, 0, none⟩) s0.next t g s K Q h) n _ _ _ ⟨rfl, (by first | rfl | assumption | (simp only [List.length_set]; done) | (simp only [List.length_set]; assumption) | (simp only [List.length_set]; omega) | (congr 1 <;> omega) | (congr 1 <;> simp only [List.length_set] <;> omega) | (simp only [List.length_set, *]; done)), (C2.sub (List.Sublist.refl _) (List.Sublist.refl _) (List.Sublist.refl _))⟩ ?_
    intro t104 e g s153 h
    obtain ⟨rfl, rfl, h155, C154⟩ := h
    rw [e37_after0_exit0 n]
    subst hH; subst hQ
    exact Rf.leaf fun _ => Ev.done (Rf.ret C154 ⟨_, _, _, (by first | rfl | assumption | (simp only [List.length_set]; done) | (simp only [List.length_set]; assumption) | (simp only [List.length_set]; omega) | (congr 1 <;> omega) | (congr 1 <;> simp only [List.length_set] <;> omega) | (simp only [List.length_set, *]; done)), C154.own _ m0⟩)
-- 16 "brindlewood/source.Check"
abbrev Inv16_1 (s0 : St) (p0 : ByteArray) (gl0 : GlobOk s0) (i12 : Nat) (i13 : Nat) (t : Nat) (g : Regs) (s : St) : Prop := ∃ (w58 : Value) (w59 : Value), g = (rg 41 [(0, (Value.string p0)), (2, (Value.pointer (some ⟨i13, 0, none⟩))), (3, w58), (12, (Value.pointer (some ⟨i12, 0, none⟩))), (37, w59)]) ∧ Cx s0.next [] [] s0 s [(i12, AObj.siter p0 t), (i13, AObj.box 24 [(Value.int .i64 0), (Value.int .i64 0)])] [] []
abbrev Ex16_1 (s0 : St) (p0 : ByteArray) (gl0 : GlobOk s0) (i12 : Nat) (i13 : Nat) (t : (Int ⊕ Nat)) (e : X) (g : Regs) (s : St) : Prop := match t with
  | (.inl t) => e = .ret ∧ g = (rg 41 [(2, (Value.pointer (some ⟨i13, 0, none⟩)))]) ∧ Cx s0.next [] [] s0 s [(i13, AObj.box 24 [(Value.int .i64 1), (Value.int .i64 t)])] [] []
  | (.inr t) => e = .exit 0 ∧ g = (rg 41 [(0, (Value.string p0)), (2, (Value.pointer (some ⟨i13, 0, none⟩))), (12, (Value.pointer (some ⟨i12, 0, none⟩))), (13, (Value.tuple #[(Value.bool false)])), (14, (Value.bool false))]) ∧ Cx s0.next [] [] s0 s [(i12, AObj.siter p0 t), (i13, AObj.box 24 [(Value.int .i64 0), (Value.int .i64 0)])] [] []
theorem x16_1 (s0 : St) (p0 : ByteArray) (gl0 : GlobOk s0) (i12 : Nat) (i13 : Nat) (t : (Int ⊕ Nat)) (e : X) (g : Regs) (s : St) (h : Ex16_1 s0 p0 gl0 i12 i13 t e g s) : e ≠ .normal := by
  rcases t with t | t
  · obtain ⟨h, _⟩ := h
    rw [h]; intro hh; cases hh
  · obtain ⟨h, _⟩ := h
    rw [h]; intro hh; cases hh
def pb16_1 (n : Nat) (p0 : ByteArray) (t : Nat) : Option (Nat ⊕ (Int ⊕ Nat)) :=
  nxP p0 t (fun x60 x61 => (((subP p0 x60 (p0.size : Nat) (fun z64 => (p38 n z64).bind fun r65 => (pj (fun (b72 : Bool) => if b72 then (((some (.inr (.inl x60))))) else ((some (.inl (t + (Utf8.decode p0 t).2))))) (fun J71 => if (decide ((x61 : Int) < 32)) then (if ((x61 : Int) != 10) then ((J71 true)) else (if ((x61 : Int) == 65533) then ((J71 ((r65.2 : Int) == 1))) else ((J71 false)))) else (if ((x61 : Int) == 65533) then ((J71 ((r65.2 : Int) == 1))) else ((J71 false)))))))))) ((((some (.inr (.inr t))))))
theorem b16_1 (n : Nat) (s0 : St) (p0 : ByteArray) (gl0 : GlobOk s0) (i12 : Nat) (i13 : Nat) (n11 : Nat) (g : Regs) (s55 : St) (K : Kont) (Q : Out → St → Prop) (h : Inv16_1 s0 p0 gl0 i12 i13 n11 g s55) :
    Rf (pb16_1 n p0 n11) (fun r => ∀ e g' s', LK (Inv16_1 s0 p0 gl0 i12 i13) (Ex16_1 s0 p0 gl0 i12 i13) r e g' s' → Ev (K e g' s') Q) (fun _ => Q) (kBody E 16 n [.b, .b, .a, .b, .a, .a] g s55 K) := by
  obtain ⟨w58, w59, rfl, C56⟩ := h
  rw [e16_body0 n]
  unfold pb16_1
  refine Rf.gen fun H Q hH hQ => ?_
  refine Rf.nxt 0 C56 rfl (fun x60 x61 s62 (C63 : Cx s0.next [] [] s0 s62 [(i12, AObj.siter p0 (n11 + (Utf8.decode p0 n11).2)), (i13, AObj.box 24 [(Value.int .i64 0), (Value.int .i64 0)])] [] []) => ?_) ?_
  · refine Rf.subS fun z64 => ?_
    refine Rf.call0 C63 (t38 n z64 s62 (C63.gl rfl gl0)) ?_
    rintro r65 _ s66 rfl h69
    have C70 : Cx s0.next [] [] s0 s66 [(i12, AObj.siter p0 (n11 + (Utf8.decode p0 n11).2)), (i13, AObj.box 24 [(Value.int .i64 0), (Value.int .i64 0)])] [] [] := h69 [] (by simp) List.Pairwise.nil
    refine (Rf.asTup (Rf.unc (Rf.asI (Rf.unc (Rf.asI (Rf.unn ?_))))))
    refine Rf.pj fun J71 J71' hJ71 hJ71' => ?_
    have J71h : ∀ (b72 : Bool) (_ : Cx s0.next [] [] s0 s66 [(i12, AObj.siter p0 (n11 + (Utf8.decode p0 n11).2)), (i13, AObj.box 24 [(Value.int .i64 0), (Value.int .i64 0)])] [] []), Rf (J71 b72) H Q (J71' b72) := by
      subst hJ71
      subst hJ71'
      intro b72 C74
      refine Rf.ite ?_ ?_
      · refine Rf.sto 1 C74 rfl (by simp) rfl fun s75 (C76 : Cx s0.next [] [] s0 s75 [(i12, AObj.siter p0 (n11 + (Utf8.decode p0 n11).2)), (i13, AObj.box 24 [(Value.int .i64 1), (Value.int .i64 x60)])] [] []) => ?_
        subst hH; subst hQ
        exact Rf.leaf fun h => h _ _ _ ⟨rfl, rfl, (C76.sub (List.Sublist.cons _ (List.Sublist.cons_cons _ List.Sublist.slnil)) (List.Sublist.refl _) (List.Sublist.refl _))⟩
      · subst hH; subst hQ
        exact Rf.leaf fun h => h _ _ _ ⟨rfl, _, _, rfl, (C74.sub (List.Sublist.refl _) (List.Sublist.refl _) (List.Sublist.refl _))⟩
    clear hJ71 hJ71'
    refine Rf.ite ?_ ?_
    · refine Rf.ite ?_ ?_
      · exact J71h true (C70.sub (List.Sublist.refl _) (List.Sublist.refl _) (List.Sublist.refl _))
      · refine Rf.ite ?_ ?_
        · exact J71h ((r65.2 : Int) == 1) (C70.sub (List.Sublist.refl _) (List.Sublist.refl _) (List.Sublist.refl _))
        · exact J71h false (C70.sub (List.Sublist.refl _) (List.Sublist.refl _) (List.Sublist.refl _))
    · refine Rf.ite ?_ ?_
      · exact J71h ((r65.2 : Int) == 1) (C70.sub (List.Sublist.refl _) (List.Sublist.refl _) (List.Sublist.refl _))
      · exact J71h false (C70.sub (List.Sublist.refl _) (List.Sublist.refl _) (List.Sublist.refl _))
  · subst hH; subst hQ
    exact Rf.leaf fun h => h _ _ _ ⟨rfl, rfl, (C56.sub (List.Sublist.refl _) (List.Sublist.refl _) (List.Sublist.refl _))⟩
abbrev P16 (N : Nat) (X : List Nat) (r : (Int × Int)) (v : Value) (s : St) : Prop := v = (Value.agg #[(Value.int .i64 r.1), (Value.int .i64 r.2)])
def p16 : Nat → ByteArray → Option (Int × Int)
  | 0, _ => none
  | n + 1, p0 => ((if (decide (((p0.size : Nat) : Int) > 16000)) then (((some ((3, (-1)) : (Int × Int))))) else ((((loopP (pb16_1 n p0) n 0).bind fun t174 => match t174 with | (.inl t79) => (some ((1, t79) : (Int × Int))) | (.inr t125) => ((some ((0, 0) : (Int × Int)))))))))
theorem t16 (k : Nat) (p0 : ByteArray) (s0 : St) (gl0 : GlobOk s0) :
    Rf (p16 k p0) (fun _ => True) (fun r => RtC s0.next [] [] s0 (P16 s0.next [] r)) (acall E k 16 [(Value.string p0)] s0) := by
  cases k with
  | zero => exact Rf.none
  | succ n =>
    rw [e16 n]
    rw [p16]
    refine Rf.gen fun H Q hH hQ => ?_
    have C0 : Cx s0.next [] [] s0 s0 [] [] [] := Cx.start s0
    refine Rf.new C0 fun s1 (C2 : Cx s0.next [] [] s0 s1 [(s0.next, AObj.box 24 [(Value.int .i64 0), (Value.int .i64 0)])] [] []) => ?_
    refine Rf.ite ?_ ?_
    · refine Rf.sto 0 C2 rfl (by simp) rfl fun s4 (C5 : Cx s0.next [] [] s0 s4 [(s0.next, AObj.box 24 [(Value.int .i64 3), (Value.int .i64 (-1))])] [] []) => ?_
      refine Rf.ldI (C5.at m0 rfl) ?_
      refine Rf.ldI (C5.at m0 rfl) ?_
      subst hH; subst hQ
      exact Rf.leaf fun _ => Ev.done (Rf.ret C5 rfl)
    · refine Rf.rng C2 fun s8 (C9 : Cx s0.next [] [] s0 s8 [(s1.next, AObj.siter p0 0), (s0.next, AObj.box 24 [(Value.int .i64 0), (Value.int .i64 0)])] [] []) => ?_
      refine Rf.loop (Inv := Inv16_1 s0 p0 gl0 s1.next s0.next) (Ex := Ex16_1 s0 p0 gl0 s1.next s0.next) (x16_1 s0 p0 gl0 s1.next s0.next) (fun t g s K Q h => b16_1 n s0 p0 gl0 s1.next s0.next t g s K Q h) n _ _ _ ⟨_, _, rfl, (C9.sub (List.Sublist.refl _) (List.Sublist.refl _) (List.Sublist.refl _))⟩ ?_
      intro t e g s h
      rcases t with t79 | t125
      · generalize s = s121 at h ⊢
        obtain ⟨rfl, rfl, C122⟩ := h
        rw [e16_after0_ret n]
        refine Rf.ldI (C122.at m0 rfl) ?_
        refine Rf.ldI (C122.at m0 rfl) ?_
        subst hH; subst hQ
        exact Rf.leaf fun _ => Ev.done (Rf.ret C122 rfl)
      · generalize s = s168 at h ⊢
        obtain ⟨rfl, rfl, C169⟩ := h
        rw [e16_after0_exit0 n]
        refine Rf.sto 1 C169 rfl (by simp) rfl fun s170 (C171 : Cx s0.next [] [] s0 s170 [(s1.next, AObj.siter p0 t125), (s0.next, AObj.box 24 [(Value.int .i64 0), (Value.int .i64 0)])] [] []) => ?_
        refine Rf.ldI (C171.at m1 rfl) ?_
        refine Rf.ldI (C171.at m1 rfl) ?_
        subst hH; subst hQ
        exact Rf.leaf fun _ => Ev.done (Rf.ret C171 rfl)
-- 14 "brindlewood/source.Lines"
abbrev P14 (N : Nat) (X : List Nat) (r : (Int × (Int × Int))) (v : Value) (s : St) : Prop := v = (Value.tuple #[(Value.int .i64 r.1), (Value.agg #[(Value.int .i64 r.2.1), (Value.int .i64 r.2.2)])])
def p14 : Nat → ByteArray → Option (Int × (Int × Int))
  | 0, _ => none
  | n + 1, p0 => ((p16 n p0).bind fun r4 => ((if (!(((r4.1 : Int) == 0) && (((r4.2 : Int) == 0) && true))) then (((some ((0, (r4.1, r4.2)) : (Int × (Int × Int)))))) else (((p34 n p0 (⟨#[10]⟩ : ByteArray)).bind fun r23 => (some (((IntKind.wrap .i64 (r23 + 1)), (0, 0)) : (Int × (Int × Int)))))))))
theorem t14 (k : Nat) (p0 : ByteArray) (s0 : St) (gl0 : GlobOk s0) :
    Rf (p14 k p0) (fun _ => True) (fun r => RtC s0.next [] [] s0 (P14 s0.next [] r)) (acall E k 14 [(Value.string p0)] s0) := by
  cases k with
  | zero => exact Rf.none
  | succ n =>
    rw [e14 n]
    rw [p14]
    refine Rf.gen fun H Q hH hQ => ?_
    have C0 : Cx s0.next [] [] s0 s0 [] [] [] := Cx.start s0
    refine Rf.new C0 fun s1 (C2 : Cx s0.next [] [] s0 s1 [(s0.next, AObj.box 24 [(Value.int .i64 0), (Value.int .i64 0)])] [] []) => ?_
    refine Rf.call0 C2 (t16 n p0 s1 (C2.gl rfl gl0)) ?_
    rintro r4 _ s5 rfl h8
    have C9 : Cx s0.next [] [] s0 s5 [(s0.next, AObj.box 24 [(Value.int .i64 0), (Value.int .i64 0)])] [] [] := h8 [] (by simp) List.Pairwise.nil
    refine (Rf.asAgg (Rf.unc (Rf.asI (Rf.unc (Rf.asI (Rf.unn ?_))))))
    refine Rf.new C9 fun s10 (C11 : Cx s0.next [] [] s0 s10 [(s5.next, AObj.box 24 [(Value.int .i64 0), (Value.int .i64 0)]), (s0.next, AObj.box 24 [(Value.int .i64 0), (Value.int .i64 0)])] [] []) => ?_
    refine Rf.sto 0 C11 rfl (by simp) rfl fun s13 (C14 : Cx s0.next [] [] s0 s13 [(s5.next, AObj.box 24 [(Value.int .i64 r4.1), (Value.int .i64 r4.2)]), (s0.next, AObj.box 24 [(Value.int .i64 0), (Value.int .i64 0)])] [] []) => ?_
    refine Rf.ldI (C14.at m0 rfl) ?_
    refine Rf.ldI (C14.at m0 rfl) ?_
    refine Rf.ite ?_ ?_
    · refine Rf.ldI (C14.at m0 rfl) ?_
      refine Rf.ldI (C14.at m0 rfl) ?_
      refine Rf.sto 1 C14 rfl (by simp) rfl fun s19 (C20 : Cx s0.next [] [] s0 s19 [(s5.next, AObj.box 24 [(Value.int .i64 r4.1), (Value.int .i64 r4.2)]), (s0.next, AObj.box 24 [(Value.int .i64 r4.1), (Value.int .i64 r4.2)])] [] []) => ?_
      refine Rf.ldI (C20.at m1 rfl) ?_
      refine Rf.ldI (C20.at m1 rfl) ?_
      subst hH; subst hQ
      exact Rf.leaf fun _ => Ev.done (Rf.ret C20 rfl)
    · refine Rf.call0 C14 (t34 n p0 (⟨#[10]⟩ : ByteArray) s13 (C14.gl rfl gl0)) ?_
      rintro r23 _ s24 rfl h26
      have C27 : Cx s0.next [] [] s0 s24 [(s5.next, AObj.box 24 [(Value.int .i64 r4.1), (Value.int .i64 r4.2)]), (s0.next, AObj.box 24 [(Value.int .i64 0), (Value.int .i64 0)])] [] [] := h26 [] (by simp) List.Pairwise.nil
      refine (Rf.asI ?_)
      refine Rf.sto 1 C27 rfl (by simp) rfl fun s28 (C29 : Cx s0.next [] [] s0 s28 [(s5.next, AObj.box 24 [(Value.int .i64 r4.1), (Value.int .i64 r4.2)]), (s0.next, AObj.box 24 [(Value.int .i64 0), (Value.int .i64 0)])] [] []) => ?_
      refine Rf.ldI (C29.at m1 rfl) ?_
      refine Rf.ldI (C29.at m1 rfl) ?_
      subst hH; subst hQ
      exact Rf.leaf fun _ => Ev.done (Rf.ret C29 rfl)
-- 15 "brindlewood/source.Line"
abbrev P15 (N : Nat) (X : List Nat) (r : (ByteArray × (Int × Int))) (v : Value) (s : St) : Prop := v = (Value.tuple #[(Value.string r.1), (Value.agg #[(Value.int .i64 r.2.1), (Value.int .i64 r.2.2)])])
def p15 : Nat → ByteArray → Int → Option (ByteArray × (Int × Int))
  | 0, _, _ => none
  | n + 1, p0, p1 => ((p16 n p0).bind fun r4 => ((if (!(((r4.1 : Int) == 0) && (((r4.2 : Int) == 0) && true))) then (((some (((⟨#[]⟩ : ByteArray), (r4.1, r4.2)) : (ByteArray × (Int × Int)))))) else (((p36 n p0 p1).bind fun r23 => ((if (!r23.2.2) then (((some (((⟨#[]⟩ : ByteArray), (4, (-2))) : (ByteArray × (Int × Int)))))) else (((some ((r23.2.1, (0, 0)) : (ByteArray × (Int × Int)))))))))))))
theorem t15 (k : Nat) (p0 : ByteArray) (p1 : Int) (s0 : St) (gl0 : GlobOk s0) :
    Rf (p15 k p0 p1) (fun _ => True) (fun r => RtC s0.next [] [] s0 (P15 s0.next [] r)) (acall E k 15 [(Value.string p0), (Value.int .i64 p1)] s0) := by
  cases k with
  | zero => exact Rf.none
  | succ n =>
    rw [e15 n]
    rw [p15]
    refine Rf.gen fun H Q hH hQ => ?_
    have C0 : Cx s0.next [] [] s0 s0 [] [] [] := Cx.start s0
    refine Rf.new C0 fun s1 (C2 : Cx s0.next [] [] s0 s1 [(s0.next, AObj.box 24 [(Value.int .i64 0), (Value.int .i64 0)])] [] []) => ?_
    refine Rf.call0 C2 (t16 n p0 s1 (C2.gl rfl gl0)) ?_
    rintro r4 _ s5 rfl h8
    have C9 : Cx s0.next [] [] s0 s5 [(s0.next, AObj.box 24 [(Value.int .i64 0), (Value.int .i64 0)])] [] [] := h8 [] (by simp) List.Pairwise.nil
    refine (Rf.asAgg (Rf.unc (Rf.asI (Rf.unc (Rf.asI (Rf.unn ?_))))))
    refine Rf.new C9 fun s10 (C11 : Cx s0.next [] [] s0 s10 [(s5.next, AObj.box 24 [(Value.int .i64 0), (Value.int .i64 0)]), (s0.next, AObj.box 24 [(Value.int .i64 0), (Value.int .i64 0)])] [] []) => ?_
    refine Rf.sto 0 C11 rfl (by simp) rfl fun s13 (C14 : Cx s0.next [] [] s0 s13 [(s5.next, AObj.box 24 [(Value.int .i64 r4.1), (Value.int .i64 r4.2)]), (s0.next, AObj.box 24 [(Value.int .i64 0), (Value.int .i64 0)])] [] []) => ?_
    refine Rf.ldI (C14.at m0 rfl) ?_
    refine Rf.ldI (C14.at m0 rfl) ?_
    refine Rf.ite ?_ ?_
    · refine Rf.ldI (C14.at m0 rfl) ?_
      refine Rf.ldI (C14.at m0 rfl) ?_
      refine Rf.sto 1 C14 rfl (by simp) rfl fun s19 (C20 : Cx s0.next [] [] s0 s19 [(s5.next, AObj.box 24 [(Value.int .i64 r4.1), (Value.int .i64 r4.2)]), (s0.next, AObj.box 24 [(Value.int .i64 r4.1), (Value.int .i64 r4.2)])] [] []) => ?_
      refine Rf.ldI (C20.at m1 rfl) ?_
      refine Rf.ldI (C20.at m1 rfl) ?_
      subst hH; subst hQ
      exact Rf.leaf fun _ => Ev.done (Rf.ret C20 rfl)
    · refine Rf.call0 C14 (t36 n p0 p1 s13 (C14.gl rfl gl0)) ?_
      rintro r23 _ s24 rfl h28
      have C29 : Cx s0.next [] [] s0 s24 [(s5.next, AObj.box 24 [(Value.int .i64 r4.1), (Value.int .i64 r4.2)]), (s0.next, AObj.box 24 [(Value.int .i64 0), (Value.int .i64 0)])] [] [] := h28 [] (by simp) List.Pairwise.nil
      refine (Rf.asTup (Rf.unc (Rf.asI (Rf.unc (Rf.asS (Rf.unc (Rf.asB (Rf.unn ?_))))))))
      refine Rf.ite ?_ ?_
      · refine Rf.sto 1 C29 rfl (by simp) rfl fun s30 (C31 : Cx s0.next [] [] s0 s30 [(s5.next, AObj.box 24 [(Value.int .i64 r4.1), (Value.int .i64 r4.2)]), (s0.next, AObj.box 24 [(Value.int .i64 4), (Value.int .i64 (-2))])] [] []) => ?_
        refine Rf.ldI (C31.at m1 rfl) ?_
        refine Rf.ldI (C31.at m1 rfl) ?_
        subst hH; subst hQ
        exact Rf.leaf fun _ => Ev.done (Rf.ret C31 rfl)
      · refine Rf.sto 1 C29 rfl (by simp) rfl fun s34 (C35 : Cx s0.next [] [] s0 s34 [(s5.next, AObj.box 24 [(Value.int .i64 r4.1), (Value.int .i64 r4.2)]), (s0.next, AObj.box 24 [(Value.int .i64 0), (Value.int .i64 0)])] [] []) => ?_
        refine Rf.ldI (C35.at m1 rfl) ?_
        refine Rf.ldI (C35.at m1 rfl) ?_
        subst hH; subst hQ
        exact Rf.leaf fun _ => Ev.done (Rf.ret C35 rfl)
-- 10 "brindlewood/source.Position"
abbrev P10 (N : Nat) (X : List Nat) (r : (Int × Int × (Int × Int))) (v : Value) (s : St) : Prop := v = (Value.tuple #[(Value.int .i64 r.1), (Value.int .i64 r.2.1), (Value.agg #[(Value.int .i64 r.2.2.1), (Value.int .i64 r.2.2.2)])])
def p10 : Nat → ByteArray → Int → Option (Int × Int × (Int × Int))
  | 0, _, _ => none
  | n + 1, p0, p1 => ((p16 n p0).bind fun r4 => ((if (!(((r4.1 : Int) == 0) && (((r4.2 : Int) == 0) && true))) then (((some ((0, 0, (r4.1, r4.2)) : (Int × Int × (Int × Int)))))) else ((pj (fun (b24 : Bool) => if b24 then (((some ((0, 0, (4, (-2))) : (Int × Int × (Int × Int)))))) else (pj (fun (b36 : Bool) => if b36 then (((some ((0, 0, (6, (-2))) : (Int × Int × (Int × Int)))))) else ((subP p0 0 p1 (fun z46 => ((p33 n z46 10).bind fun r47 => ((p34 n z46 (⟨#[10]⟩ : ByteArray)).bind fun r52 => subP z46 (IntKind.wrap .i64 (r47 + 1)) (z46.size : Nat) (fun z57 => (p35 n z57).bind fun r58 => (some (((IntKind.wrap .i64 (r52 + 1)), (IntKind.wrap .i64 (r58 + 1)), (0, 0)) : (Int × Int × (Int × Int))))))))))) (fun J35 => if (decide ((p1 : Int) < (p0.size : Nat))) then (idxP p0 p1 (fun x29 => (p32 n x29).bind fun r30 => (J35 (!r30)))) else ((J35 false))))) (fun J23 => if (decide ((p1 : Int) < 0)) then ((J23 true)) else ((J23 (decide ((p1 : Int) > (p0.size : Nat)))))))))))
theorem t10 (k : Nat) (p0 : ByteArray) (p1 : Int) (s0 : St) (gl0 : GlobOk s0) :
    Rf (p10 k p0 p1) (fun _ => True) (fun r => RtC s0.next [] [] s0 (P10 s0.next [] r)) (acall E k 10 [(Value.string p0), (Value.int .i64 p1)] s0) := by
  cases k with
  | zero => exact Rf.none
  | succ n =>
    rw [e10 n]
    rw [p10]
    refine Rf.gen fun H Q hH hQ => ?_
    have C0 : Cx s0.next [] [] s0 s0 [] [] [] := Cx.start s0
    refine Rf.new C0 fun s1 (C2 : Cx s0.next [] [] s0 s1 [(s0.next, AObj.box 24 [(Value.int .i64 0), (Value.int .i64 0)])] [] []) => ?_
    refine Rf.call0 C2 (t16 n p0 s1 (C2.gl rfl gl0)) ?_
    rintro r4 _ s5 rfl h8
    have C9 : Cx s0.next [] [] s0 s5 [(s0.next, AObj.box 24 [(Value.int .i64 0), (Value.int .i64 0)])] [] [] := h8 [] (by simp) List.Pairwise.nil
    refine (Rf.asAgg (Rf.unc (Rf.asI (Rf.unc (Rf.asI (Rf.unn ?_))))))
    refine Rf.new C9 fun s10 (C11 : Cx s0.next [] [] s0 s10 [(s5.next, AObj.box 24 [(Value.int .i64 0), (Value.int .i64 0)]), (s0.next, AObj.box 24 [(Value.int .i64 0), (Value.int .i64 0)])] [] []) => ?_
    refine Rf.sto 0 C11 rfl (by simp) rfl fun s13 (C14 : Cx s0.next [] [] s0 s13 [(s5.next, AObj.box 24 [(Value.int .i64 r4.1), (Value.int .i64 r4.2)]), (s0.next, AObj.box 24 [(Value.int .i64 0), (Value.int .i64 0)])] [] []) => ?_
    refine Rf.ldI (C14.at m0 rfl) ?_
    refine Rf.ldI (C14.at m0 rfl) ?_
    refine Rf.ite ?_ ?_
    · refine Rf.ldI (C14.at m0 rfl) ?_
      refine Rf.ldI (C14.at m0 rfl) ?_
      refine Rf.sto 1 C14 rfl (by simp) rfl fun s19 (C20 : Cx s0.next [] [] s0 s19 [(s5.next, AObj.box 24 [(Value.int .i64 r4.1), (Value.int .i64 r4.2)]), (s0.next, AObj.box 24 [(Value.int .i64 r4.1), (Value.int .i64 r4.2)])] [] []) => ?_
      refine Rf.ldI (C20.at m1 rfl) ?_
      refine Rf.ldI (C20.at m1 rfl) ?_
      subst hH; subst hQ
      exact Rf.leaf fun _ => Ev.done (Rf.ret C20 rfl)
    · refine Rf.pj fun J23 J23' hJ23 hJ23' => ?_
      have J23h : ∀ (b24 : Bool) (_ : Cx s0.next [] [] s0 s13 [(s0.next, AObj.box 24 [(Value.int .i64 0), (Value.int .i64 0)])] [] []), Rf (J23 b24) H Q (J23' b24) := by
        subst hJ23
        subst hJ23'
        intro b24 C26
        refine Rf.ite ?_ ?_
        · refine Rf.sto 0 C26 rfl (by simp) rfl fun s27 (C28 : Cx s0.next [] [] s0 s27 [(s0.next, AObj.box 24 [(Value.int .i64 4), (Value.int .i64 (-2))])] [] []) => ?_
          refine Rf.ldI (C28.at m0 rfl) ?_
          refine Rf.ldI (C28.at m0 rfl) ?_
          subst hH; subst hQ
          exact Rf.leaf fun _ => Ev.done (Rf.ret C28 rfl)
        · refine Rf.pj fun J35 J35' hJ35 hJ35' => ?_
          have J35h : ∀ (b36 : Bool) (s38 : St) (_ : Cx s0.next [] [] s0 s38 [(s0.next, AObj.box 24 [(Value.int .i64 0), (Value.int .i64 0)])] [] []), Rf (J35 b36) H Q (J35' b36 s38) := by
            subst hJ35
            subst hJ35'
            intro b36 s38 C39
            refine Rf.ite ?_ ?_
            · refine Rf.sto 0 C39 rfl (by simp) rfl fun s40 (C41 : Cx s0.next [] [] s0 s40 [(s0.next, AObj.box 24 [(Value.int .i64 6), (Value.int .i64 (-2))])] [] []) => ?_
              refine Rf.ldI (C41.at m0 rfl) ?_
              refine Rf.ldI (C41.at m0 rfl) ?_
              subst hH; subst hQ
              exact Rf.leaf fun _ => Ev.done (Rf.ret C41 rfl)
            · refine Rf.subS fun z46 => ?_
              refine Rf.call0 C39 (t33 n z46 10 s38 (C39.gl rfl gl0)) ?_
              rintro r47 _ s48 rfl h50
              have C51 : Cx s0.next [] [] s0 s48 [(s0.next, AObj.box 24 [(Value.int .i64 0), (Value.int .i64 0)])] [] [] := h50 [] (by simp) List.Pairwise.nil
              refine (Rf.asI ?_)
              refine Rf.callP (t34 n z46 (⟨#[10]⟩ : ByteArray) { s48 with low := s48.next } (C51.lw.gl rfl gl0)) ?_
              rintro r52 _ s53 rfl h56
              refine (Rf.asI ?_)
              refine Rf.ifp (by simpa using h56) ?_
              refine Rf.subS fun z57 => ?_
              refine Rf.callP (t35 n z57 { s48 with low := s48.next } (C51.lw.gl rfl gl0)) ?_
              rintro r58 _ s59 rfl h62
              refine (Rf.asI ?_)
              refine Rf.ifp (by simpa using h62) ?_
              refine Rf.sto 0 C51 rfl (by simp) rfl fun s63 (C64 : Cx s0.next [] [] s0 s63 [(s0.next, AObj.box 24 [(Value.int .i64 0), (Value.int .i64 0)])] [] []) => ?_
              refine Rf.ldI (C64.at m0 rfl) ?_
              refine Rf.ldI (C64.at m0 rfl) ?_
              subst hH; subst hQ
              exact Rf.leaf fun _ => Ev.done (Rf.ret C64 rfl)
          clear hJ35 hJ35'
          refine Rf.ite ?_ ?_
          · refine Rf.idx fun x29 => ?_
            refine Rf.call0 C26 (t32 n x29 s13 (C26.gl rfl gl0)) ?_
            rintro r30 _ s31 rfl h33
            have C34 : Cx s0.next [] [] s0 s31 [(s0.next, AObj.box 24 [(Value.int .i64 0), (Value.int .i64 0)])] [] [] := h33 [] (by simp) List.Pairwise.nil
            refine (Rf.asB ?_)
            exact J35h (!r30) _ (C34.sub (List.Sublist.refl _) (List.Sublist.refl _) (List.Sublist.refl _))
          · exact J35h false _ (C26.sub (List.Sublist.refl _) (List.Sublist.refl _) (List.Sublist.refl _))
      clear hJ23 hJ23'
      refine Rf.ite ?_ ?_
      · exact J23h true (C14.sub (List.Sublist.cons _ (List.Sublist.cons_cons _ List.Sublist.slnil)) (List.Sublist.refl _) (List.Sublist.refl _))
      · exact J23h (decide ((p1 : Int) > (p0.size : Nat))) (C14.sub (List.Sublist.cons _ (List.Sublist.cons_cons _ List.Sublist.slnil)) (List.Sublist.refl _) (List.Sublist.refl _))
-- 11 "brindlewood/source.Offset"
abbrev Inv11_1 (s0 : St) (p0 : ByteArray) (p1 : Int) (p2 : Int) (gl0 : GlobOk s0) (i52 : Nat) (i53 : Nat) (r23 : (Int × ByteArray × Bool)) (t : (Int × Nat)) (g : Regs) (s : St) : Prop := ∃ (w116 : Value) (w117 : Value), g = (rg 59 [(2, (Value.int .i64 t.1)), (7, (Value.pointer (some ⟨i53, 0, none⟩))), (9, (Value.int .i64 r23.1)), (10, (Value.string r23.2.1)), (13, w116), (42, (Value.pointer (some ⟨i52, 0, none⟩))), (49, w117)]) ∧ Cx s0.next [] [] s0 s [(i52, AObj.siter r23.2.1 t.2), (i53, AObj.box 24 [(Value.int .i64 0), (Value.int .i64 0)])] [] []
abbrev Ex11_1 (s0 : St) (p0 : ByteArray) (p1 : Int) (p2 : Int) (gl0 : GlobOk s0) (i52 : Nat) (i53 : Nat) (r23 : (Int × ByteArray × Bool)) (t : (Int ⊕ (Int × Nat))) (e : X) (g : Regs) (s : St) : Prop := match t with
  | (.inl t) => e = .ret ∧ g = (rg 59 [(6, (Value.int .i64 t)), (7, (Value.pointer (some ⟨i53, 0, none⟩)))]) ∧ Cx s0.next [] [] s0 s [(i53, AObj.box 24 [(Value.int .i64 0), (Value.int .i64 0)])] [] []
  | (.inr t) => e = .exit 0 ∧ g = (rg 59 [(2, (Value.int .i64 t.1)), (7, (Value.pointer (some ⟨i53, 0, none⟩))), (9, (Value.int .i64 r23.1)), (10, (Value.string r23.2.1)), (42, (Value.pointer (some ⟨i52, 0, none⟩))), (43, (Value.tuple #[(Value.bool false)])), (44, (Value.bool false))]) ∧ Cx s0.next [] [] s0 s [(i52, AObj.siter r23.2.1 t.2), (i53, AObj.box 24 [(Value.int .i64 0), (Value.int .i64 0)])] [] []
theorem x11_1 (s0 : St) (p0 : ByteArray) (p1 : Int) (p2 : Int) (gl0 : GlobOk s0) (i52 : Nat) (i53 : Nat) (r23 : (Int × ByteArray × Bool)) (t : (Int ⊕ (Int × Nat))) (e : X) (g : Regs) (s : St) (h : Ex11_1 s0 p0 p1 p2 gl0 i52 i53 r23 t e g s) : e ≠ .normal := by
  rcases t with t | t
  · obtain ⟨h, _⟩ := h
    rw [h]; intro hh; cases hh
  · obtain ⟨h, _⟩ := h
    rw [h]; intro hh; cases hh
def pb11_1 (n : Nat)  (r23 : (Int × ByteArray × Bool)) (t : (Int × Nat)) : Option ((Int × Nat) ⊕ (Int ⊕ (Int × Nat))) :=
  nxP r23.2.1 t.2 (fun x118 x119 => (((((if (((IntKind.wrap .i64 (t.1 - 1)) : Int) == 0) then (((some (.inr (.inl (IntKind.wrap .i64 (r23.1 + x118))))))) else ((some (.inl ((IntKind.wrap .i64 (t.1 - 1)), (t.2 + (Utf8.decode r23.2.1 t.2).2))))))))))) ((((some (.inr (.inr (t.1, t.2)))))))
theorem b11_1 (n : Nat) (s0 : St) (p0 : ByteArray) (p1 : Int) (p2 : Int) (gl0 : GlobOk s0) (i52 : Nat) (i53 : Nat) (r23 : (Int × ByteArray × Bool)) (t : (Int × Nat)) (g : Regs) (s113 : St) (K : Kont) (Q : Out → St → Prop) (h : Inv11_1 s0 p0 p1 p2 gl0 i52 i53 r23 t g s113) :
    Rf (pb11_1 n r23 t) (fun r => ∀ e g' s', LK (Inv11_1 s0 p0 p1 p2 gl0 i52 i53 r23) (Ex11_1 s0 p0 p1 p2 gl0 i52 i53 r23) r e g' s' → Ev (K e g' s') Q) (fun _ => Q) (kBody E 11 n [.b, .b, .b, .b, .b, .b, .a, .b, .a, .a] g s113 K) := by
  obtain ⟨x50, n51⟩ := t
  obtain ⟨w116, w117, rfl, C114⟩ := h
  rw [e11_body0 n]
  unfold pb11_1
  refine Rf.gen fun H Q hH hQ => ?_
  try dsimp only
  refine Rf.nxt 0 C114 rfl (fun x118 x119 s120 (C121 : Cx s0.next [] [] s0 s120 [(i52, AObj.siter r23.2.1 (n51 + (Utf8.decode r23.2.1 n51).2)), (i53, AObj.box 24 [(Value.int .i64 0), (Value.int .i64 0)])] [] []) => ?_) ?_
  · refine Rf.ite ?_ ?_
    · refine Rf.sto 1 C121 rfl (by simp) rfl fun s122 (C123 : Cx s0.next [] [] s0 s122 [(i52, AObj.siter r23.2.1 (n51 + (Utf8.decode r23.2.1 n51).2)), (i53, AObj.box 24 [(Value.int .i64 0), (Value.int .i64 0)])] [] []) => ?_
      subst hH; subst hQ
      exact Rf.leaf fun h => h _ _ _ ⟨rfl, rfl, (C123.sub (List.Sublist.cons _ (List.Sublist.cons_cons _ List.Sublist.slnil)) (List.Sublist.refl _) (List.Sublist.refl _))⟩
    · subst hH; subst hQ
      exact Rf.leaf fun h => h _ _ _ ⟨rfl, _, _, rfl, (C121.sub (List.Sublist.refl _) (List.Sublist.refl _) (List.Sublist.refl _))⟩
  · subst hH; subst hQ
    exact Rf.leaf fun h => h _ _ _ ⟨rfl, rfl, (C114.sub (List.Sublist.refl _) (List.Sublist.refl _) (List.Sublist.refl _))⟩
abbrev P11 (N : Nat) (X : List Nat) (r : (Int × (Int × Int))) (v : Value) (s : St) : Prop := v = (Value.tuple #[(Value.int .i64 r.1), (Value.agg #[(Value.int .i64 r.2.1), (Value.int .i64 r.2.2)])])
def p11 : Nat → ByteArray → Int → Int → Option (Int × (Int × Int))
  | 0, _, _, _ => none
  | n + 1, p0, p1, p2 => ((p16 n p0).bind fun r4 => ((if (!(((r4.1 : Int) == 0) && (((r4.2 : Int) == 0) && true))) then (((some ((0, (r4.1, r4.2)) : (Int × (Int × Int)))))) else (((p36 n p0 p1).bind fun r23 => ((if (!r23.2.2) then (((some ((0, (4, (-2))) : (Int × (Int × Int)))))) else (((p35 n r23.2.1).bind fun r34 => (pj (fun (b40 : Bool) => if b40 then (((some ((0, (4, (-3))) : (Int × (Int × Int)))))) else ((((loopP (pb11_1 n r23) n (p2, 0)).bind fun t258 => match t258 with | (.inl t127) => (some ((t127, (0, 0)) : (Int × (Int × Int)))) | (.inr t191) => ((some (((IntKind.wrap .i64 (r23.1 + (r23.2.1.size : Nat))), (0, 0)) : (Int × (Int × Int))))))))) (fun J39 => if (decide ((p2 : Int) < 1)) then ((J39 true)) else ((J39 (decide ((p2 : Int) > (IntKind.wrap .i64 (r34 + 1)))))))))))))))))
theorem t11 (k : Nat) (p0 : ByteArray) (p1 : Int) (p2 : Int) (s0 : St) (gl0 : GlobOk s0) :
    Rf (p11 k p0 p1 p2) (fun _ => True) (fun r => RtC s0.next [] [] s0 (P11 s0.next [] r)) (acall E k 11 [(Value.string p0), (Value.int .i64 p1), (Value.int .i64 p2)] s0) := by
  cases k with
  | zero => exact Rf.none
  | succ n =>
    rw [e11 n]
    rw [p11]
    refine Rf.gen fun H Q hH hQ => ?_
    have C0 : Cx s0.next [] [] s0 s0 [] [] [] := Cx.start s0
    refine Rf.new C0 fun s1 (C2 : Cx s0.next [] [] s0 s1 [(s0.next, AObj.box 24 [(Value.int .i64 0), (Value.int .i64 0)])] [] []) => ?_
    refine Rf.call0 C2 (t16 n p0 s1 (C2.gl rfl gl0)) ?_
    rintro r4 _ s5 rfl h8
    have C9 : Cx s0.next [] [] s0 s5 [(s0.next, AObj.box 24 [(Value.int .i64 0), (Value.int .i64 0)])] [] [] := h8 [] (by simp) List.Pairwise.nil
    refine (Rf.asAgg (Rf.unc (Rf.asI (Rf.unc (Rf.asI (Rf.unn ?_))))))
    refine Rf.new C9 fun s10 (C11 : Cx s0.next [] [] s0 s10 [(s5.next, AObj.box 24 [(Value.int .i64 0), (Value.int .i64 0)]), (s0.next, AObj.box 24 [(Value.int .i64 0), (Value.int .i64 0)])] [] []) => ?_
    refine Rf.sto 0 C11 rfl (by simp) rfl fun s13 (C14 : Cx s0.next [] [] s0 s13 [(s5.next, AObj.box 24 [(Value.int .i64 r4.1), (Value.int .i64 r4.2)]), (s0.next, AObj.box 24 [(Value.int .i64 0), (Value.int .i64 0)])] [] []) => ?_
    refine Rf.ldI (C14.at m0 rfl) ?_
    refine Rf.ldI (C14.at m0 rfl) ?_
    refine Rf.ite ?_ ?_
    · refine Rf.ldI (C14.at m0 rfl) ?_
      refine Rf.ldI (C14.at m0 rfl) ?_
      refine Rf.sto 1 C14 rfl (by simp) rfl fun s19 (C20 : Cx s0.next [] [] s0 s19 [(s5.next, AObj.box 24 [(Value.int .i64 r4.1), (Value.int .i64 r4.2)]), (s0.next, AObj.box 24 [(Value.int .i64 r4.1), (Value.int .i64 r4.2)])] [] []) => ?_
      refine Rf.ldI (C20.at m1 rfl) ?_
      refine Rf.ldI (C20.at m1 rfl) ?_
      subst hH; subst hQ
      exact Rf.leaf fun _ => Ev.done (Rf.ret C20 rfl)
    · refine Rf.call0 C14 (t36 n p0 p1 s13 (C14.gl rfl gl0)) ?_
      rintro r23 _ s24 rfl h28
      have C29 : Cx s0.next [] [] s0 s24 [(s5.next, AObj.box 24 [(Value.int .i64 r4.1), (Value.int .i64 r4.2)]), (s0.next, AObj.box 24 [(Value.int .i64 0), (Value.int .i64 0)])] [] [] := h28 [] (by simp) List.Pairwise.nil
      refine (Rf.asTup (Rf.unc (Rf.asI (Rf.unc (Rf.asS (Rf.unc (Rf.asB (Rf.unn ?_))))))))
      refine Rf.ite ?_ ?_
      · refine Rf.sto 1 C29 rfl (by simp) rfl fun s30 (C31 : Cx s0.next [] [] s0 s30 [(s5.next, AObj.box 24 [(Value.int .i64 r4.1), (Value.int .i64 r4.2)]), (s0.next, AObj.box 24 [(Value.int .i64 4), (Value.int .i64 (-2))])] [] []) => ?_
        refine Rf.ldI (C31.at m1 rfl) ?_
        refine Rf.ldI (C31.at m1 rfl) ?_
        subst hH; subst hQ
        exact Rf.leaf fun _ => Ev.done (Rf.ret C31 rfl)
      · refine Rf.call0 C29 (t35 n r23.2.1 s24 (C29.gl rfl gl0)) ?_
        rintro r34 _ s35 rfl h37
        have C38 : Cx s0.next [] [] s0 s35 [(s5.next, AObj.box 24 [(Value.int .i64 r4.1), (Value.int .i64 r4.2)]), (s0.next, AObj.box 24 [(Value.int .i64 0), (Value.int .i64 0)])] [] [] := h37 [] (by simp) List.Pairwise.nil
        refine (Rf.asI ?_)
        refine Rf.pj fun J39 J39' hJ39 hJ39' => ?_
        have J39h : ∀ (b40 : Bool) (_ : Cx s0.next [] [] s0 s35 [(s0.next, AObj.box 24 [(Value.int .i64 0), (Value.int .i64 0)])] [] []), Rf (J39 b40) H Q (J39' b40) := by
          subst hJ39
          subst hJ39'
          intro b40 C42
          refine Rf.ite ?_ ?_
          · refine Rf.sto 0 C42 rfl (by simp) rfl fun s43 (C44 : Cx s0.next [] [] s0 s43 [(s0.next, AObj.box 24 [(Value.int .i64 4), (Value.int .i64 (-3))])] [] []) => ?_
            refine Rf.ldI (C44.at m0 rfl) ?_
            refine Rf.ldI (C44.at m0 rfl) ?_
            subst hH; subst hQ
            exact Rf.leaf fun _ => Ev.done (Rf.ret C44 rfl)
          · refine Rf.rng C42 fun s47 (C48 : Cx s0.next [] [] s0 s47 [(s35.next, AObj.siter r23.2.1 0), (s0.next, AObj.box 24 [(Value.int .i64 0), (Value.int .i64 0)])] [] []) => ?_
            refine Rf.loop (Inv := Inv11_1 s0 p0 p1 p2 gl0 s35.next s0.next r23) (Ex := Ex11_1 s0 p0 p1 p2 gl0 s35.next s0.next r23) (x11_1 s0 p0 p1 p2 gl0 s35.next s0.next r23) (fun t g s K Q h => b11_1 n s0 p0 p1 p2 gl0 s35.next s0.next r23 t g s K Q h) n _ _ _ ⟨_, _, rfl, (C48.sub (List.Sublist.refl _) (List.Sublist.refl _) (List.Sublist.refl _))⟩ ?_
            intro t e g s h
            rcases t with t127 | t191
            · generalize s = s187 at h ⊢
              obtain ⟨rfl, rfl, C188⟩ := h
              rw [e11_after0_ret n]
              refine Rf.ldI (C188.at m0 rfl) ?_
              refine Rf.ldI (C188.at m0 rfl) ?_
              subst hH; subst hQ
              exact Rf.leaf fun _ => Ev.done (Rf.ret C188 rfl)
            · generalize s = s252 at h ⊢
              obtain ⟨rfl, rfl, C253⟩ := h
              rw [e11_after0_exit0 n]
              refine Rf.sto 1 C253 rfl (by simp) rfl fun s254 (C255 : Cx s0.next [] [] s0 s254 [(s35.next, AObj.siter r23.2.1 t191.2), (s0.next, AObj.box 24 [(Value.int .i64 0), (Value.int .i64 0)])] [] []) => ?_
              refine Rf.ldI (C255.at m1 rfl) ?_
              refine Rf.ldI (C255.at m1 rfl) ?_
              subst hH; subst hQ
              exact Rf.leaf fun _ => Ev.done (Rf.ret C255 rfl)
        clear hJ39 hJ39'
        refine Rf.ite ?_ ?_
        · exact J39h true (C38.sub (List.Sublist.cons _ (List.Sublist.cons_cons _ List.Sublist.slnil)) (List.Sublist.refl _) (List.Sublist.refl _))
        · exact J39h (decide ((p2 : Int) > (IntKind.wrap .i64 (r34 + 1)))) (C38.sub (List.Sublist.cons _ (List.Sublist.cons_cons _ List.Sublist.slnil)) (List.Sublist.refl _) (List.Sublist.refl _))
-- 21 "brindlewood/source.Excerpt"
abbrev P21 (N : Nat) (X : List Nat) (r : (ByteArray × (Int × Int))) (v : Value) (s : St) : Prop := v = (Value.tuple #[(Value.string r.1), (Value.agg #[(Value.int .i64 r.2.1), (Value.int .i64 r.2.2)])])
def p21 : Nat → ByteArray → Int → Int → Int → Option (ByteArray × (Int × Int))
  | 0, _, _, _, _ => none
  | n + 1, p0, p1, p2, p3 => ((p11 n p0 p1 p2).bind fun r4 => ((if (!(((r4.2.1 : Int) == 0) && (((r4.2.2 : Int) == 0) && true))) then (((some (((⟨#[]⟩ : ByteArray), (r4.2.1, r4.2.2)) : (ByteArray × (Int × Int)))))) else ((pj (fun (b25 : Bool) => if b25 then (((some (((⟨#[]⟩ : ByteArray), (4, (-4))) : (ByteArray × (Int × Int)))))) else (((p36 n p0 p1).bind fun r32 => ((divP .i64 p3 2 (fun x42 => ((slP (runesOf r32.2.1) (if 0 < (if (IntKind.wrap .i64 ((((runesOf r32.2.1)).length : Nat) - p3)) < (IntKind.wrap .i64 ((IntKind.wrap .i64 (p2 - 1)) - x42)) then (IntKind.wrap .i64 ((((runesOf r32.2.1)).length : Nat) - p3)) else (IntKind.wrap .i64 ((IntKind.wrap .i64 (p2 - 1)) - x42))) then (if (IntKind.wrap .i64 ((((runesOf r32.2.1)).length : Nat) - p3)) < (IntKind.wrap .i64 ((IntKind.wrap .i64 (p2 - 1)) - x42)) then (IntKind.wrap .i64 ((((runesOf r32.2.1)).length : Nat) - p3)) else (IntKind.wrap .i64 ((IntKind.wrap .i64 (p2 - 1)) - x42))) else 0) (if (IntKind.wrap .i64 ((if 0 < (if (IntKind.wrap .i64 ((((runesOf r32.2.1)).length : Nat) - p3)) < (IntKind.wrap .i64 ((IntKind.wrap .i64 (p2 - 1)) - x42)) then (IntKind.wrap .i64 ((((runesOf r32.2.1)).length : Nat) - p3)) else (IntKind.wrap .i64 ((IntKind.wrap .i64 (p2 - 1)) - x42))) then (if (IntKind.wrap .i64 ((((runesOf r32.2.1)).length : Nat) - p3)) < (IntKind.wrap .i64 ((IntKind.wrap .i64 (p2 - 1)) - x42)) then (IntKind.wrap .i64 ((((runesOf r32.2.1)).length : Nat) - p3)) else (IntKind.wrap .i64 ((IntKind.wrap .i64 (p2 - 1)) - x42))) else 0) + p3)) < (((runesOf r32.2.1)).length : Nat) then (IntKind.wrap .i64 ((if 0 < (if (IntKind.wrap .i64 ((((runesOf r32.2.1)).length : Nat) - p3)) < (IntKind.wrap .i64 ((IntKind.wrap .i64 (p2 - 1)) - x42)) then (IntKind.wrap .i64 ((((runesOf r32.2.1)).length : Nat) - p3)) else (IntKind.wrap .i64 ((IntKind.wrap .i64 (p2 - 1)) - x42))) then (if (IntKind.wrap .i64 ((((runesOf r32.2.1)).length : Nat) - p3)) < (IntKind.wrap .i64 ((IntKind.wrap .i64 (p2 - 1)) - x42)) then (IntKind.wrap .i64 ((((runesOf r32.2.1)).length : Nat) - p3)) else (IntKind.wrap .i64 ((IntKind.wrap .i64 (p2 - 1)) - x42))) else 0) + p3)) else (((runesOf r32.2.1)).length : Nat)) (fun y47 => catP (runesBytes y47) (⟨#[10]⟩ : ByteArray) (fun z51 => (p40 n (⟨#[32]⟩ : ByteArray) (IntKind.wrap .i64 ((IntKind.wrap .i64 (p2 - 1)) - (if 0 < (if (IntKind.wrap .i64 ((((runesOf r32.2.1)).length : Nat) - p3)) < (IntKind.wrap .i64 ((IntKind.wrap .i64 (p2 - 1)) - x42)) then (IntKind.wrap .i64 ((((runesOf r32.2.1)).length : Nat) - p3)) else (IntKind.wrap .i64 ((IntKind.wrap .i64 (p2 - 1)) - x42))) then (if (IntKind.wrap .i64 ((((runesOf r32.2.1)).length : Nat) - p3)) < (IntKind.wrap .i64 ((IntKind.wrap .i64 (p2 - 1)) - x42)) then (IntKind.wrap .i64 ((((runesOf r32.2.1)).length : Nat) - p3)) else (IntKind.wrap .i64 ((IntKind.wrap .i64 (p2 - 1)) - x42))) else 0)))).bind fun r52 => catP z51 r52 (fun z57 => catP z57 (⟨#[94]⟩ : ByteArray) (fun z58 => (some ((z58, (0, 0)) : (ByteArray × (Int × Int)))))))))))))))) (fun J24 => if (decide ((p3 : Int) < 20)) then ((J24 true)) else ((J24 (decide ((p3 : Int) > 200))))))))))
theorem t21 (k : Nat) (p0 : ByteArray) (p1 : Int) (p2 : Int) (p3 : Int) (s0 : St) (gl0 : GlobOk s0) :
    Rf (p21 k p0 p1 p2 p3) (fun _ => True) (fun r => RtC s0.next [] [] s0 (P21 s0.next [] r)) (acall E k 21 [(Value.string p0), (Value.int .i64 p1), (Value.int .i64 p2), (Value.int .i64 p3)] s0) := by
  cases k with
  | zero => exact Rf.none
  | succ n =>
    rw [e21 n]
    rw [p21]
    refine Rf.gen fun H Q hH hQ => ?_
    have C0 : Cx s0.next [] [] s0 s0 [] [] [] := Cx.start s0
    refine Rf.new C0 fun s1 (C2 : Cx s0.next [] [] s0 s1 [(s0.next, AObj.box 24 [(Value.int .i64 0), (Value.int .i64 0)])] [] []) => ?_
    refine Rf.call0 C2 (t11 n p0 p1 p2 s1 (C2.gl rfl gl0)) ?_
    rintro r4 _ s5 rfl h9
    have C10 : Cx s0.next [] [] s0 s5 [(s0.next, AObj.box 24 [(Value.int .i64 0), (Value.int .i64 0)])] [] [] := h9 [] (by simp) List.Pairwise.nil
    refine (Rf.asTup (Rf.unc (Rf.asI (Rf.unc (Rf.asAgg (Rf.unc (Rf.asI (Rf.unc (Rf.asI (Rf.unn (Rf.unn ?_)))))))))))
    refine Rf.new C10 fun s11 (C12 : Cx s0.next [] [] s0 s11 [(s5.next, AObj.box 24 [(Value.int .i64 0), (Value.int .i64 0)]), (s0.next, AObj.box 24 [(Value.int .i64 0), (Value.int .i64 0)])] [] []) => ?_
    refine Rf.sto 0 C12 rfl (by simp) rfl fun s14 (C15 : Cx s0.next [] [] s0 s14 [(s5.next, AObj.box 24 [(Value.int .i64 r4.2.1), (Value.int .i64 r4.2.2)]), (s0.next, AObj.box 24 [(Value.int .i64 0), (Value.int .i64 0)])] [] []) => ?_
    refine Rf.ldI (C15.at m0 rfl) ?_
    refine Rf.ldI (C15.at m0 rfl) ?_
    refine Rf.ite ?_ ?_
    · refine Rf.ldI (C15.at m0 rfl) ?_
      refine Rf.ldI (C15.at m0 rfl) ?_
      refine Rf.sto 1 C15 rfl (by simp) rfl fun s20 (C21 : Cx s0.next [] [] s0 s20 [(s5.next, AObj.box 24 [(Value.int .i64 r4.2.1), (Value.int .i64 r4.2.2)]), (s0.next, AObj.box 24 [(Value.int .i64 r4.2.1), (Value.int .i64 r4.2.2)])] [] []) => ?_
      refine Rf.ldI (C21.at m1 rfl) ?_
      refine Rf.ldI (C21.at m1 rfl) ?_
      subst hH; subst hQ
      exact Rf.leaf fun _ => Ev.done (Rf.ret C21 rfl)
    · refine Rf.pj fun J24 J24' hJ24 hJ24' => ?_
      have J24h : ∀ (b25 : Bool) (_ : Cx s0.next [] [] s0 s14 [(s0.next, AObj.box 24 [(Value.int .i64 0), (Value.int .i64 0)])] [] []), Rf (J24 b25) H Q (J24' b25) := by
        subst hJ24
        subst hJ24'
        intro b25 C27
        refine Rf.ite ?_ ?_
        · refine Rf.sto 0 C27 rfl (by simp) rfl fun s28 (C29 : Cx s0.next [] [] s0 s28 [(s0.next, AObj.box 24 [(Value.int .i64 4), (Value.int .i64 (-4))])] [] []) => ?_
          refine Rf.ldI (C29.at m0 rfl) ?_
          refine Rf.ldI (C29.at m0 rfl) ?_
          subst hH; subst hQ
          exact Rf.leaf fun _ => Ev.done (Rf.ret C29 rfl)
        · refine Rf.call0 C27 (t36 n p0 p1 s14 (C27.gl rfl gl0)) ?_
          rintro r32 _ s33 rfl h37
          have C38 : Cx s0.next [] [] s0 s33 [(s0.next, AObj.box 24 [(Value.int .i64 0), (Value.int .i64 0)])] [] [] := h37 [] (by simp) List.Pairwise.nil
          refine (Rf.asTup (Rf.unc (Rf.asI (Rf.unc (Rf.asS (Rf.unc (Rf.asB (Rf.unn ?_))))))))
          refine Rf.newR (r := rI .i32) (xs := (runesOf r32.2.1)) C38 rfl (many_runes _) fun s39 (C40 : Cx s0.next [] [] s0 s39 [(s0.next, AObj.box 24 [(Value.int .i64 0), (Value.int .i64 0)])] [(On.mk (rI .i32) (runesOf r32.2.1) (some ⟨s33.next, 0, none⟩) (runesOf r32.2.1).length 21 false s33.next)] []) => ?_
          refine Rf.divI fun x42 => ?_
          refine Rf.ksl (r := (rI .i32)) u63 (by kernel_rfl) (C40.srB m0) rfl rfl fun y47 A43 c44 h45 => ?_
          have C48 := C40.add (Fa.sr (rI .i32) A43 c44 y47) h45
          refine Rf.asSl ?_
          refine Rf.rstr (C48.srG m0) ?_
          refine Rf.cat fun z51 => ?_
          refine Rf.callP (t40 n (⟨#[32]⟩ : ByteArray) (IntKind.wrap .i64 ((IntKind.wrap .i64 (p2 - 1)) - (if 0 < (if (IntKind.wrap .i64 ((((runesOf r32.2.1)).length : Nat) - p3)) < (IntKind.wrap .i64 ((IntKind.wrap .i64 (p2 - 1)) - x42)) then (IntKind.wrap .i64 ((((runesOf r32.2.1)).length : Nat) - p3)) else (IntKind.wrap .i64 ((IntKind.wrap .i64 (p2 - 1)) - x42))) then (if (IntKind.wrap .i64 ((((runesOf r32.2.1)).length : Nat) - p3)) < (IntKind.wrap .i64 ((IntKind.wrap .i64 (p2 - 1)) - x42)) then (IntKind.wrap .i64 ((((runesOf r32.2.1)).length : Nat) - p3)) else (IntKind.wrap .i64 ((IntKind.wrap .i64 (p2 - 1)) - x42))) else 0))) { s39 with low := s39.next } (C48.lw.gl rfl gl0)) ?_
          rintro r52 _ s53 rfl h56
          refine (Rf.asS ?_)
          refine Rf.ifp (by simpa using h56) ?_
          refine Rf.cat fun z57 => ?_
          refine Rf.cat fun z58 => ?_
          refine Rf.sto 0 C48 rfl (by simp) rfl fun s59 (C60 : Cx s0.next [] [] s0 s59 [(s0.next, AObj.box 24 [(Value.int .i64 0), (Value.int .i64 0)])] [(On.mk (rI .i32) (runesOf r32.2.1) (some ⟨s33.next, 0, none⟩) (runesOf r32.2.1).length 21 false s33.next)] [(Fa.sr (rI .i32) A43 c44 y47)]) => ?_
          refine Rf.ldI (C60.at m0 rfl) ?_
          refine Rf.ldI (C60.at m0 rfl) ?_
          subst hH; subst hQ
          exact Rf.leaf fun _ => Ev.done (Rf.ret C60 rfl)
      clear hJ24 hJ24'
      refine Rf.ite ?_ ?_
      · exact J24h true (C15.sub (List.Sublist.cons _ (List.Sublist.cons_cons _ List.Sublist.slnil)) (List.Sublist.refl _) (List.Sublist.refl _))
      · exact J24h (decide ((p3 : Int) > 200)) (C15.sub (List.Sublist.cons _ (List.Sublist.cons_cons _ List.Sublist.slnil)) (List.Sublist.refl _) (List.Sublist.refl _))
-- 12 "brindlewood/brindlewoodref1.SourceFault"
abbrev Inv12_1 (s0 : St) (p0 : ByteArray) (gl0 : GlobOk s0) (A16 : Option Addr) (c17 : Nat) (e19 : Nat) (i25 : Nat) (r14 : (List Int)) (t : Int) (g : Regs) (s : St) : Prop := g = (rg 23 [(2, (Value.pointer (some ⟨i25, 0, none⟩))), (10, (Value.slice A16 (r14).length c17)), (11, (Value.int .i64 ((r14).length : Nat))), (12, (Value.int .i64 t))]) ∧ Cx s0.next [] [] s0 s [(i25, AObj.box 24 [(Value.int .i64 0), (Value.int .i64 0)])] [(On.mk (rI .i64) r14 A16 c17 3 true e19)] []
abbrev Ex12_1 (s0 : St) (p0 : ByteArray) (gl0 : GlobOk s0) (A16 : Option Addr) (c17 : Nat) (e19 : Nat) (i25 : Nat) (r14 : (List Int)) (t : (Int ⊕ (Int × Int))) (e : X) (g : Regs) (s : St) : Prop := match t with
  | (.inl t) => e = .exit 0 ∧ g = (rg 23 [(2, (Value.pointer (some ⟨i25, 0, none⟩))), (10, (Value.slice A16 (r14).length c17)), (11, (Value.int .i64 ((r14).length : Nat))), (12, (Value.int .i64 t)), (13, (Value.bool false))]) ∧ Cx s0.next [] [] s0 s [(i25, AObj.box 24 [(Value.int .i64 0), (Value.int .i64 0)])] [(On.mk (rI .i64) r14 A16 c17 3 true e19)] []
  | (.inr t) => e = .ret ∧ g = (rg 23 [(2, (Value.pointer (some ⟨i25, 0, none⟩)))]) ∧ Cx s0.next [] [] s0 s [(i25, AObj.box 24 [(Value.int .i64 t.1), (Value.int .i64 t.2)])] [] []
theorem x12_1 (s0 : St) (p0 : ByteArray) (gl0 : GlobOk s0) (A16 : Option Addr) (c17 : Nat) (e19 : Nat) (i25 : Nat) (r14 : (List Int)) (t : (Int ⊕ (Int × Int))) (e : X) (g : Regs) (s : St) (h : Ex12_1 s0 p0 gl0 A16 c17 e19 i25 r14 t e g s) : e ≠ .normal := by
  rcases t with t | t
  · obtain ⟨h, _⟩ := h
    rw [h]; intro hh; cases hh
  · obtain ⟨h, _⟩ := h
    rw [h]; intro hh; cases hh
def pb12_1 (n : Nat)  (r14 : (List Int)) (t : Int) : Option (Int ⊕ (Int ⊕ (Int × Int))) :=
  (if (decide ((t : Int) < ((r14).length : Nat))) then ((rd r14 t (fun x52 => ((if (decide ((x52 : Int) < 0)) then ((p17 n 1 t).bind fun r63 => (((some (.inr (.inr (r63.1, r63.2))))))) else (((some (.inl (IntKind.wrap .i64 (t + 1))))))))))) else (((some (.inr (.inl t))))))
theorem b12_1 (n : Nat) (s0 : St) (p0 : ByteArray) (gl0 : GlobOk s0) (A16 : Option Addr) (c17 : Nat) (e19 : Nat) (i25 : Nat) (r14 : (List Int)) (x24 : Int) (g : Regs) (s49 : St) (K : Kont) (Q : Out → St → Prop) (h : Inv12_1 s0 p0 gl0 A16 c17 e19 i25 r14 x24 g s49) :
    Rf (pb12_1 n r14 x24) (fun r => ∀ e g' s', LK (Inv12_1 s0 p0 gl0 A16 c17 e19 i25 r14) (Ex12_1 s0 p0 gl0 A16 c17 e19 i25 r14) r e g' s' → Ev (K e g' s') Q) (fun _ => Q) (kBody E 12 n [.b, .b, .a, .b, .a, .a] g s49 K) := by
  obtain ⟨rfl, C50⟩ := h
  rw [e12_body0 n]
  unfold pb12_1
  refine Rf.gen fun H Q hH hQ => ?_
  refine Rf.ite ?_ ?_
  · refine Rf.eltW (j := 0) C50 rfl rfl rfl fun x52 i53 o54 h55 h56 h57 h58 => ?_
    obtain ⟨c59, r60, h61⟩ := C50.loW (j := 0) rfl h55 h56 h57 h58
    obtain rfl := rI_elim r60
    refine Rf.ldI (h61.at 0 rfl) ?_
    refine Rf.ite ?_ ?_
    · refine Rf.call0 C50 (t17 n 1 x24 s49 (C50.gl rfl gl0)) ?_
      rintro r63 _ s64 rfl h67
      have C68 : Cx s0.next [] [] s0 s64 [(i25, AObj.box 24 [(Value.int .i64 0), (Value.int .i64 0)])] [(On.mk (rI .i64) r14 A16 c17 3 true e19)] [] := h67 [] (by simp) List.Pairwise.nil
      refine (Rf.asAgg (Rf.unc (Rf.asI (Rf.unc (Rf.asI (Rf.unn ?_))))))
      refine Rf.sto 0 C68 rfl (by simp) rfl fun s69 (C70 : Cx s0.next [] [] s0 s69 [(i25, AObj.box 24 [(Value.int .i64 r63.1), (Value.int .i64 r63.2)])] [(On.mk (rI .i64) r14 A16 c17 3 true e19)] []) => ?_
      subst hH; subst hQ
      exact Rf.leaf fun h => h _ _ _ ⟨rfl, rfl, (C70.sub (List.Sublist.refl _) (List.Sublist.cons _ List.Sublist.slnil) (List.Sublist.refl _))⟩
    · subst hH; subst hQ
      exact Rf.leaf fun h => h _ _ _ ⟨rfl, rfl, (C50.sub (List.Sublist.refl _) (List.Sublist.refl _) (List.Sublist.refl _))⟩
  · subst hH; subst hQ
    exact Rf.leaf fun h => h _ _ _ ⟨rfl, rfl, (C50.sub (List.Sublist.refl _) (List.Sublist.refl _) (List.Sublist.refl _))⟩
abbrev P12 (N : Nat) (X : List Nat) (r : (Int × Int)) (v : Value) (s : St) : Prop := v = (Value.agg #[(Value.int .i64 r.1), (Value.int .i64 r.2)])
def p12 : Nat → ByteArray → Option (Int × Int)
  | 0, _ => none
  | n + 1, p0 => ((if (decide (((p0.size : Nat) : Int) > 16000)) then ((p17 n 3 (-1)).bind fun r4 => ((some ((r4.1, r4.2) : (Int × Int))))) else (((p37 n p0).bind fun r14 => ((loopP (pb12_1 n r14) n 0).bind fun t132 => match t132 with | (.inl t74) => ((some ((0, 0) : (Int × Int)))) | (.inr t104) => (some ((t104.1, t104.2) : (Int × Int))))))))
theorem t12 (k : Nat) (p0 : ByteArray) (s0 : St) (gl0 : GlobOk s0) :
    Rf (p12 k p0) (fun _ => True) (fun r => RtC s0.next [] [] s0 (P12 s0.next [] r)) (acall E k 12 [(Value.string p0)] s0) := by
  cases k with
  | zero => exact Rf.none
  | succ n =>
    rw [e12 n]
    rw [p12]
    refine Rf.gen fun H Q hH hQ => ?_
    have C0 : Cx s0.next [] [] s0 s0 [] [] [] := Cx.start s0
    refine Rf.new C0 fun s1 (C2 : Cx s0.next [] [] s0 s1 [(s0.next, AObj.box 24 [(Value.int .i64 0), (Value.int .i64 0)])] [] []) => ?_
    refine Rf.ite ?_ ?_
    · refine Rf.call0 C2 (t17 n 3 (-1) s1 (C2.gl rfl gl0)) ?_
      rintro r4 _ s5 rfl h8
      have C9 : Cx s0.next [] [] s0 s5 [(s0.next, AObj.box 24 [(Value.int .i64 0), (Value.int .i64 0)])] [] [] := h8 [] (by simp) List.Pairwise.nil
      refine (Rf.asAgg (Rf.unc (Rf.asI (Rf.unc (Rf.asI (Rf.unn ?_))))))
      refine Rf.sto 0 C9 rfl (by simp) rfl fun s10 (C11 : Cx s0.next [] [] s0 s10 [(s0.next, AObj.box 24 [(Value.int .i64 r4.1), (Value.int .i64 r4.2)])] [] []) => ?_
      refine Rf.ldI (C11.at m0 rfl) ?_
      refine Rf.ldI (C11.at m0 rfl) ?_
      subst hH; subst hQ
      exact Rf.leaf fun _ => Ev.done (Rf.ret C11 rfl)
    · refine Rf.call0 C2 (t37 n p0 s1 (C2.gl rfl gl0)) ?_
      rintro r14 _ s15 ⟨A16, c17, e19, rfl, h18⟩ h22
      have C23 : Cx s0.next [] [] s0 s15 [(s0.next, AObj.box 24 [(Value.int .i64 0), (Value.int .i64 0)])] [(On.mk (rI .i64) r14 A16 c17 3 true e19)] [] := h22 [(On.mk (rI .i64) r14 A16 c17 3 true e19)] (by simpa using h18) (List.pairwise_singleton _ _)
      refine (Rf.asSl ?_)
      refine Rf.loop (Inv := Inv12_1 s0 p0 gl0 A16 c17 e19 s0.next r14) (Ex := Ex12_1 s0 p0 gl0 A16 c17 e19 s0.next r14) (x12_1 s0 p0 gl0 A16 c17 e19 s0.next r14) (fun t g s K Q h => b12_1 n s0 p0 gl0 A16 c17 e19 s0.next r14 t g s K Q h) n _ _ _ ⟨rfl, (C23.sub (List.Sublist.refl _) (List.Sublist.refl _) (List.Sublist.refl _))⟩ ?_
      intro t e g s h
      rcases t with t74 | t104
      · generalize s = s98 at h ⊢
        obtain ⟨rfl, rfl, C99⟩ := h
        rw [e12_after0_exit0 n]
        refine Rf.sto 0 C99 rfl (by simp) rfl fun s100 (C101 : Cx s0.next [] [] s0 s100 [(s0.next, AObj.box 24 [(Value.int .i64 0), (Value.int .i64 0)])] [(On.mk (rI .i64) r14 A16 c17 3 true e19)] []) => ?_
        refine Rf.ldI (C101.at m0 rfl) ?_
        refine Rf.ldI (C101.at m0 rfl) ?_
        subst hH; subst hQ
        exact Rf.leaf fun _ => Ev.done (Rf.ret C101 rfl)
      · generalize s = s128 at h ⊢
        obtain ⟨rfl, rfl, C129⟩ := h
        rw [e12_after0_ret n]
        refine Rf.ldI (C129.at m0 rfl) ?_
        refine Rf.ldI (C129.at m0 rfl) ?_
        subst hH; subst hQ
        exact Rf.leaf fun _ => Ev.done (Rf.ret C129 rfl)
-- 13 "brindlewood/brindlewoodref1.SourceLines"
abbrev Inv13_1 (s0 : St) (p0 : ByteArray) (gl0 : GlobOk s0)  (t : ((List ByteArray) × ByteArray × Int)) (g : Regs) (s : St) : Prop := ∃ (A5 : Option Addr) (c6 : Nat) (e7 : Nat), g = (rg 31 [(0, (Value.string p0)), (3, (Value.slice A5 (t.1).length c6)), (4, (Value.string t.2.1)), (5, (Value.int .i64 t.2.2))]) ∧ Cx s0.next [] [] s0 s [] [(On.mk rS t.1 A5 c6 9 false e7)] []
abbrev Ex13_1 (s0 : St) (p0 : ByteArray) (gl0 : GlobOk s0)  (t : ((List ByteArray) × ByteArray × Int)) (e : X) (g : Regs) (s : St) : Prop := ∃ (A72 : Option Addr) (c73 : Nat) (e74 : Nat), e = .exit 0 ∧ g = (rg 31 [(0, (Value.string p0)), (3, (Value.slice A72 (t.1).length c73)), (4, (Value.string t.2.1)), (5, (Value.int .i64 t.2.2)), (9, (Value.bool false))]) ∧ Cx s0.next [] [] s0 s [] [(On.mk rS t.1 A72 c73 9 false e74)] []
theorem x13_1 (s0 : St) (p0 : ByteArray) (gl0 : GlobOk s0)  (t : ((List ByteArray) × ByteArray × Int)) (e : X) (g : Regs) (s : St) (h : Ex13_1 s0 p0 gl0  t e g s) : e ≠ .normal := by
  obtain ⟨_, _, _, h, _⟩ := h
  rw [h]; intro hh; cases hh
def pb13_1 (n : Nat) (p0 : ByteArray) (t : ((List ByteArray) × ByteArray × Int)) : Option (((List ByteArray) × ByteArray × Int) ⊕ ((List ByteArray) × ByteArray × Int)) :=
  (if (decide ((t.2.2 : Int) < (p0.size : Nat))) then ((pj (fun (y61 : (List ByteArray)) (z65 : ByteArray) => (some (.inl (y61, z65, (IntKind.wrap .i64 (t.2.2 + 1)))))) (fun J59 => idxP p0 t.2.2 (fun x44 => (if ((x44 : Int) == 10) then (apP 16 t.1 [t.2.1] (fun y51 => ((J59 (t.1 ++ [t.2.1]) (⟨#[]⟩ : ByteArray))))) else (subP p0 t.2.2 (IntKind.wrap .i64 (t.2.2 + 1)) (fun z57 => catP t.2.1 z57 (fun z58 => (J59 t.1 z58))))))))) else (((some (.inr (t.1, t.2.1, t.2.2))))))
theorem b13_1 (n : Nat) (s0 : St) (p0 : ByteArray) (gl0 : GlobOk s0)  (t : ((List ByteArray) × ByteArray × Int)) (g : Regs) (s41 : St) (K : Kont) (Q : Out → St → Prop) (h : Inv13_1 s0 p0 gl0  t g s41) :
    Rf (pb13_1 n p0 t) (fun r => ∀ e g' s', LK (Inv13_1 s0 p0 gl0 ) (Ex13_1 s0 p0 gl0 ) r e g' s' → Ev (K e g' s') Q) (fun _ => Q) (kBody E 13 n [.b, .b, .b, .a, .b, .a, .a] g s41 K) := by
  obtain ⟨y4, z8, x9⟩ := t
  obtain ⟨A5, c6, e7, rfl, C42⟩ := h
  rw [e13_body0 n]
  unfold pb13_1
  refine Rf.gen fun H Q hH hQ => ?_
  try dsimp only
  refine Rf.ite ?_ ?_
  · refine Rf.pj fun J59 J59' hJ59 hJ59' => ?_
    have J59h : ∀ (A62 : Option Addr) (c63 : Nat) (e64 : Nat) (y61 : (List ByteArray)) (z65 : ByteArray) (s68 : St) (_ : Cx s0.next [] [] s0 s68 [] [(On.mk rS y61 A62 c63 9 false e64)] []), Rf (J59 y61 z65) H Q (J59' (Value.slice A62 (y61).length c63) z65 s68) := by
      subst hJ59
      subst hJ59'
      intro A62 c63 e64 y61 z65 s68 C69
      subst hH; subst hQ
      exact Rf.leaf fun h => h _ _ _ ⟨rfl, _, _, _, rfl, (C69.sub (List.Sublist.refl _) (List.Sublist.refl _) (List.Sublist.refl _))⟩
    clear hJ59 hJ59'
    refine Rf.idx fun x44 => ?_
    refine Rf.ite ?_ ?_
    · refine Rf.newR (r := rS) (xs := [z8]) C42 rfl (many.cons (c := [(Value.string z8)]) rS_mk many.nil) fun s45 (C46 : Cx s0.next [] [] s0 s45 [] [(On.mk rS [z8] (some ⟨s41.next, 0, none⟩) 1 9 false s41.next), (On.mk rS y4 A5 c6 9 false e7)] []) => ?_
      refine Rf.kapp 1 C46 rfl rfl (by decide) (by decide) (Ap.sr u31 rfl (C46.srB m0)) fun A48 c49 e50 s53 (C54 : Cx s0.next [] [] s0 s53 [] [(On.mk rS [z8] (some ⟨s41.next, 0, none⟩) 1 9 false s41.next), (On.mk rS (y4 ++ [z8]) A48 c49 9 false e50)] []) => ?_
      have C55 : Cx s0.next [] [] s0 s53 [] [(On.mk rS (y4 ++ [z8]) A48 c49 9 false e50)] [] := C54.sub (List.Sublist.refl _) (List.Sublist.cons _ (List.Sublist.cons_cons _ List.Sublist.slnil)) (List.Sublist.refl _)
      exact J59h A48 c49 e50 (y4 ++ [z8]) (⟨#[]⟩ : ByteArray) _ (C55.sub (List.Sublist.refl _) (List.Sublist.refl _) (List.Sublist.refl _))
    · refine Rf.subS fun z57 => ?_
      refine Rf.cat fun z58 => ?_
      exact J59h A5 c6 e7 y4 z58 _ (C42.sub (List.Sublist.refl _) (List.Sublist.refl _) (List.Sublist.refl _))
  · subst hH; subst hQ
    exact Rf.leaf fun h => h _ _ _ ⟨_, _, _, rfl, rfl, (C42.sub (List.Sublist.refl _) (List.Sublist.refl _) (List.Sublist.refl _))⟩
abbrev P13 (N : Nat) (X : List Nat) (r : (List ByteArray)) (v : Value) (s : St) : Prop := ∃ (A0 : Option Addr) (c0 : Nat) (e0 : Nat), v = (Value.slice A0 (r).length c0) ∧ (On.mk rS r A0 c0 9 false e0).holds N X s
def p13 : Nat → ByteArray → Option (List ByteArray)
  | 0, _ => none
  | n + 1, p0 => (((((loopP (pb13_1 n p0) n (([] : List ByteArray), (⟨#[]⟩ : ByteArray), 0)).bind fun t77 => apP 16 t77.1 [t77.2.1] (fun y117 => (some ((t77.1 ++ [t77.2.1]) : (List ByteArray))))))))
theorem t13 (k : Nat) (p0 : ByteArray) (s0 : St) (gl0 : GlobOk s0) :
    Rf (p13 k p0) (fun _ => True) (fun r => RtC s0.next [] [] s0 (P13 s0.next [] r)) (acall E k 13 [(Value.string p0)] s0) := by
  cases k with
  | zero => exact Rf.none
  | succ n =>
    rw [e13 n]
    rw [p13]
    refine Rf.gen fun H Q hH hQ => ?_
    have C0 : Cx s0.next [] [] s0 s0 [] [] [] := Cx.start s0
    have C1 : Cx s0.next [] [] s0 s0 [] [(On.mk rS ([] : List ByteArray) none 0 9 false 0)] [] := C0.addNil rS 9
    refine Rf.loop (Inv := Inv13_1 s0 p0 gl0 ) (Ex := Ex13_1 s0 p0 gl0 ) (x13_1 s0 p0 gl0 ) (fun t g s K Q h => b13_1 n s0 p0 gl0  t g s K Q h) n _ _ _ ⟨_, _, _, rfl, (C1.sub (List.Sublist.refl _) (List.Sublist.refl _) (List.Sublist.refl _))⟩ ?_
    intro t77 e g s109 h
    obtain ⟨A72, c73, e74, rfl, rfl, C110⟩ := h
    rw [e13_after0_exit0 n]
    refine Rf.newR (r := rS) (xs := [t77.2.1]) C110 rfl (many.cons (c := [(Value.string t77.2.1)]) rS_mk many.nil) fun s111 (C112 : Cx s0.next [] [] s0 s111 [] [(On.mk rS [t77.2.1] (some ⟨s109.next, 0, none⟩) 1 9 false s109.next), (On.mk rS t77.1 A72 c73 9 false e74)] []) => ?_
    refine Rf.kapp 1 C112 rfl rfl (by decide) (by decide) (Ap.sr u31 rfl (C112.srB m0)) fun A114 c115 e116 s119 (C120 : Cx s0.next [] [] s0 s119 [] [(On.mk rS [t77.2.1] (some ⟨s109.next, 0, none⟩) 1 9 false s109.next), (On.mk rS (t77.1 ++ [t77.2.1]) A114 c115 9 false e116)] []) => ?_
    have C121 : Cx s0.next [] [] s0 s119 [] [(On.mk rS (t77.1 ++ [t77.2.1]) A114 c115 9 false e116)] [] := C120.sub (List.Sublist.refl _) (List.Sublist.cons _ (List.Sublist.cons_cons _ List.Sublist.slnil)) (List.Sublist.refl _)
    subst hH; subst hQ
    exact Rf.leaf fun _ => Ev.done (Rf.ret C121 ⟨_, _, _, rfl, C121.own _ m0⟩)
-- 18 "brindlewood/brindlewoodref1.PlaceFault"
abbrev P18 (N : Nat) (X : List Nat) (r : (Int × Int)) (v : Value) (s : St) : Prop := v = (Value.agg #[(Value.int .i64 r.1), (Value.int .i64 r.2)])
def p18 : Nat → ByteArray → Int → Option (Int × Int)
  | 0, _, _ => none
  | n + 1, p0, p1 => ((p12 n p0).bind fun r4 => ((if ((r4.1 : Int) != 0) then (((some ((r4.1, r4.2) : (Int × Int))))) else (pj (fun (b23 : Bool) => if b23 then ((p17 n 4 (-2)).bind fun r26 => ((some ((r26.1, r26.2) : (Int × Int))))) else (pj (fun (b56 : Bool) => if b56 then ((p17 n 6 (-2)).bind fun r60 => ((some ((r60.1, r60.2) : (Int × Int))))) else (((some ((0, 0) : (Int × Int)))))) (fun J55 => if (decide ((p1 : Int) < (p0.size : Nat))) then ((p37 n p0).bind fun r34 => rd r34 p1 (fun x44 => (J55 ((x44 : Int) == 0)))) else ((J55 false))))) (fun J22 => if (decide ((p1 : Int) < 0)) then ((J22 true)) else ((J22 (decide ((p1 : Int) > (p0.size : Nat))))))))))
theorem t18 (k : Nat) (p0 : ByteArray) (p1 : Int) (s0 : St) (gl0 : GlobOk s0) :
    Rf (p18 k p0 p1) (fun _ => True) (fun r => RtC s0.next [] [] s0 (P18 s0.next [] r)) (acall E k 18 [(Value.string p0), (Value.int .i64 p1)] s0) := by
  cases k with
  | zero => exact Rf.none
  | succ n =>
    rw [e18 n]
    rw [p18]
    refine Rf.gen fun H Q hH hQ => ?_
    have C0 : Cx s0.next [] [] s0 s0 [] [] [] := Cx.start s0
    refine Rf.new C0 fun s1 (C2 : Cx s0.next [] [] s0 s1 [(s0.next, AObj.box 24 [(Value.int .i64 0), (Value.int .i64 0)])] [] []) => ?_
    refine Rf.call0 C2 (t12 n p0 s1 (C2.gl rfl gl0)) ?_
    rintro r4 _ s5 rfl h8
    have C9 : Cx s0.next [] [] s0 s5 [(s0.next, AObj.box 24 [(Value.int .i64 0), (Value.int .i64 0)])] [] [] := h8 [] (by simp) List.Pairwise.nil
    refine (Rf.asAgg (Rf.unc (Rf.asI (Rf.unc (Rf.asI (Rf.unn ?_))))))
    refine Rf.new C9 fun s10 (C11 : Cx s0.next [] [] s0 s10 [(s5.next, AObj.box 24 [(Value.int .i64 0), (Value.int .i64 0)]), (s0.next, AObj.box 24 [(Value.int .i64 0), (Value.int .i64 0)])] [] []) => ?_
    refine Rf.sto 0 C11 rfl (by simp) rfl fun s13 (C14 : Cx s0.next [] [] s0 s13 [(s5.next, AObj.box 24 [(Value.int .i64 r4.1), (Value.int .i64 r4.2)]), (s0.next, AObj.box 24 [(Value.int .i64 0), (Value.int .i64 0)])] [] []) => ?_
    refine Rf.ldI (C14.at m0 rfl) ?_
    refine Rf.ite ?_ ?_
    · refine Rf.ldI (C14.at m0 rfl) ?_
      refine Rf.ldI (C14.at m0 rfl) ?_
      refine Rf.sto 1 C14 rfl (by simp) rfl fun s20 (C21 : Cx s0.next [] [] s0 s20 [(s5.next, AObj.box 24 [(Value.int .i64 r4.1), (Value.int .i64 r4.2)]), (s0.next, AObj.box 24 [(Value.int .i64 r4.1), (Value.int .i64 r4.2)])] [] []) => ?_
      refine Rf.ldI (C21.at m1 rfl) ?_
      refine Rf.ldI (C21.at m1 rfl) ?_
      subst hH; subst hQ
      exact Rf.leaf fun _ => Ev.done (Rf.ret C21 rfl)
    · refine Rf.pj fun J22 J22' hJ22 hJ22' => ?_
      have J22h : ∀ (b23 : Bool) (_ : Cx s0.next [] [] s0 s13 [(s0.next, AObj.box 24 [(Value.int .i64 0), (Value.int .i64 0)])] [] []), Rf (J22 b23) H Q (J22' b23) := by
        subst hJ22
        subst hJ22'
        intro b23 C25
        refine Rf.ite ?_ ?_
        · refine Rf.call0 C25 (t17 n 4 (-2) s13 (C25.gl rfl gl0)) ?_
          rintro r26 _ s27 rfl h30
          have C31 : Cx s0.next [] [] s0 s27 [(s0.next, AObj.box 24 [(Value.int .i64 0), (Value.int .i64 0)])] [] [] := h30 [] (by simp) List.Pairwise.nil
          refine (Rf.asAgg (Rf.unc (Rf.asI (Rf.unc (Rf.asI (Rf.unn ?_))))))
          refine Rf.sto 0 C31 rfl (by simp) rfl fun s32 (C33 : Cx s0.next [] [] s0 s32 [(s0.next, AObj.box 24 [(Value.int .i64 r26.1), (Value.int .i64 r26.2)])] [] []) => ?_
          refine Rf.ldI (C33.at m0 rfl) ?_
          refine Rf.ldI (C33.at m0 rfl) ?_
          subst hH; subst hQ
          exact Rf.leaf fun _ => Ev.done (Rf.ret C33 rfl)
        · refine Rf.pj fun J55 J55' hJ55 hJ55' => ?_
          have J55h : ∀ (b56 : Bool) (s58 : St) (_ : Cx s0.next [] [] s0 s58 [(s0.next, AObj.box 24 [(Value.int .i64 0), (Value.int .i64 0)])] [] []), Rf (J55 b56) H Q (J55' b56 s58) := by
            subst hJ55
            subst hJ55'
            intro b56 s58 C59
            refine Rf.ite ?_ ?_
            · refine Rf.call0 C59 (t17 n 6 (-2) s58 (C59.gl rfl gl0)) ?_
              rintro r60 _ s61 rfl h64
              have C65 : Cx s0.next [] [] s0 s61 [(s0.next, AObj.box 24 [(Value.int .i64 0), (Value.int .i64 0)])] [] [] := h64 [] (by simp) List.Pairwise.nil
              refine (Rf.asAgg (Rf.unc (Rf.asI (Rf.unc (Rf.asI (Rf.unn ?_))))))
              refine Rf.sto 0 C65 rfl (by simp) rfl fun s66 (C67 : Cx s0.next [] [] s0 s66 [(s0.next, AObj.box 24 [(Value.int .i64 r60.1), (Value.int .i64 r60.2)])] [] []) => ?_
              refine Rf.ldI (C67.at m0 rfl) ?_
              refine Rf.ldI (C67.at m0 rfl) ?_
              subst hH; subst hQ
              exact Rf.leaf fun _ => Ev.done (Rf.ret C67 rfl)
            · refine Rf.sto 0 C59 rfl (by simp) rfl fun s74 (C75 : Cx s0.next [] [] s0 s74 [(s0.next, AObj.box 24 [(Value.int .i64 0), (Value.int .i64 0)])] [] []) => ?_
              refine Rf.ldI (C75.at m0 rfl) ?_
              refine Rf.ldI (C75.at m0 rfl) ?_
              subst hH; subst hQ
              exact Rf.leaf fun _ => Ev.done (Rf.ret C75 rfl)
          clear hJ55 hJ55'
          refine Rf.ite ?_ ?_
          · refine Rf.call0 C25 (t37 n p0 s13 (C25.gl rfl gl0)) ?_
            rintro r34 _ s35 ⟨A36, c37, e39, rfl, h38⟩ h42
            have C43 : Cx s0.next [] [] s0 s35 [(s0.next, AObj.box 24 [(Value.int .i64 0), (Value.int .i64 0)])] [(On.mk (rI .i64) r34 A36 c37 3 true e39)] [] := h42 [(On.mk (rI .i64) r34 A36 c37 3 true e39)] (by simpa using h38) (List.pairwise_singleton _ _)
            refine (Rf.asSl ?_)
            refine Rf.eltW (j := 0) C43 rfl rfl rfl fun x44 i45 o46 h47 h48 h49 h50 => ?_
            obtain ⟨c51, r52, h53⟩ := C43.loW (j := 0) rfl h47 h48 h49 h50
            obtain rfl := rI_elim r52
            refine Rf.ldI (h53.at 0 rfl) ?_
            exact J55h ((x44 : Int) == 0) _ (C43.sub (List.Sublist.refl _) (List.Sublist.cons _ List.Sublist.slnil) (List.Sublist.refl _))
          · exact J55h false _ (C25.sub (List.Sublist.refl _) (List.Sublist.refl _) (List.Sublist.refl _))
      clear hJ22 hJ22'
      refine Rf.ite ?_ ?_
      · exact J22h true (C14.sub (List.Sublist.cons _ (List.Sublist.cons_cons _ List.Sublist.slnil)) (List.Sublist.refl _) (List.Sublist.refl _))
      · exact J22h (decide ((p1 : Int) > (p0.size : Nat))) (C14.sub (List.Sublist.cons _ (List.Sublist.cons_cons _ List.Sublist.slnil)) (List.Sublist.refl _) (List.Sublist.refl _))
-- 19 "brindlewood/brindlewoodref1.Place"
abbrev Inv19_1 (s0 : St) (p0 : ByteArray) (p1 : Int) (gl0 : GlobOk s0) (A3 : Option Addr) (c4 : Nat) (e6 : Nat) (r1 : (List Int)) (t : (Int × Int × Int)) (g : Regs) (s : St) : Prop := g = (rg 36 [(0, (Value.string p0)), (1, (Value.int .i64 p1)), (6, (Value.int .i64 t.1)), (7, (Value.int .i64 t.2.1)), (11, (Value.slice A3 (r1).length c4)), (12, (Value.int .i64 ((r1).length : Nat))), (13, (Value.int .i64 t.2.2))]) ∧ Cx s0.next [] [] s0 s [] [(On.mk (rI .i64) r1 A3 c4 3 true e6)] []
abbrev Ex19_1 (s0 : St) (p0 : ByteArray) (p1 : Int) (gl0 : GlobOk s0) (A3 : Option Addr) (c4 : Nat) (e6 : Nat) (r1 : (List Int)) (t : (Int × Int × Int)) (e : X) (g : Regs) (s : St) : Prop := ∃ (w75 : Value) (w76 : Value) (w77 : Value) (w78 : Value), e = .exit 0 ∧ g = (rg 36 [(0, (Value.string p0)), (1, (Value.int .i64 p1)), (6, (Value.int .i64 t.1)), (7, (Value.int .i64 t.2.1)), (8, w75), (9, w76), (11, (Value.slice A3 (r1).length c4)), (12, (Value.int .i64 ((r1).length : Nat))), (13, (Value.int .i64 t.2.2)), (14, w77), (20, w78)]) ∧ Cx s0.next [] [] s0 s [] [(On.mk (rI .i64) r1 A3 c4 3 true e6)] []
theorem x19_1 (s0 : St) (p0 : ByteArray) (p1 : Int) (gl0 : GlobOk s0) (A3 : Option Addr) (c4 : Nat) (e6 : Nat) (r1 : (List Int)) (t : (Int × Int × Int)) (e : X) (g : Regs) (s : St) (h : Ex19_1 s0 p0 p1 gl0 A3 c4 e6 r1 t e g s) : e ≠ .normal := by
  obtain ⟨_, _, _, _, h, _⟩ := h
  rw [h]; intro hh; cases hh
def pb19_1 (n : Nat) (p0 : ByteArray) (p1 : Int) (r1 : (List Int)) (t : (Int × Int × Int)) : Option ((Int × Int × Int) ⊕ (Int × Int × Int)) :=
  (if (decide ((t.2.2 : Int) < ((r1).length : Nat))) then ((pj (fun (x66 : Int) (x67 : Int) => (some (.inl (x66, x67, (IntKind.wrap .i64 (t.2.2 + 1)))))) (fun J65 => rd r1 t.2.2 (fun x53 => ((if (decide ((t.2.2 : Int) ≥ p1)) then ((((some (.inr (t.1, t.2.1, t.2.2)))))) else ((idxP p0 t.2.2 (fun x64 => (if ((x64 : Int) == 10) then ((J65 (IntKind.wrap .i64 (t.1 + 1)) 1)) else ((if (decide ((x53 : Int) > 0)) then ((J65 t.1 (IntKind.wrap .i64 (t.2.1 + 1)))) else ((J65 t.1 t.2.1)))))))))))))) else (((some (.inr (t.1, t.2.1, t.2.2))))))
theorem b19_1 (n : Nat) (s0 : St) (p0 : ByteArray) (p1 : Int) (gl0 : GlobOk s0) (A3 : Option Addr) (c4 : Nat) (e6 : Nat) (r1 : (List Int)) (t : (Int × Int × Int)) (g : Regs) (s50 : St) (K : Kont) (Q : Out → St → Prop) (h : Inv19_1 s0 p0 p1 gl0 A3 c4 e6 r1 t g s50) :
    Rf (pb19_1 n p0 p1 r1 t) (fun r => ∀ e g' s', LK (Inv19_1 s0 p0 p1 gl0 A3 c4 e6 r1) (Ex19_1 s0 p0 p1 gl0 A3 c4 e6 r1) r e g' s' → Ev (K e g' s') Q) (fun _ => Q) (kBody E 19 n [.b, .b, .a, .b, .a, .a] g s50 K) := by
  obtain ⟨x11, x12, x13⟩ := t
  obtain ⟨rfl, C51⟩ := h
  rw [e19_body0 n]
  unfold pb19_1
  refine Rf.gen fun H Q hH hQ => ?_
  try dsimp only
  refine Rf.ite ?_ ?_
  · refine Rf.pj fun J65 J65' hJ65 hJ65' => ?_
    have J65h : ∀ (e70 : Value) (x66 : Int) (x67 : Int) (_ : Cx s0.next [] [] s0 s50 [] [(On.mk (rI .i64) r1 A3 c4 3 true e6)] []), Rf (J65 x66 x67) H Q (J65' x66 x67 e70) := by
      subst hJ65
      subst hJ65'
      intro e70 x66 x67 C71
      subst hH; subst hQ
      exact Rf.leaf fun h => h _ _ _ ⟨rfl, rfl, (C71.sub (List.Sublist.refl _) (List.Sublist.refl _) (List.Sublist.refl _))⟩
    clear hJ65 hJ65'
    refine Rf.eltW (j := 0) C51 rfl rfl rfl fun x53 i54 o55 h56 h57 h58 h59 => ?_
    obtain ⟨c60, r61, h62⟩ := C51.loW (j := 0) rfl h56 h57 h58 h59
    obtain rfl := rI_elim r61
    refine Rf.ldI (h62.at 0 rfl) ?_
    refine Rf.ite ?_ ?_
    · subst hH; subst hQ
      exact Rf.leaf fun h => h _ _ _ ⟨_, _, _, _, rfl, rfl, (C51.sub (List.Sublist.refl _) (List.Sublist.refl _) (List.Sublist.refl _))⟩
    · refine Rf.idx fun x64 => ?_
      refine Rf.ite ?_ ?_
      · exact J65h _ (IntKind.wrap .i64 (x11 + 1)) 1 (C51.sub (List.Sublist.refl _) (List.Sublist.refl _) (List.Sublist.refl _))
      · refine Rf.ite ?_ ?_
        · exact J65h _ x11 (IntKind.wrap .i64 (x12 + 1)) (C51.sub (List.Sublist.refl _) (List.Sublist.refl _) (List.Sublist.refl _))
        · exact J65h _ x11 x12 (C51.sub (List.Sublist.refl _) (List.Sublist.refl _) (List.Sublist.refl _))
  · subst hH; subst hQ
    exact Rf.leaf fun h => h _ _ _ ⟨_, _, _, _, rfl, rfl, (C51.sub (List.Sublist.refl _) (List.Sublist.refl _) (List.Sublist.refl _))⟩
abbrev P19 (N : Nat) (X : List Nat) (r : (Int × Int)) (v : Value) (s : St) : Prop := v = (Value.tuple #[(Value.int .i64 r.1), (Value.int .i64 r.2)])
def p19 : Nat → ByteArray → Int → Option (Int × Int)
  | 0, _, _ => none
  | n + 1, p0, p1 => (((p37 n p0).bind fun r1 => ((loopP (pb19_1 n p0 p1 r1) n (1, 1, 0)).bind fun t79 => (some ((t79.1, t79.2.1) : (Int × Int))))))
theorem t19 (k : Nat) (p0 : ByteArray) (p1 : Int) (s0 : St) (gl0 : GlobOk s0) :
    Rf (p19 k p0 p1) (fun _ => True) (fun r => RtC s0.next [] [] s0 (P19 s0.next [] r)) (acall E k 19 [(Value.string p0), (Value.int .i64 p1)] s0) := by
  cases k with
  | zero => exact Rf.none
  | succ n =>
    rw [e19 n]
    rw [p19]
    refine Rf.gen fun H Q hH hQ => ?_
    have C0 : Cx s0.next [] [] s0 s0 [] [] [] := Cx.start s0
    refine Rf.call0 C0 (t37 n p0 s0 (C0.gl rfl gl0)) ?_
    rintro r1 _ s2 ⟨A3, c4, e6, rfl, h5⟩ h9
    have C10 : Cx s0.next [] [] s0 s2 [] [(On.mk (rI .i64) r1 A3 c4 3 true e6)] [] := h9 [(On.mk (rI .i64) r1 A3 c4 3 true e6)] (by simpa using h5) (List.pairwise_singleton _ _)
    refine (Rf.asSl ?_)
    refine Rf.loop (Inv := Inv19_1 s0 p0 p1 gl0 A3 c4 e6 r1) (Ex := Ex19_1 s0 p0 p1 gl0 A3 c4 e6 r1) (x19_1 s0 p0 p1 gl0 A3 c4 e6 r1) (fun t g s K Q h => b19_1 n s0 p0 p1 gl0 A3 c4 e6 r1 t g s K Q h) n _ _ _ ⟨rfl, (C10.sub (List.Sublist.refl _) (List.Sublist.refl _) (List.Sublist.refl _))⟩ ?_
    intro t79 e g s116 h
    obtain ⟨w75, w76, w77, w78, rfl, rfl, C117⟩ := h
    rw [e19_after0_exit0 n]
    subst hH; subst hQ
    exact Rf.leaf fun _ => Ev.done (Rf.ret C117 rfl)
-- 39 "brindlewood/brindlewoodref1.Characters"
abbrev Inv39_1 (s0 : St) (p0 : ByteArray) (gl0 : GlobOk s0) (A3 : Option Addr) (c4 : Nat) (e6 : Nat) (r1 : (List Int)) (t : ((List ByteArray) × Int)) (g : Regs) (s : St) : Prop := ∃ (A15 : Option Addr) (c16 : Nat) (e17 : Nat), g = (rg 27 [(0, (Value.string p0)), (3, (Value.slice A15 (t.1).length c16)), (7, (Value.slice A3 (r1).length c4)), (8, (Value.int .i64 ((r1).length : Nat))), (9, (Value.int .i64 t.2))]) ∧ Cx s0.next [] [] s0 s [] [(On.mk rS t.1 A15 c16 9 false e17), (On.mk (rI .i64) r1 A3 c4 3 true e6)] []
abbrev Ex39_1 (s0 : St) (p0 : ByteArray) (gl0 : GlobOk s0) (A3 : Option Addr) (c4 : Nat) (e6 : Nat) (r1 : (List Int)) (t : ((List ByteArray) × Int)) (e : X) (g : Regs) (s : St) : Prop := ∃ (A87 : Option Addr) (c88 : Nat) (e89 : Nat), e = .exit 0 ∧ g = (rg 27 [(0, (Value.string p0)), (3, (Value.slice A87 (t.1).length c88)), (7, (Value.slice A3 (r1).length c4)), (8, (Value.int .i64 ((r1).length : Nat))), (9, (Value.int .i64 t.2)), (10, (Value.bool false))]) ∧ Cx s0.next [] [] s0 s [] [(On.mk rS t.1 A87 c88 9 false e89), (On.mk (rI .i64) r1 A3 c4 3 true e6)] []
theorem x39_1 (s0 : St) (p0 : ByteArray) (gl0 : GlobOk s0) (A3 : Option Addr) (c4 : Nat) (e6 : Nat) (r1 : (List Int)) (t : ((List ByteArray) × Int)) (e : X) (g : Regs) (s : St) (h : Ex39_1 s0 p0 gl0 A3 c4 e6 r1 t e g s) : e ≠ .normal := by
  obtain ⟨_, _, _, h, _⟩ := h
  rw [h]; intro hh; cases hh
def pb39_1 (n : Nat) (p0 : ByteArray) (r1 : (List Int)) (t : ((List ByteArray) × Int)) : Option (((List ByteArray) × Int) ⊕ ((List ByteArray) × Int)) :=
  (if (decide ((t.2 : Int) < ((r1).length : Nat))) then ((pj (fun (y75 : (List ByteArray)) => (some (.inl (y75, (IntKind.wrap .i64 (t.2 + 1)))))) (fun J73 => rd r1 t.2 (fun x49 => ((if (decide ((x49 : Int) > 0)) then (subP p0 t.2 (IntKind.wrap .i64 (t.2 + x49)) (fun z60 => apP 16 t.1 [z60] (fun y67 => (J73 (t.1 ++ [z60]))))) else ((J73 t.1)))))))) else (((some (.inr (t.1, t.2))))))
theorem b39_1 (n : Nat) (s0 : St) (p0 : ByteArray) (gl0 : GlobOk s0) (A3 : Option Addr) (c4 : Nat) (e6 : Nat) (r1 : (List Int)) (t : ((List ByteArray) × Int)) (g : Regs) (s46 : St) (K : Kont) (Q : Out → St → Prop) (h : Inv39_1 s0 p0 gl0 A3 c4 e6 r1 t g s46) :
    Rf (pb39_1 n p0 r1 t) (fun r => ∀ e g' s', LK (Inv39_1 s0 p0 gl0 A3 c4 e6 r1) (Ex39_1 s0 p0 gl0 A3 c4 e6 r1) r e g' s' → Ev (K e g' s') Q) (fun _ => Q) (kBody E 39 n [.b, .b, .a, .b, .a, .a] g s46 K) := by
  obtain ⟨y14, x18⟩ := t
  obtain ⟨A15, c16, e17, rfl, C47⟩ := h
  rw [e39_body0 n]
  unfold pb39_1
  refine Rf.gen fun H Q hH hQ => ?_
  try dsimp only
  refine Rf.ite ?_ ?_
  · refine Rf.pj fun J73 J73' hJ73 hJ73' => ?_
    have J73h : ∀ (e80 : Value) (e81 : Value) (e82 : Value) (A76 : Option Addr) (c77 : Nat) (e78 : Nat) (y75 : (List ByteArray)) (s83 : St) (_ : Cx s0.next [] [] s0 s83 [] [(On.mk rS y75 A76 c77 9 false e78), (On.mk (rI .i64) r1 A3 c4 3 true e6)] []), Rf (J73 y75) H Q (J73' (Value.slice A76 (y75).length c77) e80 e81 e82 s83) := by
      subst hJ73
      subst hJ73'
      intro e80 e81 e82 A76 c77 e78 y75 s83 C84
      subst hH; subst hQ
      exact Rf.leaf fun h => h _ _ _ ⟨rfl, _, _, _, rfl, (C84.sub (List.Sublist.refl _) (List.Sublist.refl _) (List.Sublist.refl _))⟩
    clear hJ73 hJ73'
    refine Rf.eltW (j := 1) C47 rfl rfl rfl fun x49 i50 o51 h52 h53 h54 h55 => ?_
    obtain ⟨c56, r57, h58⟩ := C47.loW (j := 1) rfl h52 h53 h54 h55
    obtain rfl := rI_elim r57
    refine Rf.ldI (h58.at 0 rfl) ?_
    refine Rf.ite ?_ ?_
    · refine Rf.subS fun z60 => ?_
      refine Rf.newR (r := rS) (xs := [z60]) C47 rfl (many.cons (c := [(Value.string z60)]) rS_mk many.nil) fun s61 (C62 : Cx s0.next [] [] s0 s61 [] [(On.mk rS [z60] (some ⟨s46.next, 0, none⟩) 1 9 false s46.next), (On.mk rS y14 A15 c16 9 false e17), (On.mk (rI .i64) r1 A3 c4 3 true e6)] []) => ?_
      refine Rf.kapp 1 C62 rfl rfl (by decide) (by decide) (Ap.sr u31 rfl (C62.srB m0)) fun A64 c65 e66 s69 (C70 : Cx s0.next [] [] s0 s69 [] [(On.mk rS [z60] (some ⟨s46.next, 0, none⟩) 1 9 false s46.next), (On.mk rS (y14 ++ [z60]) A64 c65 9 false e66), (On.mk (rI .i64) r1 A3 c4 3 true e6)] []) => ?_
      have C71 : Cx s0.next [] [] s0 s69 [] [(On.mk rS (y14 ++ [z60]) A64 c65 9 false e66), (On.mk (rI .i64) r1 A3 c4 3 true e6)] [] := C70.sub (List.Sublist.refl _) (List.Sublist.cons _ (List.Sublist.cons_cons _ (List.Sublist.cons_cons _ List.Sublist.slnil))) (List.Sublist.refl _)
      exact J73h _ _ _ A64 c65 e66 (y14 ++ [z60]) _ (C71.sub (List.Sublist.refl _) (List.Sublist.refl _) (List.Sublist.refl _))
    · exact J73h _ _ _ A15 c16 e17 y14 _ (C47.sub (List.Sublist.refl _) (List.Sublist.refl _) (List.Sublist.refl _))
  · subst hH; subst hQ
    exact Rf.leaf fun h => h _ _ _ ⟨_, _, _, rfl, rfl, (C47.sub (List.Sublist.refl _) (List.Sublist.refl _) (List.Sublist.refl _))⟩
abbrev P39 (N : Nat) (X : List Nat) (r : (List ByteArray)) (v : Value) (s : St) : Prop := ∃ (A0 : Option Addr) (c0 : Nat) (e0 : Nat), v = (Value.slice A0 (r).length c0) ∧ (On.mk rS r A0 c0 9 false e0).holds N X s
def p39 : Nat → ByteArray → Option (List ByteArray)
  | 0, _ => none
  | n + 1, p0 => (((p37 n p0).bind fun r1 => ((loopP (pb39_1 n p0 r1) n (([] : List ByteArray), 0)).bind fun t91 => (some (t91.1 : (List ByteArray))))))
theorem t39 (k : Nat) (p0 : ByteArray) (s0 : St) (gl0 : GlobOk s0) :
    Rf (p39 k p0) (fun _ => True) (fun r => RtC s0.next [] [] s0 (P39 s0.next [] r)) (acall E k 39 [(Value.string p0)] s0) := by
  cases k with
  | zero => exact Rf.none
  | succ n =>
    rw [e39 n]
    rw [p39]
    refine Rf.gen fun H Q hH hQ => ?_
    have C0 : Cx s0.next [] [] s0 s0 [] [] [] := Cx.start s0
    refine Rf.call0 C0 (t37 n p0 s0 (C0.gl rfl gl0)) ?_
    rintro r1 _ s2 ⟨A3, c4, e6, rfl, h5⟩ h9
    have C10 : Cx s0.next [] [] s0 s2 [] [(On.mk (rI .i64) r1 A3 c4 3 true e6)] [] := h9 [(On.mk (rI .i64) r1 A3 c4 3 true e6)] (by simpa using h5) (List.pairwise_singleton _ _)
    refine (Rf.asSl ?_)
    have C11 : Cx s0.next [] [] s0 s2 [] [(On.mk rS ([] : List ByteArray) none 0 9 false 0), (On.mk (rI .i64) r1 A3 c4 3 true e6)] [] := C10.addNil rS 9
    refine Rf.loop (Inv := Inv39_1 s0 p0 gl0 A3 c4 e6 r1) (Ex := Ex39_1 s0 p0 gl0 A3 c4 e6 r1) (x39_1 s0 p0 gl0 A3 c4 e6 r1) (fun t g s K Q h => b39_1 n s0 p0 gl0 A3 c4 e6 r1 t g s K Q h) n _ _ _ ⟨_, _, _, rfl, (C11.sub (List.Sublist.refl _) (List.Sublist.refl _) (List.Sublist.refl _))⟩ ?_
    intro t91 e g s119 h
    obtain ⟨A87, c88, e89, rfl, rfl, C120⟩ := h
    rw [e39_after0_exit0 n]
    subst hH; subst hQ
    exact Rf.leaf fun _ => Ev.done (Rf.ret C120 ⟨_, _, _, rfl, C120.own _ m0⟩)
-- 20 "brindlewood/brindlewoodref1.OffsetOf"
abbrev Inv20_1 (s0 : St) (p0 : ByteArray) (p1 : Int) (p2 : Int) (gl0 : GlobOk s0) (i81 : Nat) (t : Int) (g : Regs) (s : St) : Prop := g = (rg 83 [(0, (Value.string p0)), (1, (Value.int .i64 p1)), (2, (Value.int .i64 p2)), (7, (Value.pointer (some ⟨i81, 0, none⟩))), (10, (Value.int .i64 t))]) ∧ Cx s0.next [] [] s0 s [(i81, AObj.box 24 [(Value.int .i64 0), (Value.int .i64 0)])] [] []
abbrev Ex20_1 (s0 : St) (p0 : ByteArray) (p1 : Int) (p2 : Int) (gl0 : GlobOk s0) (i81 : Nat) (t : (Int ⊕ Int)) (e : X) (g : Regs) (s : St) : Prop := match t with
  | (.inl t) => e = .exit 1 ∧ g = (rg 83 [(0, (Value.string p0)), (1, (Value.int .i64 p1)), (2, (Value.int .i64 p2)), (7, (Value.pointer (some ⟨i81, 0, none⟩))), (10, (Value.int .i64 t)), (51, (Value.bool false))]) ∧ Cx s0.next [] [] s0 s [(i81, AObj.box 24 [(Value.int .i64 0), (Value.int .i64 0)])] [] []
  | (.inr t) => e = .ret ∧ g = (rg 83 [(6, (Value.int .i64 t)), (7, (Value.pointer (some ⟨i81, 0, none⟩)))]) ∧ Cx s0.next [] [] s0 s [(i81, AObj.box 24 [(Value.int .i64 0), (Value.int .i64 0)])] [] []
theorem x20_1 (s0 : St) (p0 : ByteArray) (p1 : Int) (p2 : Int) (gl0 : GlobOk s0) (i81 : Nat) (t : (Int ⊕ Int)) (e : X) (g : Regs) (s : St) (h : Ex20_1 s0 p0 p1 p2 gl0 i81 t e g s) : e ≠ .normal := by
  rcases t with t | t
  · obtain ⟨h, _⟩ := h
    rw [h]; intro hh; cases hh
  · obtain ⟨h, _⟩ := h
    rw [h]; intro hh; cases hh
def pb20_1 (n : Nat) (p0 : ByteArray) (p1 : Int) (p2 : Int) (t : Int) : Option (Int ⊕ (Int ⊕ Int)) :=
  (if (decide ((t : Int) ≤ (p0.size : Nat))) then ((pj (fun (_ : Unit) => (some (.inl (IntKind.wrap .i64 (t + 1))))) (fun J206 => pj (fun (b190 : Bool) => if b190 then (((J206 ()))) else (((p19 n p0 t).bind fun r194 => (pj (fun (b201 : Bool) => if b201 then ((((some (.inr (.inr t)))))) else ((J206 ()))) (fun J200 => if ((r194.1 : Int) == p1) then ((J200 ((r194.2 : Int) == p2))) else ((J200 false))))))) (fun J189 => if (decide ((t : Int) < (p0.size : Nat))) then ((p37 n p0).bind fun r168 => rd r168 t (fun x178 => (J189 ((x178 : Int) == 0)))) else ((J189 false)))))) else (((some (.inr (.inl t))))))
theorem b20_1 (n : Nat) (s0 : St) (p0 : ByteArray) (p1 : Int) (p2 : Int) (gl0 : GlobOk s0) (i81 : Nat) (x80 : Int) (g : Regs) (s165 : St) (K : Kont) (Q : Out → St → Prop) (h : Inv20_1 s0 p0 p1 p2 gl0 i81 x80 g s165) :
    Rf (pb20_1 n p0 p1 p2 x80) (fun r => ∀ e g' s', LK (Inv20_1 s0 p0 p1 p2 gl0 i81) (Ex20_1 s0 p0 p1 p2 gl0 i81) r e g' s' → Ev (K e g' s') Q) (fun _ => Q) (kBody E 20 n [.b, .b, .b, .b, .a, .b, .a, .a] g s165 K) := by
  obtain ⟨rfl, C166⟩ := h
  rw [e20_body0 n]
  unfold pb20_1
  refine Rf.gen fun H Q hH hQ => ?_
  refine Rf.ite ?_ ?_
  · refine Rf.pj fun J206 J206' hJ206 hJ206' => ?_
    have J206h : ∀ (e207 : Value) (e208 : Value) (s209 : St) (_ : Cx s0.next [] [] s0 s209 [(i81, AObj.box 24 [(Value.int .i64 0), (Value.int .i64 0)])] [] []), Rf (J206 ()) H Q (J206' e207 e208 s209) := by
      subst hJ206
      subst hJ206'
      intro e207 e208 s209 C210
      subst hH; subst hQ
      exact Rf.leaf fun h => h _ _ _ ⟨rfl, rfl, (C210.sub (List.Sublist.refl _) (List.Sublist.refl _) (List.Sublist.refl _))⟩
    clear hJ206 hJ206'
    refine Rf.pj fun J189 J189' hJ189 hJ189' => ?_
    have J189h : ∀ (b190 : Bool) (s192 : St) (_ : Cx s0.next [] [] s0 s192 [(i81, AObj.box 24 [(Value.int .i64 0), (Value.int .i64 0)])] [] []), Rf (J189 b190) H Q (J189' b190 s192) := by
      subst hJ189
      subst hJ189'
      intro b190 s192 C193
      refine Rf.ite ?_ ?_
      · exact J206h _ _ _ (C193.sub (List.Sublist.refl _) (List.Sublist.refl _) (List.Sublist.refl _))
      · refine Rf.call0 C193 (t19 n p0 x80 s192 (C193.gl rfl gl0)) ?_
        rintro r194 _ s195 rfl h198
        have C199 : Cx s0.next [] [] s0 s195 [(i81, AObj.box 24 [(Value.int .i64 0), (Value.int .i64 0)])] [] [] := h198 [] (by simp) List.Pairwise.nil
        refine (Rf.asTup (Rf.unc (Rf.asI (Rf.unc (Rf.asI (Rf.unn ?_))))))
        refine Rf.pj fun J200 J200' hJ200 hJ200' => ?_
        have J200h : ∀ (b201 : Bool) (_ : Cx s0.next [] [] s0 s195 [(i81, AObj.box 24 [(Value.int .i64 0), (Value.int .i64 0)])] [] []), Rf (J200 b201) H Q (J200' b201) := by
          subst hJ200
          subst hJ200'
          intro b201 C203
          refine Rf.ite ?_ ?_
          · refine Rf.sto 0 C203 rfl (by simp) rfl fun s204 (C205 : Cx s0.next [] [] s0 s204 [(i81, AObj.box 24 [(Value.int .i64 0), (Value.int .i64 0)])] [] []) => ?_
            subst hH; subst hQ
            exact Rf.leaf fun h => h _ _ _ ⟨rfl, rfl, (C205.sub (List.Sublist.refl _) (List.Sublist.refl _) (List.Sublist.refl _))⟩
          · exact J206h _ _ _ (C203.sub (List.Sublist.refl _) (List.Sublist.refl _) (List.Sublist.refl _))
        clear hJ200 hJ200'
        refine Rf.ite ?_ ?_
        · exact J200h ((r194.2 : Int) == p2) (C199.sub (List.Sublist.refl _) (List.Sublist.refl _) (List.Sublist.refl _))
        · exact J200h false (C199.sub (List.Sublist.refl _) (List.Sublist.refl _) (List.Sublist.refl _))
    clear hJ189 hJ189'
    refine Rf.ite ?_ ?_
    · refine Rf.call0 C166 (t37 n p0 s165 (C166.gl rfl gl0)) ?_
      rintro r168 _ s169 ⟨A170, c171, e173, rfl, h172⟩ h176
      have C177 : Cx s0.next [] [] s0 s169 [(i81, AObj.box 24 [(Value.int .i64 0), (Value.int .i64 0)])] [(On.mk (rI .i64) r168 A170 c171 3 true e173)] [] := h176 [(On.mk (rI .i64) r168 A170 c171 3 true e173)] (by simpa using h172) (List.pairwise_singleton _ _)
      refine (Rf.asSl ?_)
      refine Rf.eltW (j := 0) C177 rfl rfl rfl fun x178 i179 o180 h181 h182 h183 h184 => ?_
      obtain ⟨c185, r186, h187⟩ := C177.loW (j := 0) rfl h181 h182 h183 h184
      obtain rfl := rI_elim r186
      refine Rf.ldI (h187.at 0 rfl) ?_
      exact J189h ((x178 : Int) == 0) _ (C177.sub (List.Sublist.refl _) (List.Sublist.cons _ List.Sublist.slnil) (List.Sublist.refl _))
    · exact J189h false _ (C166.sub (List.Sublist.refl _) (List.Sublist.refl _) (List.Sublist.refl _))
  · subst hH; subst hQ
    exact Rf.leaf fun h => h _ _ _ ⟨rfl, rfl, (C166.sub (List.Sublist.refl _) (List.Sublist.refl _) (List.Sublist.refl _))⟩
abbrev P20 (N : Nat) (X : List Nat) (r : (Int × (Int × Int))) (v : Value) (s : St) : Prop := v = (Value.tuple #[(Value.int .i64 r.1), (Value.agg #[(Value.int .i64 r.2.1), (Value.int .i64 r.2.2)])])
def p20 : Nat → ByteArray → Int → Int → Option (Int × (Int × Int))
  | 0, _, _, _ => none
  | n + 1, p0, p1, p2 => ((p12 n p0).bind fun r4 => ((p13 n p0).bind fun r15 => ((if ((r4.1 : Int) != 0) then (((some ((0, (r4.1, r4.2)) : (Int × (Int × Int)))))) else (pj (fun (b33 : Bool) => if b33 then ((p17 n 4 (-2)).bind fun r36 => ((some ((0, (r36.1, r36.2)) : (Int × (Int × Int)))))) else (pj (fun (b62 : Bool) => if b62 then ((p17 n 4 (-3)).bind fun r66 => ((some ((0, (r66.1, r66.2)) : (Int × (Int × Int)))))) else ((((loopP (pb20_1 n p0 p1 p2) n 0).bind fun t391 => match t391 with | (.inl t213) => ((some ((0, (0, 0)) : (Int × (Int × Int))))) | (.inr t303) => (some ((t303, (0, 0)) : (Int × (Int × Int)))))))) (fun J61 => if (decide ((p2 : Int) < 1)) then ((J61 true)) else (rd r15 (IntKind.wrap .i64 (p1 - 1)) (fun x44 => (p39 n x44).bind fun r51 => (J61 (decide ((p2 : Int) > (IntKind.wrap .i64 (((r51).length : Nat) + 1)))))))))) (fun J32 => if (decide ((p1 : Int) < 1)) then ((J32 true)) else ((J32 (decide ((p1 : Int) > ((r15).length : Nat)))))))))))
theorem t20 (k : Nat) (p0 : ByteArray) (p1 : Int) (p2 : Int) (s0 : St) (gl0 : GlobOk s0) :
    Rf (p20 k p0 p1 p2) (fun _ => True) (fun r => RtC s0.next [] [] s0 (P20 s0.next [] r)) (acall E k 20 [(Value.string p0), (Value.int .i64 p1), (Value.int .i64 p2)] s0) := by
  cases k with
  | zero => exact Rf.none
  | succ n =>
    rw [e20 n]
    rw [p20]
    refine Rf.gen fun H Q hH hQ => ?_
    have C0 : Cx s0.next [] [] s0 s0 [] [] [] := Cx.start s0
    refine Rf.new C0 fun s1 (C2 : Cx s0.next [] [] s0 s1 [(s0.next, AObj.box 24 [(Value.int .i64 0), (Value.int .i64 0)])] [] []) => ?_
    refine Rf.call0 C2 (t12 n p0 s1 (C2.gl rfl gl0)) ?_
    rintro r4 _ s5 rfl h8
    have C9 : Cx s0.next [] [] s0 s5 [(s0.next, AObj.box 24 [(Value.int .i64 0), (Value.int .i64 0)])] [] [] := h8 [] (by simp) List.Pairwise.nil
    refine (Rf.asAgg (Rf.unc (Rf.asI (Rf.unc (Rf.asI (Rf.unn ?_))))))
    refine Rf.new C9 fun s10 (C11 : Cx s0.next [] [] s0 s10 [(s5.next, AObj.box 24 [(Value.int .i64 0), (Value.int .i64 0)]), (s0.next, AObj.box 24 [(Value.int .i64 0), (Value.int .i64 0)])] [] []) => ?_
    refine Rf.sto 0 C11 rfl (by simp) rfl fun s13 (C14 : Cx s0.next [] [] s0 s13 [(s5.next, AObj.box 24 [(Value.int .i64 r4.1), (Value.int .i64 r4.2)]), (s0.next, AObj.box 24 [(Value.int .i64 0), (Value.int .i64 0)])] [] []) => ?_
    refine Rf.call0 C14 (t13 n p0 s13 (C14.gl rfl gl0)) ?_
    rintro r15 _ s16 ⟨A17, c18, e20, rfl, h19⟩ h23
    have C24 : Cx s0.next [] [] s0 s16 [(s5.next, AObj.box 24 [(Value.int .i64 r4.1), (Value.int .i64 r4.2)]), (s0.next, AObj.box 24 [(Value.int .i64 0), (Value.int .i64 0)])] [(On.mk rS r15 A17 c18 9 false e20)] [] := h23 [(On.mk rS r15 A17 c18 9 false e20)] (by simpa using h19) (List.pairwise_singleton _ _)
    refine (Rf.asSl ?_)
    refine Rf.ldI (C24.at m0 rfl) ?_
    refine Rf.ite ?_ ?_
    · refine Rf.ldI (C24.at m0 rfl) ?_
      refine Rf.ldI (C24.at m0 rfl) ?_
      refine Rf.sto 1 C24 rfl (by simp) rfl fun s30 (C31 : Cx s0.next [] [] s0 s30 [(s5.next, AObj.box 24 [(Value.int .i64 r4.1), (Value.int .i64 r4.2)]), (s0.next, AObj.box 24 [(Value.int .i64 r4.1), (Value.int .i64 r4.2)])] [(On.mk rS r15 A17 c18 9 false e20)] []) => ?_
      refine Rf.ldI (C31.at m1 rfl) ?_
      refine Rf.ldI (C31.at m1 rfl) ?_
      subst hH; subst hQ
      exact Rf.leaf fun _ => Ev.done (Rf.ret C31 rfl)
    · refine Rf.pj fun J32 J32' hJ32 hJ32' => ?_
      have J32h : ∀ (b33 : Bool) (_ : Cx s0.next [] [] s0 s16 [(s0.next, AObj.box 24 [(Value.int .i64 0), (Value.int .i64 0)])] [(On.mk rS r15 A17 c18 9 false e20)] []), Rf (J32 b33) H Q (J32' b33) := by
        subst hJ32
        subst hJ32'
        intro b33 C35
        refine Rf.ite ?_ ?_
        · refine Rf.call0 C35 (t17 n 4 (-2) s16 (C35.gl rfl gl0)) ?_
          rintro r36 _ s37 rfl h40
          have C41 : Cx s0.next [] [] s0 s37 [(s0.next, AObj.box 24 [(Value.int .i64 0), (Value.int .i64 0)])] [(On.mk rS r15 A17 c18 9 false e20)] [] := h40 [] (by simp) List.Pairwise.nil
          refine (Rf.asAgg (Rf.unc (Rf.asI (Rf.unc (Rf.asI (Rf.unn ?_))))))
          refine Rf.sto 0 C41 rfl (by simp) rfl fun s42 (C43 : Cx s0.next [] [] s0 s42 [(s0.next, AObj.box 24 [(Value.int .i64 r36.1), (Value.int .i64 r36.2)])] [(On.mk rS r15 A17 c18 9 false e20)] []) => ?_
          refine Rf.ldI (C43.at m0 rfl) ?_
          refine Rf.ldI (C43.at m0 rfl) ?_
          subst hH; subst hQ
          exact Rf.leaf fun _ => Ev.done (Rf.ret C43 rfl)
        · refine Rf.pj fun J61 J61' hJ61 hJ61' => ?_
          have J61h : ∀ (b62 : Bool) (s64 : St) (_ : Cx s0.next [] [] s0 s64 [(s0.next, AObj.box 24 [(Value.int .i64 0), (Value.int .i64 0)])] [] []), Rf (J61 b62) H Q (J61' b62 s64) := by
            subst hJ61
            subst hJ61'
            intro b62 s64 C65
            refine Rf.ite ?_ ?_
            · refine Rf.call0 C65 (t17 n 4 (-3) s64 (C65.gl rfl gl0)) ?_
              rintro r66 _ s67 rfl h70
              have C71 : Cx s0.next [] [] s0 s67 [(s0.next, AObj.box 24 [(Value.int .i64 0), (Value.int .i64 0)])] [] [] := h70 [] (by simp) List.Pairwise.nil
              refine (Rf.asAgg (Rf.unc (Rf.asI (Rf.unc (Rf.asI (Rf.unn ?_))))))
              refine Rf.sto 0 C71 rfl (by simp) rfl fun s72 (C73 : Cx s0.next [] [] s0 s72 [(s0.next, AObj.box 24 [(Value.int .i64 r66.1), (Value.int .i64 r66.2)])] [] []) => ?_
              refine Rf.ldI (C73.at m0 rfl) ?_
              refine Rf.ldI (C73.at m0 rfl) ?_
              subst hH; subst hQ
              exact Rf.leaf fun _ => Ev.done (Rf.ret C73 rfl)
            · refine Rf.loop (Inv := Inv20_1 s0 p0 p1 p2 gl0 s0.next) (Ex := Ex20_1 s0 p0 p1 p2 gl0 s0.next) (x20_1 s0 p0 p1 p2 gl0 s0.next) (fun t g s K Q h => b20_1 n s0 p0 p1 p2 gl0 s0.next t g s K Q h) n _ _ _ ⟨rfl, (C65.sub (List.Sublist.refl _) (List.Sublist.refl _) (List.Sublist.refl _))⟩ ?_
              intro t e g s h
              rcases t with t213 | t303
              · generalize s = s297 at h ⊢
                obtain ⟨rfl, rfl, C298⟩ := h
                rw [e20_after0_exit1 n]
                refine Rf.sto 0 C298 rfl (by simp) rfl fun s299 (C300 : Cx s0.next [] [] s0 s299 [(s0.next, AObj.box 24 [(Value.int .i64 0), (Value.int .i64 0)])] [] []) => ?_
                refine Rf.ldI (C300.at m0 rfl) ?_
                refine Rf.ldI (C300.at m0 rfl) ?_
                subst hH; subst hQ
                exact Rf.leaf fun _ => Ev.done (Rf.ret C300 rfl)
              · generalize s = s387 at h ⊢
                obtain ⟨rfl, rfl, C388⟩ := h
                rw [e20_after0_ret n]
                refine Rf.ldI (C388.at m0 rfl) ?_
                refine Rf.ldI (C388.at m0 rfl) ?_
                subst hH; subst hQ
                exact Rf.leaf fun _ => Ev.done (Rf.ret C388 rfl)
          clear hJ61 hJ61'
          refine Rf.ite ?_ ?_
          · exact J61h true _ (C35.sub (List.Sublist.refl _) (List.Sublist.cons _ List.Sublist.slnil) (List.Sublist.refl _))
          · refine Rf.elt (r := rS) (C35.srB m0) rfl fun x44 i45 o46 c47 r48 h49 => ?_
            obtain rfl := rS_elim r48
            refine Rf.ldS (h49.at 0 rfl) ?_
            refine Rf.call0 C35 (t39 n x44 s16 (C35.gl rfl gl0)) ?_
            rintro r51 _ s52 ⟨A53, c54, e56, rfl, h55⟩ h59
            have C60 : Cx s0.next [] [] s0 s52 [(s0.next, AObj.box 24 [(Value.int .i64 0), (Value.int .i64 0)])] [(On.mk rS r51 A53 c54 9 false e56), (On.mk rS r15 A17 c18 9 false e20)] [] := h59 [(On.mk rS r51 A53 c54 9 false e56)] (by simpa using h55) (List.pairwise_singleton _ _)
            refine (Rf.asSl ?_)
            exact J61h (decide ((p2 : Int) > (IntKind.wrap .i64 (((r51).length : Nat) + 1)))) _ (C60.sub (List.Sublist.refl _) (List.Sublist.cons _ (List.Sublist.cons _ List.Sublist.slnil)) (List.Sublist.refl _))
      clear hJ32 hJ32'
      refine Rf.ite ?_ ?_
      · exact J32h true (C24.sub (List.Sublist.cons _ (List.Sublist.cons_cons _ List.Sublist.slnil)) (List.Sublist.refl _) (List.Sublist.refl _))
      · exact J32h (decide ((p1 : Int) > ((r15).length : Nat))) (C24.sub (List.Sublist.cons _ (List.Sublist.cons_cons _ List.Sublist.slnil)) (List.Sublist.refl _) (List.Sublist.refl _))
-- 22 "brindlewood/brindlewoodref1.ExcerptOf"
abbrev P22 (N : Nat) (X : List Nat) (r : (ByteArray × (Int × Int))) (v : Value) (s : St) : Prop := v = (Value.tuple #[(Value.string r.1), (Value.agg #[(Value.int .i64 r.2.1), (Value.int .i64 r.2.2)])])
def p22 : Nat → ByteArray → Int → Int → Int → Option (ByteArray × (Int × Int))
  | 0, _, _, _, _ => none
  | n + 1, p0, p1, p2, p3 => ((p20 n p0 p1 p2).bind fun r4 => (pj (fun (x32 : Int) (x33 : Int) => (if ((x32 : Int) != 0) then (((some (((⟨#[]⟩ : ByteArray), (x32, x33)) : (ByteArray × (Int × Int)))))) else (((p13 n p0).bind fun r46 => rd r46 (IntKind.wrap .i64 (p1 - 1)) (fun x56 => (p39 n x56).bind fun r63 => ((pj (fun (y95 : (List ByteArray)) (x98 : Int) => (p27 n y95 (⟨#[]⟩ : ByteArray)).bind fun r104 => catP r104 (⟨#[10]⟩ : ByteArray) (fun z109 => (p40 n (⟨#[32]⟩ : ByteArray) (IntKind.wrap .i64 ((IntKind.wrap .i64 (p2 - 1)) - x98))).bind fun r110 => catP z109 r110 (fun z115 => catP z115 (⟨#[94]⟩ : ByteArray) (fun z116 => (some ((z116, (0, 0)) : (ByteArray × (Int × Int)))))))) (fun J91 => (if (decide ((((r63).length : Nat) : Int) > p3)) then (divP .i64 p3 2 (fun x73 => (pj (fun (x75 : Int) => pj (fun (x80 : Int) => slP r63 x80 (IntKind.wrap .i64 (x80 + p3)) (fun y88 => (J91 y88 x80))) (fun J79 => (if (decide ((x75 : Int) > (IntKind.wrap .i64 (((r63).length : Nat) - p3)))) then ((J79 (IntKind.wrap .i64 (((r63).length : Nat) - p3)))) else ((J79 x75))))) (fun J74 => (if (decide (((IntKind.wrap .i64 ((IntKind.wrap .i64 (p2 - 1)) - x73)) : Int) < 0)) then ((J74 0)) else ((J74 (IntKind.wrap .i64 ((IntKind.wrap .i64 (p2 - 1)) - x73))))))))) else ((J91 r63 0))))))))))) (fun J31 => pj (fun (b20 : Bool) => if b20 then ((p17 n 4 (-4)).bind fun r23 => (J31 r23.1 r23.2)) else ((J31 r4.2.1 r4.2.2))) (fun J19 => if ((r4.2.1 : Int) == 0) then (if (decide ((p3 : Int) < 20)) then ((J19 true)) else ((J19 (decide ((p3 : Int) > 200))))) else ((J19 false))))))
theorem t22 (k : Nat) (p0 : ByteArray) (p1 : Int) (p2 : Int) (p3 : Int) (s0 : St) (gl0 : GlobOk s0) :
    Rf (p22 k p0 p1 p2 p3) (fun _ => True) (fun r => RtC s0.next [] [] s0 (P22 s0.next [] r)) (acall E k 22 [(Value.string p0), (Value.int .i64 p1), (Value.int .i64 p2), (Value.int .i64 p3)] s0) := by
  cases k with
  | zero => exact Rf.none
  | succ n =>
    rw [e22 n]
    rw [p22]
    refine Rf.gen fun H Q hH hQ => ?_
    have C0 : Cx s0.next [] [] s0 s0 [] [] [] := Cx.start s0
    refine Rf.new C0 fun s1 (C2 : Cx s0.next [] [] s0 s1 [(s0.next, AObj.box 24 [(Value.int .i64 0), (Value.int .i64 0)])] [] []) => ?_
    refine Rf.call0 C2 (t20 n p0 p1 p2 s1 (C2.gl rfl gl0)) ?_
    rintro r4 _ s5 rfl h9
    have C10 : Cx s0.next [] [] s0 s5 [(s0.next, AObj.box 24 [(Value.int .i64 0), (Value.int .i64 0)])] [] [] := h9 [] (by simp) List.Pairwise.nil
    refine (Rf.asTup (Rf.unc (Rf.asI (Rf.unc (Rf.asAgg (Rf.unc (Rf.asI (Rf.unc (Rf.asI (Rf.unn (Rf.unn ?_)))))))))))
    refine Rf.new C10 fun s11 (C12 : Cx s0.next [] [] s0 s11 [(s5.next, AObj.box 24 [(Value.int .i64 0), (Value.int .i64 0)]), (s0.next, AObj.box 24 [(Value.int .i64 0), (Value.int .i64 0)])] [] []) => ?_
    refine Rf.sto 0 C12 rfl (by simp) rfl fun s14 (C15 : Cx s0.next [] [] s0 s14 [(s5.next, AObj.box 24 [(Value.int .i64 r4.2.1), (Value.int .i64 r4.2.2)]), (s0.next, AObj.box 24 [(Value.int .i64 0), (Value.int .i64 0)])] [] []) => ?_
    refine Rf.pj fun J31 J31' hJ31 hJ31' => ?_
    have J31h : ∀ (e34 : Value) (x32 : Int) (x33 : Int) (s35 : St) (_ : Cx s0.next [] [] s0 s35 [(s5.next, AObj.box 24 [(Value.int .i64 x32), (Value.int .i64 x33)]), (s0.next, AObj.box 24 [(Value.int .i64 0), (Value.int .i64 0)])] [] []), Rf (J31 x32 x33) H Q (J31' e34 s35) := by
      subst hJ31
      subst hJ31'
      intro e34 x32 x33 s35 C36
      refine Rf.ldI (C36.at m0 rfl) ?_
      refine Rf.ite ?_ ?_
      · refine Rf.ldI (C36.at m0 rfl) ?_
        refine Rf.ldI (C36.at m0 rfl) ?_
        refine Rf.sto 1 C36 rfl (by simp) rfl fun s42 (C43 : Cx s0.next [] [] s0 s42 [(s5.next, AObj.box 24 [(Value.int .i64 x32), (Value.int .i64 x33)]), (s0.next, AObj.box 24 [(Value.int .i64 x32), (Value.int .i64 x33)])] [] []) => ?_
        refine Rf.ldI (C43.at m1 rfl) ?_
        refine Rf.ldI (C43.at m1 rfl) ?_
        subst hH; subst hQ
        exact Rf.leaf fun _ => Ev.done (Rf.ret C43 rfl)
      · refine Rf.call0 C36 (t13 n p0 s35 (C36.gl rfl gl0)) ?_
        rintro r46 _ s47 ⟨A48, c49, e51, rfl, h50⟩ h54
        have C55 : Cx s0.next [] [] s0 s47 [(s5.next, AObj.box 24 [(Value.int .i64 x32), (Value.int .i64 x33)]), (s0.next, AObj.box 24 [(Value.int .i64 0), (Value.int .i64 0)])] [(On.mk rS r46 A48 c49 9 false e51)] [] := h54 [(On.mk rS r46 A48 c49 9 false e51)] (by simpa using h50) (List.pairwise_singleton _ _)
        refine (Rf.asSl ?_)
        refine Rf.elt (r := rS) (C55.srB m0) rfl fun x56 i57 o58 c59 r60 h61 => ?_
        obtain rfl := rS_elim r60
        refine Rf.ldS (h61.at 0 rfl) ?_
        refine Rf.call0 C55 (t39 n x56 s47 (C55.gl rfl gl0)) ?_
        rintro r63 _ s64 ⟨A65, c66, e68, rfl, h67⟩ h71
        have C72 : Cx s0.next [] [] s0 s64 [(s5.next, AObj.box 24 [(Value.int .i64 x32), (Value.int .i64 x33)]), (s0.next, AObj.box 24 [(Value.int .i64 0), (Value.int .i64 0)])] [(On.mk rS r63 A65 c66 9 false e68), (On.mk rS r46 A48 c49 9 false e51)] [] := h71 [(On.mk rS r63 A65 c66 9 false e68)] (by simpa using h67) (List.pairwise_singleton _ _)
        refine (Rf.asSl ?_)
        refine Rf.pj fun J91 J91' hJ91 hJ91' => ?_
        have J91h : ∀ (e99 : Value) (e102 : Value) (A93 : Option Addr) (c94 : Nat) (y95 : (List ByteArray)) (x98 : Int) (_ : Cx s0.next [] [] s0 s64 [(s0.next, AObj.box 24 [(Value.int .i64 0), (Value.int .i64 0)])] [] [(Fa.sr rS A93 c94 y95)]), Rf (J91 y95 x98) H Q (J91' e99 (Value.slice A93 (y95).length c94) x98 e102) := by
          subst hJ91
          subst hJ91'
          intro e99 e102 A93 c94 y95 x98 C103
          refine Rf.call0 C103 (t27 n y95 (⟨#[]⟩ : ByteArray) s64 (C103.gl rfl gl0) (C103.srG m0)) ?_
          rintro r104 _ s105 rfl h107
          have C108 : Cx s0.next [] [] s0 s105 [(s0.next, AObj.box 24 [(Value.int .i64 0), (Value.int .i64 0)])] [] [(Fa.sr rS A93 c94 y95)] := h107 [] (by simp) List.Pairwise.nil
          refine (Rf.asS ?_)
          refine Rf.cat fun z109 => ?_
          refine Rf.call0 C108 (t40 n (⟨#[32]⟩ : ByteArray) (IntKind.wrap .i64 ((IntKind.wrap .i64 (p2 - 1)) - x98)) s105 (C108.gl rfl gl0)) ?_
          rintro r110 _ s111 rfl h113
          have C114 : Cx s0.next [] [] s0 s111 [(s0.next, AObj.box 24 [(Value.int .i64 0), (Value.int .i64 0)])] [] [(Fa.sr rS A93 c94 y95)] := h113 [] (by simp) List.Pairwise.nil
          refine (Rf.asS ?_)
          refine Rf.cat fun z115 => ?_
          refine Rf.cat fun z116 => ?_
          refine Rf.sto 0 C114 rfl (by simp) rfl fun s117 (C118 : Cx s0.next [] [] s0 s117 [(s0.next, AObj.box 24 [(Value.int .i64 0), (Value.int .i64 0)])] [] [(Fa.sr rS A93 c94 y95)]) => ?_
          refine Rf.ldI (C118.at m0 rfl) ?_
          refine Rf.ldI (C118.at m0 rfl) ?_
          subst hH; subst hQ
          exact Rf.leaf fun _ => Ev.done (Rf.ret C118 rfl)
        clear hJ91 hJ91'
        refine Rf.ite ?_ ?_
        · refine Rf.divI fun x73 => ?_
          refine Rf.pj fun J74 J74' hJ74 hJ74' => ?_
          have J74h : ∀ (e77 : Value) (x75 : Int) (_ : Cx s0.next [] [] s0 s64 [(s0.next, AObj.box 24 [(Value.int .i64 0), (Value.int .i64 0)])] [(On.mk rS r63 A65 c66 9 false e68)] []), Rf (J74 x75) H Q (J74' x75 e77) := by
            subst hJ74
            subst hJ74'
            intro e77 x75 C78
            refine Rf.pj fun J79 J79' hJ79 hJ79' => ?_
            have J79h : ∀ (e82 : Value) (x80 : Int) (_ : Cx s0.next [] [] s0 s64 [(s0.next, AObj.box 24 [(Value.int .i64 0), (Value.int .i64 0)])] [(On.mk rS r63 A65 c66 9 false e68)] []), Rf (J79 x80) H Q (J79' x80 e82) := by
              subst hJ79
              subst hJ79'
              intro e82 x80 C83
              refine Rf.ksl (r := rS) u31 (by kernel_rfl) (C83.srB m0) rfl rfl fun y88 A84 c85 h86 => ?_
              have C89 := C83.add (Fa.sr rS A84 c85 y88) h86
              exact J91h _ _ A84 c85 y88 x80 (C89.sub (List.Sublist.refl _) (List.Sublist.cons _ List.Sublist.slnil) (List.Sublist.refl _))
            clear hJ79 hJ79'
            refine Rf.ite ?_ ?_
            · exact J79h _ (IntKind.wrap .i64 (((r63).length : Nat) - p3)) (C78.sub (List.Sublist.refl _) (List.Sublist.refl _) (List.Sublist.refl _))
            · exact J79h _ x75 (C78.sub (List.Sublist.refl _) (List.Sublist.refl _) (List.Sublist.refl _))
          clear hJ74 hJ74'
          refine Rf.ite ?_ ?_
          · exact J74h _ 0 (C72.sub (List.Sublist.cons _ (List.Sublist.cons_cons _ List.Sublist.slnil)) (List.Sublist.cons_cons _ (List.Sublist.cons _ List.Sublist.slnil)) (List.Sublist.refl _))
          · exact J74h _ (IntKind.wrap .i64 ((IntKind.wrap .i64 (p2 - 1)) - x73)) (C72.sub (List.Sublist.cons _ (List.Sublist.cons_cons _ List.Sublist.slnil)) (List.Sublist.cons_cons _ (List.Sublist.cons _ List.Sublist.slnil)) (List.Sublist.refl _))
        · have C97 := C72.add (Fa.sr rS A65 c66 r63) (C72.srB m0)
          exact J91h _ _ A65 c66 r63 0 (C97.sub (List.Sublist.cons _ (List.Sublist.cons_cons _ List.Sublist.slnil)) (List.Sublist.cons _ (List.Sublist.cons _ List.Sublist.slnil)) (List.Sublist.refl _))
    clear hJ31 hJ31'
    refine Rf.pj fun J19 J19' hJ19 hJ19' => ?_
    have J19h : ∀ (b20 : Bool) (_ : Cx s0.next [] [] s0 s14 [(s5.next, AObj.box 24 [(Value.int .i64 r4.2.1), (Value.int .i64 r4.2.2)]), (s0.next, AObj.box 24 [(Value.int .i64 0), (Value.int .i64 0)])] [] []), Rf (J19 b20) H Q (J19' b20) := by
      subst hJ19
      subst hJ19'
      intro b20 C22
      refine Rf.ite ?_ ?_
      · refine Rf.call0 C22 (t17 n 4 (-4) s14 (C22.gl rfl gl0)) ?_
        rintro r23 _ s24 rfl h27
        have C28 : Cx s0.next [] [] s0 s24 [(s5.next, AObj.box 24 [(Value.int .i64 r4.2.1), (Value.int .i64 r4.2.2)]), (s0.next, AObj.box 24 [(Value.int .i64 0), (Value.int .i64 0)])] [] [] := h27 [] (by simp) List.Pairwise.nil
        refine (Rf.asAgg (Rf.unc (Rf.asI (Rf.unc (Rf.asI (Rf.unn ?_))))))
        refine Rf.sto 0 C28 rfl (by simp) rfl fun s29 (C30 : Cx s0.next [] [] s0 s29 [(s5.next, AObj.box 24 [(Value.int .i64 r23.1), (Value.int .i64 r23.2)]), (s0.next, AObj.box 24 [(Value.int .i64 0), (Value.int .i64 0)])] [] []) => ?_
        exact J31h _ r23.1 r23.2 _ (C30.sub (List.Sublist.refl _) (List.Sublist.refl _) (List.Sublist.refl _))
      · exact J31h _ r4.2.1 r4.2.2 _ (C22.sub (List.Sublist.refl _) (List.Sublist.refl _) (List.Sublist.refl _))
    clear hJ19 hJ19'
    refine Rf.ldI (C15.at m0 rfl) ?_
    refine Rf.ite ?_ ?_
    · refine Rf.ite ?_ ?_
      · exact J19h true (C15.sub (List.Sublist.refl _) (List.Sublist.refl _) (List.Sublist.refl _))
      · exact J19h (decide ((p3 : Int) > 200)) (C15.sub (List.Sublist.refl _) (List.Sublist.refl _) (List.Sublist.refl _))
    · exact J19h false (C15.sub (List.Sublist.refl _) (List.Sublist.refl _) (List.Sublist.refl _))
-- 9 "brindlewood/brindlewoodlaw1.places"
abbrev P9 (N : Nat) (X : List Nat) (r : Bool) (v : Value) (s : St) : Prop := v = (Value.bool r)
def p9 : Nat → Option Bool
  | 0 => none
  | n + 1 => ((p14 n (⟨#[97, 10, 98, 99]⟩ : ByteArray)).bind fun r1 => ((p10 n (⟨#[97, 10, 98, 99]⟩ : ByteArray) 3).bind fun r13 => ((p11 n (⟨#[97, 10, 98, 99]⟩ : ByteArray) 2 2).bind fun r26 => ((p21 n (⟨#[97, 10, 98, 99]⟩ : ByteArray) 2 2 20).bind fun r38 => (pj (fun (b63 : Bool) => some (b63 : Bool)) (fun J62 => if (((IntKind.wrap .i64 ((IntKind.wrap .i64 ((IntKind.wrap .i64 (r1.2.1 + r13.2.2.1)) + r26.2.1)) + r38.2.1)) : Int) == 0) then (if ((r1.1 : Int) == 2) then (if ((r13.1 : Int) == 2) then (if ((r13.2.1 : Int) == 2) then (if ((r26.1 : Int) == 3) then ((J62 (r38.1.toList == (⟨#[98, 99, 10, 32, 94]⟩ : ByteArray).toList))) else ((J62 false))) else ((J62 false))) else ((J62 false))) else ((J62 false))) else ((J62 false))))))))
theorem t9 (k : Nat) (s0 : St) (gl0 : GlobOk s0) :
    Rf (p9 k) (fun _ => True) (fun r => RtC s0.next [] [] s0 (P9 s0.next [] r)) (acall E k 9 [] s0) := by
  cases k with
  | zero => exact Rf.none
  | succ n =>
    rw [e9 n]
    rw [p9]
    refine Rf.gen fun H Q hH hQ => ?_
    have C0 : Cx s0.next [] [] s0 s0 [] [] [] := Cx.start s0
    refine Rf.call0 C0 (t14 n (⟨#[97, 10, 98, 99]⟩ : ByteArray) s0 (C0.gl rfl gl0)) ?_
    rintro r1 _ s2 rfl h6
    have C7 : Cx s0.next [] [] s0 s2 [] [] [] := h6 [] (by simp) List.Pairwise.nil
    refine (Rf.asTup (Rf.unc (Rf.asI (Rf.unc (Rf.asAgg (Rf.unc (Rf.asI (Rf.unc (Rf.asI (Rf.unn (Rf.unn ?_)))))))))))
    refine Rf.new C7 fun s8 (C9 : Cx s0.next [] [] s0 s8 [(s2.next, AObj.box 24 [(Value.int .i64 0), (Value.int .i64 0)])] [] []) => ?_
    refine Rf.sto 0 C9 rfl (by simp) rfl fun s11 (C12 : Cx s0.next [] [] s0 s11 [(s2.next, AObj.box 24 [(Value.int .i64 r1.2.1), (Value.int .i64 r1.2.2)])] [] []) => ?_
    refine Rf.call0 C12 (t10 n (⟨#[97, 10, 98, 99]⟩ : ByteArray) 3 s11 (C12.gl rfl gl0)) ?_
    rintro r13 _ s14 rfl h19
    have C20 : Cx s0.next [] [] s0 s14 [(s2.next, AObj.box 24 [(Value.int .i64 r1.2.1), (Value.int .i64 r1.2.2)])] [] [] := h19 [] (by simp) List.Pairwise.nil
    refine (Rf.asTup (Rf.unc (Rf.asI (Rf.unc (Rf.asI (Rf.unc (Rf.asAgg (Rf.unc (Rf.asI (Rf.unc (Rf.asI (Rf.unn (Rf.unn ?_)))))))))))))
    refine Rf.new C20 fun s21 (C22 : Cx s0.next [] [] s0 s21 [(s14.next, AObj.box 24 [(Value.int .i64 0), (Value.int .i64 0)]), (s2.next, AObj.box 24 [(Value.int .i64 r1.2.1), (Value.int .i64 r1.2.2)])] [] []) => ?_
    refine Rf.sto 0 C22 rfl (by simp) rfl fun s24 (C25 : Cx s0.next [] [] s0 s24 [(s14.next, AObj.box 24 [(Value.int .i64 r13.2.2.1), (Value.int .i64 r13.2.2.2)]), (s2.next, AObj.box 24 [(Value.int .i64 r1.2.1), (Value.int .i64 r1.2.2)])] [] []) => ?_
    refine Rf.call0 C25 (t11 n (⟨#[97, 10, 98, 99]⟩ : ByteArray) 2 2 s24 (C25.gl rfl gl0)) ?_
    rintro r26 _ s27 rfl h31
    have C32 : Cx s0.next [] [] s0 s27 [(s14.next, AObj.box 24 [(Value.int .i64 r13.2.2.1), (Value.int .i64 r13.2.2.2)]), (s2.next, AObj.box 24 [(Value.int .i64 r1.2.1), (Value.int .i64 r1.2.2)])] [] [] := h31 [] (by simp) List.Pairwise.nil
    refine (Rf.asTup (Rf.unc (Rf.asI (Rf.unc (Rf.asAgg (Rf.unc (Rf.asI (Rf.unc (Rf.asI (Rf.unn (Rf.unn ?_)))))))))))
    refine Rf.new C32 fun s33 (C34 : Cx s0.next [] [] s0 s33 [(s27.next, AObj.box 24 [(Value.int .i64 0), (Value.int .i64 0)]), (s14.next, AObj.box 24 [(Value.int .i64 r13.2.2.1), (Value.int .i64 r13.2.2.2)]), (s2.next, AObj.box 24 [(Value.int .i64 r1.2.1), (Value.int .i64 r1.2.2)])] [] []) => ?_
    refine Rf.sto 0 C34 rfl (by simp) rfl fun s36 (C37 : Cx s0.next [] [] s0 s36 [(s27.next, AObj.box 24 [(Value.int .i64 r26.2.1), (Value.int .i64 r26.2.2)]), (s14.next, AObj.box 24 [(Value.int .i64 r13.2.2.1), (Value.int .i64 r13.2.2.2)]), (s2.next, AObj.box 24 [(Value.int .i64 r1.2.1), (Value.int .i64 r1.2.2)])] [] []) => ?_
    refine Rf.call0 C37 (t21 n (⟨#[97, 10, 98, 99]⟩ : ByteArray) 2 2 20 s36 (C37.gl rfl gl0)) ?_
    rintro r38 _ s39 rfl h43
    have C44 : Cx s0.next [] [] s0 s39 [(s27.next, AObj.box 24 [(Value.int .i64 r26.2.1), (Value.int .i64 r26.2.2)]), (s14.next, AObj.box 24 [(Value.int .i64 r13.2.2.1), (Value.int .i64 r13.2.2.2)]), (s2.next, AObj.box 24 [(Value.int .i64 r1.2.1), (Value.int .i64 r1.2.2)])] [] [] := h43 [] (by simp) List.Pairwise.nil
    refine (Rf.asTup (Rf.unc (Rf.asS (Rf.unc (Rf.asAgg (Rf.unc (Rf.asI (Rf.unc (Rf.asI (Rf.unn (Rf.unn ?_)))))))))))
    refine Rf.new C44 fun s45 (C46 : Cx s0.next [] [] s0 s45 [(s39.next, AObj.box 24 [(Value.int .i64 0), (Value.int .i64 0)]), (s27.next, AObj.box 24 [(Value.int .i64 r26.2.1), (Value.int .i64 r26.2.2)]), (s14.next, AObj.box 24 [(Value.int .i64 r13.2.2.1), (Value.int .i64 r13.2.2.2)]), (s2.next, AObj.box 24 [(Value.int .i64 r1.2.1), (Value.int .i64 r1.2.2)])] [] []) => ?_
    refine Rf.sto 0 C46 rfl (by simp) rfl fun s48 (C49 : Cx s0.next [] [] s0 s48 [(s39.next, AObj.box 24 [(Value.int .i64 r38.2.1), (Value.int .i64 r38.2.2)]), (s27.next, AObj.box 24 [(Value.int .i64 r26.2.1), (Value.int .i64 r26.2.2)]), (s14.next, AObj.box 24 [(Value.int .i64 r13.2.2.1), (Value.int .i64 r13.2.2.2)]), (s2.next, AObj.box 24 [(Value.int .i64 r1.2.1), (Value.int .i64 r1.2.2)])] [] []) => ?_
    refine Rf.pj fun J62 J62' hJ62 hJ62' => ?_
    have J62h : ∀ (b63 : Bool) (_ : Cx s0.next [] [] s0 s48 [] [] []), Rf (J62 b63) H Q (J62' b63) := by
      subst hJ62
      subst hJ62'
      intro b63 C65
      subst hH; subst hQ
      exact Rf.leaf fun _ => Ev.done (Rf.ret C65 rfl)
    clear hJ62 hJ62'
    refine Rf.ldI (C49.at m3 rfl) ?_
    refine Rf.ldI (C49.at m2 rfl) ?_
    refine Rf.ldI (C49.at m1 rfl) ?_
    refine Rf.ldI (C49.at m0 rfl) ?_
    refine Rf.ite ?_ ?_
    · refine Rf.ite ?_ ?_
      · refine Rf.ite ?_ ?_
        · refine Rf.ite ?_ ?_
          · refine Rf.ite ?_ ?_
            · exact J62h (r38.1.toList == (⟨#[98, 99, 10, 32, 94]⟩ : ByteArray).toList) (C49.sub (List.Sublist.cons _ (List.Sublist.cons _ (List.Sublist.cons _ (List.Sublist.cons _ List.Sublist.slnil)))) (List.Sublist.refl _) (List.Sublist.refl _))
            · exact J62h false (C49.sub (List.Sublist.cons _ (List.Sublist.cons _ (List.Sublist.cons _ (List.Sublist.cons _ List.Sublist.slnil)))) (List.Sublist.refl _) (List.Sublist.refl _))
          · exact J62h false (C49.sub (List.Sublist.cons _ (List.Sublist.cons _ (List.Sublist.cons _ (List.Sublist.cons _ List.Sublist.slnil)))) (List.Sublist.refl _) (List.Sublist.refl _))
        · exact J62h false (C49.sub (List.Sublist.cons _ (List.Sublist.cons _ (List.Sublist.cons _ (List.Sublist.cons _ List.Sublist.slnil)))) (List.Sublist.refl _) (List.Sublist.refl _))
      · exact J62h false (C49.sub (List.Sublist.cons _ (List.Sublist.cons _ (List.Sublist.cons _ (List.Sublist.cons _ List.Sublist.slnil)))) (List.Sublist.refl _) (List.Sublist.refl _))
    · exact J62h false (C49.sub (List.Sublist.cons _ (List.Sublist.cons _ (List.Sublist.cons _ (List.Sublist.cons _ List.Sublist.slnil)))) (List.Sublist.refl _) (List.Sublist.refl _))
-- 3 "brindlewood/brindlewoodlaw1.SourcePlacesLeadBack"
abbrev P3 (N : Nat) (X : List Nat) (r : Bool) (v : Value) (s : St) : Prop := v = (Value.bool r)
def p3 : Nat → ByteArray → Int → Int → Option Bool
  | 0, _, _, _ => none
  | n + 1, p0, p1, p2 => ((p9 n).bind fun r1 => (if (!r1) then (((some (false : Bool)))) else (((p10 n p0 p1).bind fun r6 => ((p10 n p0 p2).bind fun r19 => ((if (((IntKind.wrap .i64 (r6.2.2.1 + r19.2.2.1)) : Int) != 0) then (((some (true : Bool)))) else (((p11 n p0 r6.1 r6.2.1).bind fun r38 => ((p11 n p0 r19.1 r19.2.1).bind fun r50 => (pj (fun (b69 : Bool) => if b69 then (((some (false : Bool)))) else ((pj (fun (b73 : Bool) => some (b73 : Bool)) (fun J72 => if (decide ((p1 : Int) ≥ p2)) then ((J72 true)) else (if (decide ((r6.1 : Int) < r19.1)) then ((J72 true)) else (if ((r6.1 : Int) == r19.1) then ((J72 (decide ((r6.2.1 : Int) < r19.2.1)))) else ((J72 false)))))))) (fun J68 => if (((IntKind.wrap .i64 (r38.2.1 + r50.2.1)) : Int) != 0) then ((J68 true)) else (if ((r38.1 : Int) != p1) then ((J68 true)) else ((J68 ((r50.1 : Int) != p2))))))))))))))))
theorem t3 (k : Nat) (p0 : ByteArray) (p1 : Int) (p2 : Int) (s0 : St) (gl0 : GlobOk s0) :
    Rf (p3 k p0 p1 p2) (fun _ => True) (fun r => RtC s0.next [] [] s0 (P3 s0.next [] r)) (acall E k 3 [(Value.string p0), (Value.int .i64 p1), (Value.int .i64 p2)] s0) := by
  cases k with
  | zero => exact Rf.none
  | succ n =>
    rw [e3 n]
    rw [p3]
    refine Rf.gen fun H Q hH hQ => ?_
    have C0 : Cx s0.next [] [] s0 s0 [] [] [] := Cx.start s0
    refine Rf.call0 C0 (t9 n s0 (C0.gl rfl gl0)) ?_
    rintro r1 _ s2 rfl h4
    have C5 : Cx s0.next [] [] s0 s2 [] [] [] := h4 [] (by simp) List.Pairwise.nil
    refine (Rf.asB ?_)
    refine Rf.ite ?_ ?_
    · subst hH; subst hQ
      exact Rf.leaf fun _ => Ev.done (Rf.ret C5 rfl)
    · refine Rf.call0 C5 (t10 n p0 p1 s2 (C5.gl rfl gl0)) ?_
      rintro r6 _ s7 rfl h12
      have C13 : Cx s0.next [] [] s0 s7 [] [] [] := h12 [] (by simp) List.Pairwise.nil
      refine (Rf.asTup (Rf.unc (Rf.asI (Rf.unc (Rf.asI (Rf.unc (Rf.asAgg (Rf.unc (Rf.asI (Rf.unc (Rf.asI (Rf.unn (Rf.unn ?_)))))))))))))
      refine Rf.new C13 fun s14 (C15 : Cx s0.next [] [] s0 s14 [(s7.next, AObj.box 24 [(Value.int .i64 0), (Value.int .i64 0)])] [] []) => ?_
      refine Rf.sto 0 C15 rfl (by simp) rfl fun s17 (C18 : Cx s0.next [] [] s0 s17 [(s7.next, AObj.box 24 [(Value.int .i64 r6.2.2.1), (Value.int .i64 r6.2.2.2)])] [] []) => ?_
      refine Rf.call0 C18 (t10 n p0 p2 s17 (C18.gl rfl gl0)) ?_
      rintro r19 _ s20 rfl h25
      have C26 : Cx s0.next [] [] s0 s20 [(s7.next, AObj.box 24 [(Value.int .i64 r6.2.2.1), (Value.int .i64 r6.2.2.2)])] [] [] := h25 [] (by simp) List.Pairwise.nil
      refine (Rf.asTup (Rf.unc (Rf.asI (Rf.unc (Rf.asI (Rf.unc (Rf.asAgg (Rf.unc (Rf.asI (Rf.unc (Rf.asI (Rf.unn (Rf.unn ?_)))))))))))))
      refine Rf.new C26 fun s27 (C28 : Cx s0.next [] [] s0 s27 [(s20.next, AObj.box 24 [(Value.int .i64 0), (Value.int .i64 0)]), (s7.next, AObj.box 24 [(Value.int .i64 r6.2.2.1), (Value.int .i64 r6.2.2.2)])] [] []) => ?_
      refine Rf.sto 0 C28 rfl (by simp) rfl fun s30 (C31 : Cx s0.next [] [] s0 s30 [(s20.next, AObj.box 24 [(Value.int .i64 r19.2.2.1), (Value.int .i64 r19.2.2.2)]), (s7.next, AObj.box 24 [(Value.int .i64 r6.2.2.1), (Value.int .i64 r6.2.2.2)])] [] []) => ?_
      refine Rf.ldI (C31.at m1 rfl) ?_
      refine Rf.ldI (C31.at m0 rfl) ?_
      refine Rf.ite ?_ ?_
      · subst hH; subst hQ
        exact Rf.leaf fun _ => Ev.done (Rf.ret C31 rfl)
      · refine Rf.call0 C31 (t11 n p0 r6.1 r6.2.1 s30 (C31.gl rfl gl0)) ?_
        rintro r38 _ s39 rfl h43
        have C44 : Cx s0.next [] [] s0 s39 [(s20.next, AObj.box 24 [(Value.int .i64 r19.2.2.1), (Value.int .i64 r19.2.2.2)]), (s7.next, AObj.box 24 [(Value.int .i64 r6.2.2.1), (Value.int .i64 r6.2.2.2)])] [] [] := h43 [] (by simp) List.Pairwise.nil
        refine (Rf.asTup (Rf.unc (Rf.asI (Rf.unc (Rf.asAgg (Rf.unc (Rf.asI (Rf.unc (Rf.asI (Rf.unn (Rf.unn ?_)))))))))))
        refine Rf.new C44 fun s45 (C46 : Cx s0.next [] [] s0 s45 [(s39.next, AObj.box 24 [(Value.int .i64 0), (Value.int .i64 0)]), (s20.next, AObj.box 24 [(Value.int .i64 r19.2.2.1), (Value.int .i64 r19.2.2.2)]), (s7.next, AObj.box 24 [(Value.int .i64 r6.2.2.1), (Value.int .i64 r6.2.2.2)])] [] []) => ?_
        refine Rf.sto 0 C46 rfl (by simp) rfl fun s48 (C49 : Cx s0.next [] [] s0 s48 [(s39.next, AObj.box 24 [(Value.int .i64 r38.2.1), (Value.int .i64 r38.2.2)]), (s20.next, AObj.box 24 [(Value.int .i64 r19.2.2.1), (Value.int .i64 r19.2.2.2)]), (s7.next, AObj.box 24 [(Value.int .i64 r6.2.2.1), (Value.int .i64 r6.2.2.2)])] [] []) => ?_
        refine Rf.call0 C49 (t11 n p0 r19.1 r19.2.1 s48 (C49.gl rfl gl0)) ?_
        rintro r50 _ s51 rfl h55
        have C56 : Cx s0.next [] [] s0 s51 [(s39.next, AObj.box 24 [(Value.int .i64 r38.2.1), (Value.int .i64 r38.2.2)]), (s20.next, AObj.box 24 [(Value.int .i64 r19.2.2.1), (Value.int .i64 r19.2.2.2)]), (s7.next, AObj.box 24 [(Value.int .i64 r6.2.2.1), (Value.int .i64 r6.2.2.2)])] [] [] := h55 [] (by simp) List.Pairwise.nil
        refine (Rf.asTup (Rf.unc (Rf.asI (Rf.unc (Rf.asAgg (Rf.unc (Rf.asI (Rf.unc (Rf.asI (Rf.unn (Rf.unn ?_)))))))))))
        refine Rf.new C56 fun s57 (C58 : Cx s0.next [] [] s0 s57 [(s51.next, AObj.box 24 [(Value.int .i64 0), (Value.int .i64 0)]), (s39.next, AObj.box 24 [(Value.int .i64 r38.2.1), (Value.int .i64 r38.2.2)]), (s20.next, AObj.box 24 [(Value.int .i64 r19.2.2.1), (Value.int .i64 r19.2.2.2)]), (s7.next, AObj.box 24 [(Value.int .i64 r6.2.2.1), (Value.int .i64 r6.2.2.2)])] [] []) => ?_
        refine Rf.sto 0 C58 rfl (by simp) rfl fun s60 (C61 : Cx s0.next [] [] s0 s60 [(s51.next, AObj.box 24 [(Value.int .i64 r50.2.1), (Value.int .i64 r50.2.2)]), (s39.next, AObj.box 24 [(Value.int .i64 r38.2.1), (Value.int .i64 r38.2.2)]), (s20.next, AObj.box 24 [(Value.int .i64 r19.2.2.1), (Value.int .i64 r19.2.2.2)]), (s7.next, AObj.box 24 [(Value.int .i64 r6.2.2.1), (Value.int .i64 r6.2.2.2)])] [] []) => ?_
        refine Rf.pj fun J68 J68' hJ68 hJ68' => ?_
        have J68h : ∀ (b69 : Bool) (_ : Cx s0.next [] [] s0 s60 [] [] []), Rf (J68 b69) H Q (J68' b69) := by
          subst hJ68
          subst hJ68'
          intro b69 C71
          refine Rf.ite ?_ ?_
          · subst hH; subst hQ
            exact Rf.leaf fun _ => Ev.done (Rf.ret C71 rfl)
          · refine Rf.pj fun J72 J72' hJ72 hJ72' => ?_
            have J72h : ∀ (b73 : Bool) (_ : Cx s0.next [] [] s0 s60 [] [] []), Rf (J72 b73) H Q (J72' b73) := by
              subst hJ72
              subst hJ72'
              intro b73 C75
              subst hH; subst hQ
              exact Rf.leaf fun _ => Ev.done (Rf.ret C75 rfl)
            clear hJ72 hJ72'
            refine Rf.ite ?_ ?_
            · exact J72h true (C71.sub (List.Sublist.refl _) (List.Sublist.refl _) (List.Sublist.refl _))
            · refine Rf.ite ?_ ?_
              · exact J72h true (C71.sub (List.Sublist.refl _) (List.Sublist.refl _) (List.Sublist.refl _))
              · refine Rf.ite ?_ ?_
                · exact J72h (decide ((r6.2.1 : Int) < r19.2.1)) (C71.sub (List.Sublist.refl _) (List.Sublist.refl _) (List.Sublist.refl _))
                · exact J72h false (C71.sub (List.Sublist.refl _) (List.Sublist.refl _) (List.Sublist.refl _))
        clear hJ68 hJ68'
        refine Rf.ldI (C61.at m1 rfl) ?_
        refine Rf.ldI (C61.at m0 rfl) ?_
        refine Rf.ite ?_ ?_
        · exact J68h true (C61.sub (List.Sublist.cons _ (List.Sublist.cons _ (List.Sublist.cons _ (List.Sublist.cons _ List.Sublist.slnil)))) (List.Sublist.refl _) (List.Sublist.refl _))
        · refine Rf.ite ?_ ?_
          · exact J68h true (C61.sub (List.Sublist.cons _ (List.Sublist.cons _ (List.Sublist.cons _ (List.Sublist.cons _ List.Sublist.slnil)))) (List.Sublist.refl _) (List.Sublist.refl _))
          · exact J68h ((r50.1 : Int) != p2) (C61.sub (List.Sublist.cons _ (List.Sublist.cons _ (List.Sublist.cons _ (List.Sublist.cons _ List.Sublist.slnil)))) (List.Sublist.refl _) (List.Sublist.refl _))
-- 4 "brindlewood/brindlewoodlaw1.SourceTellsPlaces"
abbrev P4 (N : Nat) (X : List Nat) (r : Bool) (v : Value) (s : St) : Prop := v = (Value.bool r)
def p4 : Nat → ByteArray → Int → Int → Int → Option Bool
  | 0, _, _, _, _ => none
  | n + 1, p0, p1, p2, p3 => ((p9 n).bind fun r343 => (if (!r343) then ((some (false : Bool))) else (((p12 n p0).bind fun r690 => ((p13 n p0).bind fun r872 => ((p14 n p0).bind fun r1053 => ((p15 n p0 p2).bind fun r1236 => (pj (fun (b1441 : Bool) => if b1441 then ((some (false : Bool))) else ((pj (fun (_ : Unit) => (p10 n p0 p1).bind fun r2182 => (((p18 n p0 p1).bind fun r2537 => (pj (fun (x2729 : Int) (x2730 : Int) => (p11 n p0 p2 p3).bind fun r2908 => ((p20 n p0 p2 p3).bind fun r3091 => (pj (fun (b3283 : Bool) => some (b3283 : Bool)) (fun J3282 => if (((r2182.2.2.1 : Int) == r2537.1) && (((r2182.2.2.2 : Int) == r2537.2) && true)) then (if ((r2182.1 : Int) == x2729) then (if ((r2182.2.1 : Int) == x2730) then (if ((r2908.1 : Int) == r3091.1) then ((J3282 (((r2908.2.1 : Int) == r3091.2.1) && (((r2908.2.2 : Int) == r3091.2.2) && true)))) else ((J3282 false))) else ((J3282 false))) else ((J3282 false))) else ((J3282 false)))))) (fun J2728 => (if ((r2537.1 : Int) == 0) then ((p19 n p0 p1).bind fun r2722 => (J2728 r2722.1 r2722.2)) else ((J2728 0 0)))))))) (fun J2000 => (if ((r690.1 : Int) == 0) then (pj (fun (b1791 : Bool) => pj (fun (b1825 : Bool) => if b1825 then ((some (false : Bool))) else ((J2000 ()))) (fun J1824 => if ((r1053.1 : Int) != ((r872).length : Nat)) then ((J1824 true)) else (if b1791 then (if ((r1236.2.1 : Int) != 0) then ((J1824 true)) else (rd r872 (IntKind.wrap .i64 (p2 - 1)) (fun x1797 => if (!(r1236.1.toList == x1797.toList)) then ((J1824 true)) else (if (!b1791) then ((p17 n 4 (-2)).bind fun r1806 => if (!(((r1236.2.1 : Int) == r1806.1) && (((r1236.2.2 : Int) == r1806.2) && true))) then ((J1824 true)) else ((J1824 (!(r1236.1.toList == (⟨#[]⟩ : ByteArray).toList))))) else ((J1824 false)))))) else (if (!b1791) then ((p17 n 4 (-2)).bind fun r1816 => if (!(((r1236.2.1 : Int) == r1816.1) && (((r1236.2.2 : Int) == r1816.2) && true))) then ((J1824 true)) else ((J1824 (!(r1236.1.toList == (⟨#[]⟩ : ByteArray).toList))))) else ((J1824 false)))))) (fun J1790 => if (decide ((p2 : Int) ≥ 1)) then ((J1790 (decide ((p2 : Int) ≤ ((r872).length : Nat))))) else ((J1790 false)))) else ((J2000 ()))))))) (fun J1440 => (p16 n p0).bind fun r1419 => if (!(((r1419.1 : Int) == r690.1) && (((r1419.2 : Int) == r690.2) && true))) then ((J1440 true)) else (if (!(((r1053.2.1 : Int) == r690.1) && (((r1053.2.2 : Int) == r690.2) && true))) then ((J1440 true)) else (if ((r690.1 : Int) != 0) then (if ((r1053.1 : Int) != 0) then ((J1440 true)) else (if (!(((r1236.2.1 : Int) == r690.1) && (((r1236.2.2 : Int) == r690.2) && true))) then ((J1440 true)) else ((J1440 (!(r1236.1.toList == (⟨#[]⟩ : ByteArray).toList)))))) else ((J1440 false)))))))))))))
theorem t4 (k : Nat) (p0 : ByteArray) (p1 : Int) (p2 : Int) (p3 : Int) (s0 : St) (gl0 : GlobOk s0) :
    Rf (p4 k p0 p1 p2 p3) (fun _ => True) (fun r => RtC s0.next [] [] s0 (P4 s0.next [] r)) (acall E k 4 [(Value.string p0), (Value.int .i64 p1), (Value.int .i64 p2), (Value.int .i64 p3)] s0) := by
  cases k with
  | zero => exact Rf.none
  | succ n =>
    rw [e4 n]
    rw [p4]
    refine Rf.gen fun H Q hH hQ => ?_
    have C0 : Cx s0.next [] [] s0 s0 [] [] [] := Cx.start s0
    rw [kBody_seq (E := E) (f := 4) (p := []) [.a] [.b] rfl rfl (by kernel_rfl)]
    rw [e4_q0 n]
    rw [kSeq_normal]
    rw [kBody_seq (E := E) (f := 4) (p := [.b]) [.b, .a] [.b, .b] rfl rfl (by kernel_rfl)]
    rw [e4_q1 n]
    refine Rf.call0 C0 (t9 n s0 (C0.gl rfl gl0)) ?_
    rintro r343 _ s344 rfl h346
    have C347 : Cx s0.next [] [] s0 s344 [] [] [] := h346 [] (by simp) List.Pairwise.nil
    refine (Rf.asB ?_)
    refine Rf.ite ?_ ?_
    · rw [e4_q1_ret n]
      subst hH; subst hQ
      exact Rf.leaf fun _ => Ev.done (Rf.ret C347 rfl)
    · rw [kSeq_normal]
      rw [kBody_seq (E := E) (f := 4) (p := [.b, .b]) [.b, .b, .a] [.b, .b, .b] rfl rfl (by kernel_rfl)]
      rw [e4_q2 n]
      refine Rf.call0 C347 (t12 n p0 s344 (C347.gl rfl gl0)) ?_
      rintro r690 _ s691 rfl h694
      have C695 : Cx s0.next [] [] s0 s691 [] [] [] := h694 [] (by simp) List.Pairwise.nil
      refine (Rf.asAgg (Rf.unc (Rf.asI (Rf.unc (Rf.asI (Rf.unn ?_))))))
      refine Rf.new C695 fun s696 (C697 : Cx s0.next [] [] s0 s696 [(s691.next, AObj.box 24 [(Value.int .i64 0), (Value.int .i64 0)])] [] []) => ?_
      refine Rf.sto 0 C697 rfl (by simp) rfl fun s699 (C700 : Cx s0.next [] [] s0 s699 [(s691.next, AObj.box 24 [(Value.int .i64 r690.1), (Value.int .i64 r690.2)])] [] []) => ?_
      rw [kSeq_normal]
      rw [kBody_seq (E := E) (f := 4) (p := [.b, .b, .b]) [.b, .b, .b, .a] [.b, .b, .b, .b] rfl rfl (by kernel_rfl)]
      rw [e4_q3 n]
      refine Rf.call0 C700 (t13 n p0 s699 (C700.gl rfl gl0)) ?_
      rintro r872 _ s873 ⟨A874, c875, e877, rfl, h876⟩ h880
      have C881 : Cx s0.next [] [] s0 s873 [(s691.next, AObj.box 24 [(Value.int .i64 r690.1), (Value.int .i64 r690.2)])] [(On.mk rS r872 A874 c875 9 false e877)] [] := h880 [(On.mk rS r872 A874 c875 9 false e877)] (by simpa using h876) (List.pairwise_singleton _ _)
      refine (Rf.asSl ?_)
      rw [kSeq_normal]
      rw [kBody_seq (E := E) (f := 4) (p := [.b, .b, .b, .b]) [.b, .b, .b, .b, .a] [.b, .b, .b, .b, .b] rfl rfl (by kernel_rfl)]
      rw [e4_q4 n]
      refine Rf.call0 C881 (t14 n p0 s873 (C881.gl rfl gl0)) ?_
      rintro r1053 _ s1054 rfl h1058
      have C1059 : Cx s0.next [] [] s0 s1054 [(s691.next, AObj.box 24 [(Value.int .i64 r690.1), (Value.int .i64 r690.2)])] [(On.mk rS r872 A874 c875 9 false e877)] [] := h1058 [] (by simp) List.Pairwise.nil
      refine (Rf.asTup (Rf.unc (Rf.asI (Rf.unc (Rf.asAgg (Rf.unc (Rf.asI (Rf.unc (Rf.asI (Rf.unn (Rf.unn ?_)))))))))))
      refine Rf.new C1059 fun s1060 (C1061 : Cx s0.next [] [] s0 s1060 [(s1054.next, AObj.box 24 [(Value.int .i64 0), (Value.int .i64 0)]), (s691.next, AObj.box 24 [(Value.int .i64 r690.1), (Value.int .i64 r690.2)])] [(On.mk rS r872 A874 c875 9 false e877)] []) => ?_
      refine Rf.sto 0 C1061 rfl (by simp) rfl fun s1063 (C1064 : Cx s0.next [] [] s0 s1063 [(s1054.next, AObj.box 24 [(Value.int .i64 r1053.2.1), (Value.int .i64 r1053.2.2)]), (s691.next, AObj.box 24 [(Value.int .i64 r690.1), (Value.int .i64 r690.2)])] [(On.mk rS r872 A874 c875 9 false e877)] []) => ?_
      rw [kSeq_normal]
      rw [kBody_seq (E := E) (f := 4) (p := [.b, .b, .b, .b, .b]) [.b, .b, .b, .b, .b, .a] [.b, .b, .b, .b, .b, .b] rfl rfl (by kernel_rfl)]
      rw [e4_q5 n]
      refine Rf.call0 C1064 (t15 n p0 p2 s1063 (C1064.gl rfl gl0)) ?_
      rintro r1236 _ s1237 rfl h1241
      have C1242 : Cx s0.next [] [] s0 s1237 [(s1054.next, AObj.box 24 [(Value.int .i64 r1053.2.1), (Value.int .i64 r1053.2.2)]), (s691.next, AObj.box 24 [(Value.int .i64 r690.1), (Value.int .i64 r690.2)])] [(On.mk rS r872 A874 c875 9 false e877)] [] := h1241 [] (by simp) List.Pairwise.nil
      refine (Rf.asTup (Rf.unc (Rf.asS (Rf.unc (Rf.asAgg (Rf.unc (Rf.asI (Rf.unc (Rf.asI (Rf.unn (Rf.unn ?_)))))))))))
      refine Rf.new C1242 fun s1243 (C1244 : Cx s0.next [] [] s0 s1243 [(s1237.next, AObj.box 24 [(Value.int .i64 0), (Value.int .i64 0)]), (s1054.next, AObj.box 24 [(Value.int .i64 r1053.2.1), (Value.int .i64 r1053.2.2)]), (s691.next, AObj.box 24 [(Value.int .i64 r690.1), (Value.int .i64 r690.2)])] [(On.mk rS r872 A874 c875 9 false e877)] []) => ?_
      refine Rf.sto 0 C1244 rfl (by simp) rfl fun s1246 (C1247 : Cx s0.next [] [] s0 s1246 [(s1237.next, AObj.box 24 [(Value.int .i64 r1236.2.1), (Value.int .i64 r1236.2.2)]), (s1054.next, AObj.box 24 [(Value.int .i64 r1053.2.1), (Value.int .i64 r1053.2.2)]), (s691.next, AObj.box 24 [(Value.int .i64 r690.1), (Value.int .i64 r690.2)])] [(On.mk rS r872 A874 c875 9 false e877)] []) => ?_
      rw [kSeq_normal]
      rw [kBody_seq (E := E) (f := 4) (p := [.b, .b, .b, .b, .b, .b]) [.b, .b, .b, .b, .b, .b, .a] [.b, .b, .b, .b, .b, .b, .b] rfl rfl (by kernel_rfl)]
      rw [e4_q6 n]
      refine Rf.pj fun J1440 J1440' hJ1440 hJ1440' => ?_
      have J1440h : ∀ (b1441 : Bool) (s1443 : St) (_ : Cx s0.next [] [] s0 s1443 [(s1237.next, AObj.box 24 [(Value.int .i64 r1236.2.1), (Value.int .i64 r1236.2.2)]), (s691.next, AObj.box 24 [(Value.int .i64 r690.1), (Value.int .i64 r690.2)])] [(On.mk rS r872 A874 c875 9 false e877)] []), Rf (J1440 b1441) H Q (J1440' b1441 s1443) := by
        subst hJ1440
        subst hJ1440'
        intro b1441 s1443 C1444
        refine Rf.ite ?_ ?_
        · rw [e4_q6_ret n]
          subst hH; subst hQ
          exact Rf.leaf fun _ => Ev.done (Rf.ret C1444 rfl)
        · rw [kSeq_normal]
          rw [kBody_seq (E := E) (f := 4) (p := [.b, .b, .b, .b, .b, .b, .b]) [.b, .b, .b, .b, .b, .b, .b, .a] [.b, .b, .b, .b, .b, .b, .b, .b] rfl rfl (by kernel_rfl)]
          rw [e4_q7 n]
          refine Rf.pjv fun J2000 hJ2000 => ?_
          have J2000h : ∀ (w2001 : Value) (w2002 : Value) (w2003 : Value) (w2004 : Value) (w2005 : Value) (w2006 : Value) (s2007 : St) (g2009 : Regs) (h2010 : g2009 = (rg 171 [(0, (Value.string p0)), (1, (Value.int .i64 p1)), (2, (Value.int .i64 p2)), (3, (Value.int .i64 p3)), (10, w2001), (11, w2002), (13, w2003), (14, w2004), (72, w2005), (114, w2006)])) (_ : Cx s0.next [] [] s0 s2007 [] [] []), Rf (J2000 ()) H Q (kSeq E 4 n [.b, .b, .b, .b, .b, .b, .b, .b] (kFin E 4) .normal g2009 s2007) := by
            subst hJ2000
            intro w2001 w2002 w2003 w2004 w2005 w2006 s2007 g2009 h2010 C2008
            subst h2010
            rw [kSeq_normal]
            rw [kBody_seq (E := E) (f := 4) (p := [.b, .b, .b, .b, .b, .b, .b, .b]) [.b, .b, .b, .b, .b, .b, .b, .b, .a] [.b, .b, .b, .b, .b, .b, .b, .b, .b] rfl rfl (by kernel_rfl)]
            rw [e4_q8 n]
            refine Rf.call0 C2008 (t10 n p0 p1 s2007 (C2008.gl rfl gl0)) ?_
            rintro r2182 _ s2183 rfl h2188
            have C2189 : Cx s0.next [] [] s0 s2183 [] [] [] := h2188 [] (by simp) List.Pairwise.nil
            refine (Rf.asTup (Rf.unc (Rf.asI (Rf.unc (Rf.asI (Rf.unc (Rf.asAgg (Rf.unc (Rf.asI (Rf.unc (Rf.asI (Rf.unn (Rf.unn ?_)))))))))))))
            refine Rf.new C2189 fun s2190 (C2191 : Cx s0.next [] [] s0 s2190 [(s2183.next, AObj.box 24 [(Value.int .i64 0), (Value.int .i64 0)])] [] []) => ?_
            refine Rf.sto 0 C2191 rfl (by simp) rfl fun s2193 (C2194 : Cx s0.next [] [] s0 s2193 [(s2183.next, AObj.box 24 [(Value.int .i64 r2182.2.2.1), (Value.int .i64 r2182.2.2.2)])] [] []) => ?_
            rw [kSeq_normal]
            rw [kBody_seq (E := E) (f := 4) (p := [.b, .b, .b, .b, .b, .b, .b, .b, .b]) [.b, .b, .b, .b, .b, .b, .b, .b, .b, .a] [.b, .b, .b, .b, .b, .b, .b, .b, .b, .b] rfl rfl (by kernel_rfl)]
            rw [e4_q9 n]
            rw [kSeq_normal]
            rw [kBody_seq (E := E) (f := 4) (p := [.b, .b, .b, .b, .b, .b, .b, .b, .b, .b]) [.b, .b, .b, .b, .b, .b, .b, .b, .b, .b, .a] [.b, .b, .b, .b, .b, .b, .b, .b, .b, .b, .b] rfl rfl (by kernel_rfl)]
            rw [e4_q10 n]
            refine Rf.call0 C2194 (t18 n p0 p1 s2193 (C2194.gl rfl gl0)) ?_
            rintro r2537 _ s2538 rfl h2541
            have C2542 : Cx s0.next [] [] s0 s2538 [(s2183.next, AObj.box 24 [(Value.int .i64 r2182.2.2.1), (Value.int .i64 r2182.2.2.2)])] [] [] := h2541 [] (by simp) List.Pairwise.nil
            refine (Rf.asAgg (Rf.unc (Rf.asI (Rf.unc (Rf.asI (Rf.unn ?_))))))
            refine Rf.new C2542 fun s2543 (C2544 : Cx s0.next [] [] s0 s2543 [(s2538.next, AObj.box 24 [(Value.int .i64 0), (Value.int .i64 0)]), (s2183.next, AObj.box 24 [(Value.int .i64 r2182.2.2.1), (Value.int .i64 r2182.2.2.2)])] [] []) => ?_
            refine Rf.sto 0 C2544 rfl (by simp) rfl fun s2546 (C2547 : Cx s0.next [] [] s0 s2546 [(s2538.next, AObj.box 24 [(Value.int .i64 r2537.1), (Value.int .i64 r2537.2)]), (s2183.next, AObj.box 24 [(Value.int .i64 r2182.2.2.1), (Value.int .i64 r2182.2.2.2)])] [] []) => ?_
            rw [kSeq_normal]
            rw [kBody_seq (E := E) (f := 4) (p := [.b, .b, .b, .b, .b, .b, .b, .b, .b, .b, .b]) [.b, .b, .b, .b, .b, .b, .b, .b, .b, .b, .b, .a] [.b, .b, .b, .b, .b, .b, .b, .b, .b, .b, .b, .b] rfl rfl (by kernel_rfl)]
            rw [e4_q11 n]
            refine Rf.pjv fun J2728 hJ2728 => ?_
            have J2728h : ∀ (x2729 : Int) (x2730 : Int) (w2731 : Value) (w2732 : Value) (s2733 : St) (g2735 : Regs) (h2736 : g2735 = (rg 171 [(0, (Value.string p0)), (1, w2731), (2, (Value.int .i64 p2)), (3, (Value.int .i64 p3)), (16, (Value.int .i64 r2182.1)), (17, (Value.int .i64 r2182.2.1)), (18, (Value.pointer (some ⟨s2183.next, 0, none⟩))), (19, (Value.int .i64 x2729)), (20, (Value.int .i64 x2730)), (21, (Value.pointer (some ⟨s2538.next, 0, none⟩))), (127, w2732)])) (_ : Cx s0.next [] [] s0 s2733 [(s2538.next, AObj.box 24 [(Value.int .i64 r2537.1), (Value.int .i64 r2537.2)]), (s2183.next, AObj.box 24 [(Value.int .i64 r2182.2.2.1), (Value.int .i64 r2182.2.2.2)])] [] []), Rf (J2728 x2729 x2730) H Q (kSeq E 4 n [.b, .b, .b, .b, .b, .b, .b, .b, .b, .b, .b, .b] (kFin E 4) .normal g2735 s2733) := by
              subst hJ2728
              intro x2729 x2730 w2731 w2732 s2733 g2735 h2736 C2734
              subst h2736
              rw [kSeq_normal]
              rw [kBody_seq (E := E) (f := 4) (p := [.b, .b, .b, .b, .b, .b, .b, .b, .b, .b, .b, .b]) [.b, .b, .b, .b, .b, .b, .b, .b, .b, .b, .b, .b, .a] [.b, .b, .b, .b, .b, .b, .b, .b, .b, .b, .b, .b, .b] rfl rfl (by kernel_rfl)]
              rw [e4_q12 n]
              refine Rf.call0 C2734 (t11 n p0 p2 p3 s2733 (C2734.gl rfl gl0)) ?_
              rintro r2908 _ s2909 rfl h2913
              have C2914 : Cx s0.next [] [] s0 s2909 [(s2538.next, AObj.box 24 [(Value.int .i64 r2537.1), (Value.int .i64 r2537.2)]), (s2183.next, AObj.box 24 [(Value.int .i64 r2182.2.2.1), (Value.int .i64 r2182.2.2.2)])] [] [] := h2913 [] (by simp) List.Pairwise.nil
              refine (Rf.asTup (Rf.unc (Rf.asI (Rf.unc (Rf.asAgg (Rf.unc (Rf.asI (Rf.unc (Rf.asI (Rf.unn (Rf.unn ?_)))))))))))
              refine Rf.new C2914 fun s2915 (C2916 : Cx s0.next [] [] s0 s2915 [(s2909.next, AObj.box 24 [(Value.int .i64 0), (Value.int .i64 0)]), (s2538.next, AObj.box 24 [(Value.int .i64 r2537.1), (Value.int .i64 r2537.2)]), (s2183.next, AObj.box 24 [(Value.int .i64 r2182.2.2.1), (Value.int .i64 r2182.2.2.2)])] [] []) => ?_
              refine Rf.sto 0 C2916 rfl (by simp) rfl fun s2918 (C2919 : Cx s0.next [] [] s0 s2918 [(s2909.next, AObj.box 24 [(Value.int .i64 r2908.2.1), (Value.int .i64 r2908.2.2)]), (s2538.next, AObj.box 24 [(Value.int .i64 r2537.1), (Value.int .i64 r2537.2)]), (s2183.next, AObj.box 24 [(Value.int .i64 r2182.2.2.1), (Value.int .i64 r2182.2.2.2)])] [] []) => ?_
              rw [kSeq_normal]
              rw [kBody_seq (E := E) (f := 4) (p := [.b, .b, .b, .b, .b, .b, .b, .b, .b, .b, .b, .b, .b]) [.b, .b, .b, .b, .b, .b, .b, .b, .b, .b, .b, .b, .b, .a] [.b, .b, .b, .b, .b, .b, .b, .b, .b, .b, .b, .b, .b, .b] rfl rfl (by kernel_rfl)]
              rw [e4_q13 n]
              refine Rf.call0 C2919 (t20 n p0 p2 p3 s2918 (C2919.gl rfl gl0)) ?_
              rintro r3091 _ s3092 rfl h3096
              have C3097 : Cx s0.next [] [] s0 s3092 [(s2909.next, AObj.box 24 [(Value.int .i64 r2908.2.1), (Value.int .i64 r2908.2.2)]), (s2538.next, AObj.box 24 [(Value.int .i64 r2537.1), (Value.int .i64 r2537.2)]), (s2183.next, AObj.box 24 [(Value.int .i64 r2182.2.2.1), (Value.int .i64 r2182.2.2.2)])] [] [] := h3096 [] (by simp) List.Pairwise.nil
              refine (Rf.asTup (Rf.unc (Rf.asI (Rf.unc (Rf.asAgg (Rf.unc (Rf.asI (Rf.unc (Rf.asI (Rf.unn (Rf.unn ?_)))))))))))
              refine Rf.new C3097 fun s3098 (C3099 : Cx s0.next [] [] s0 s3098 [(s3092.next, AObj.box 24 [(Value.int .i64 0), (Value.int .i64 0)]), (s2909.next, AObj.box 24 [(Value.int .i64 r2908.2.1), (Value.int .i64 r2908.2.2)]), (s2538.next, AObj.box 24 [(Value.int .i64 r2537.1), (Value.int .i64 r2537.2)]), (s2183.next, AObj.box 24 [(Value.int .i64 r2182.2.2.1), (Value.int .i64 r2182.2.2.2)])] [] []) => ?_
              refine Rf.sto 0 C3099 rfl (by simp) rfl fun s3101 (C3102 : Cx s0.next [] [] s0 s3101 [(s3092.next, AObj.box 24 [(Value.int .i64 r3091.2.1), (Value.int .i64 r3091.2.2)]), (s2909.next, AObj.box 24 [(Value.int .i64 r2908.2.1), (Value.int .i64 r2908.2.2)]), (s2538.next, AObj.box 24 [(Value.int .i64 r2537.1), (Value.int .i64 r2537.2)]), (s2183.next, AObj.box 24 [(Value.int .i64 r2182.2.2.1), (Value.int .i64 r2182.2.2.2)])] [] []) => ?_
              rw [kSeq_normal]
              rw [kBody_seq (E := E) (f := 4) (p := [.b, .b, .b, .b, .b, .b, .b, .b, .b, .b, .b, .b, .b, .b]) [.b, .b, .b, .b, .b, .b, .b, .b, .b, .b, .b, .b, .b, .b, .a] [.b, .b, .b, .b, .b, .b, .b, .b, .b, .b, .b, .b, .b, .b, .b] rfl rfl (by kernel_rfl)]
              rw [e4_q14 n]
              refine Rf.pjv fun J3282 hJ3282 => ?_
              have J3282h : ∀ (b3283 : Bool) (s3284 : St) (g3286 : Regs) (h3287 : g3286 = (rg 171 [(8, (Value.bool b3283))])) (_ : Cx s0.next [] [] s0 s3284 [] [] []), Rf (J3282 b3283) H Q (kSeq E 4 n [.b, .b, .b, .b, .b, .b, .b, .b, .b, .b, .b, .b, .b, .b, .b] (kFin E 4) .normal g3286 s3284) := by
                subst hJ3282
                intro b3283 s3284 g3286 h3287 C3285
                subst h3287
                rw [kSeq_normal]
                rw [e4_q15 n]
                rw [e4_q15_ret n]
                subst hH; subst hQ
                exact Rf.leaf fun _ => Ev.done (Rf.ret C3285 rfl)
              clear hJ3282
              refine Rf.ldI (C3102.at m3 rfl) ?_
              refine Rf.ldI (C3102.at m3 rfl) ?_
              refine Rf.ldI (C3102.at m2 rfl) ?_
              refine Rf.ldI (C3102.at m2 rfl) ?_
              refine Rf.ite ?_ ?_
              · refine Rf.ite ?_ ?_
                · refine Rf.ite ?_ ?_
                  · refine Rf.ite ?_ ?_
                    · refine Rf.ldI (C3102.at m1 rfl) ?_
                      refine Rf.ldI (C3102.at m1 rfl) ?_
                      refine Rf.ldI (C3102.at m0 rfl) ?_
                      refine Rf.ldI (C3102.at m0 rfl) ?_
                      exact J3282h (((r2908.2.1 : Int) == r3091.2.1) && (((r2908.2.2 : Int) == r3091.2.2) && true)) _ _ rfl (C3102.sub (List.Sublist.cons _ (List.Sublist.cons _ (List.Sublist.cons _ (List.Sublist.cons _ List.Sublist.slnil)))) (List.Sublist.refl _) (List.Sublist.refl _))
                    · exact J3282h false _ _ rfl (C3102.sub (List.Sublist.cons _ (List.Sublist.cons _ (List.Sublist.cons _ (List.Sublist.cons _ List.Sublist.slnil)))) (List.Sublist.refl _) (List.Sublist.refl _))
                  · exact J3282h false _ _ rfl (C3102.sub (List.Sublist.cons _ (List.Sublist.cons _ (List.Sublist.cons _ (List.Sublist.cons _ List.Sublist.slnil)))) (List.Sublist.refl _) (List.Sublist.refl _))
                · exact J3282h false _ _ rfl (C3102.sub (List.Sublist.cons _ (List.Sublist.cons _ (List.Sublist.cons _ (List.Sublist.cons _ List.Sublist.slnil)))) (List.Sublist.refl _) (List.Sublist.refl _))
              · exact J3282h false _ _ rfl (C3102.sub (List.Sublist.cons _ (List.Sublist.cons _ (List.Sublist.cons _ (List.Sublist.cons _ List.Sublist.slnil)))) (List.Sublist.refl _) (List.Sublist.refl _))
            clear hJ2728
            refine Rf.ldI (C2547.at m0 rfl) ?_
            refine Rf.ite ?_ ?_
            · refine Rf.call0 C2547 (t19 n p0 p1 s2546 (C2547.gl rfl gl0)) ?_
              rintro r2722 _ s2723 rfl h2726
              have C2727 : Cx s0.next [] [] s0 s2723 [(s2538.next, AObj.box 24 [(Value.int .i64 r2537.1), (Value.int .i64 r2537.2)]), (s2183.next, AObj.box 24 [(Value.int .i64 r2182.2.2.1), (Value.int .i64 r2182.2.2.2)])] [] [] := h2726 [] (by simp) List.Pairwise.nil
              refine (Rf.asTup (Rf.unc (Rf.asI (Rf.unc (Rf.asI (Rf.unn ?_))))))
              exact J2728h r2722.1 r2722.2 _ _ _ _ rfl (C2727.sub (List.Sublist.refl _) (List.Sublist.refl _) (List.Sublist.refl _))
            · exact J2728h 0 0 _ _ _ _ rfl (C2547.sub (List.Sublist.refl _) (List.Sublist.refl _) (List.Sublist.refl _))
          clear hJ2000
          refine Rf.ldI (C1444.at m1 rfl) ?_
          refine Rf.ite ?_ ?_
          · refine Rf.pj fun J1790 J1790' hJ1790 hJ1790' => ?_
            have J1790h : ∀ (b1791 : Bool) (_ : Cx s0.next [] [] s0 s1443 [(s1237.next, AObj.box 24 [(Value.int .i64 r1236.2.1), (Value.int .i64 r1236.2.2)])] [(On.mk rS r872 A874 c875 9 false e877)] []), Rf (J1790 b1791) H Q (J1790' b1791) := by
              subst hJ1790
              subst hJ1790'
              intro b1791 C1793
              refine Rf.pj fun J1824 J1824' hJ1824 hJ1824' => ?_
              have J1824h : ∀ (b1825 : Bool) (s1827 : St) (_ : Cx s0.next [] [] s0 s1827 [] [] []), Rf (J1824 b1825) H Q (J1824' b1825 s1827) := by
                subst hJ1824
                subst hJ1824'
                intro b1825 s1827 C1828
                refine Rf.ite ?_ ?_
                · rw [e4_q7_ret n]
                  subst hH; subst hQ
                  exact Rf.leaf fun _ => Ev.done (Rf.ret C1828 rfl)
                · exact J2000h _ _ _ _ _ _ _ _ rfl (C1828.sub (List.Sublist.refl _) (List.Sublist.refl _) (List.Sublist.refl _))
              clear hJ1824 hJ1824'
              refine Rf.ite ?_ ?_
              · exact J1824h true _ (C1793.sub (List.Sublist.cons _ List.Sublist.slnil) (List.Sublist.cons _ List.Sublist.slnil) (List.Sublist.refl _))
              · refine Rf.ite ?_ ?_
                · refine Rf.ifp (C1793.isB m0) ?_
                  refine Rf.ldI (C1793.at m0 rfl) ?_
                  refine Rf.ite ?_ ?_
                  · exact J1824h true _ (C1793.sub (List.Sublist.cons _ List.Sublist.slnil) (List.Sublist.cons _ List.Sublist.slnil) (List.Sublist.refl _))
                  · refine Rf.elt (r := rS) (C1793.srB m0) rfl fun x1797 i1798 o1799 c1800 r1801 h1802 => ?_
                    obtain rfl := rS_elim r1801
                    refine Rf.ldS (h1802.at 0 rfl) ?_
                    refine Rf.ite ?_ ?_
                    · exact J1824h true _ (C1793.sub (List.Sublist.cons _ List.Sublist.slnil) (List.Sublist.cons _ List.Sublist.slnil) (List.Sublist.refl _))
                    · refine Rf.ite ?_ ?_
                      · refine Rf.ifp (C1793.isB m0) ?_
                        refine Rf.ldI (C1793.at m0 rfl) ?_
                        refine Rf.ldI (C1793.at m0 rfl) ?_
                        refine Rf.call0A C1793 (t17 n 4 (-2) { s1443 with lowb := s1443.next } (C1793.lb.gl rfl gl0)) ?_
                        rintro r1806 _ s1807 rfl h1811 h1810
                        have C1813 : Cx s0.next [] [] s0 { s1807 with lowb := min s1443.lowb s1807.lowb } [(s1237.next, AObj.box 24 [(Value.int .i64 r1236.2.1), (Value.int .i64 r1236.2.2)])] [(On.mk rS r872 A874 c875 9 false e877)] [] := h1810 [] (by simp) List.Pairwise.nil
                        refine (Rf.asAgg (Rf.unc (Rf.asI (Rf.unc (Rf.asI (Rf.unn ?_))))))
                        refine Rf.ifp h1811 ?_
                        refine Rf.lt ?_
                        generalize { s1807 with lowb := min s1443.lowb s1807.lowb } = s1812 at C1813 ⊢
                        refine Rf.ite ?_ ?_
                        · exact J1824h true _ (C1813.sub (List.Sublist.cons _ List.Sublist.slnil) (List.Sublist.cons _ List.Sublist.slnil) (List.Sublist.refl _))
                        · exact J1824h (!(r1236.1.toList == (⟨#[]⟩ : ByteArray).toList)) _ (C1813.sub (List.Sublist.cons _ List.Sublist.slnil) (List.Sublist.cons _ List.Sublist.slnil) (List.Sublist.refl _))
                      · exact J1824h false _ (C1793.sub (List.Sublist.cons _ List.Sublist.slnil) (List.Sublist.cons _ List.Sublist.slnil) (List.Sublist.refl _))
                · refine Rf.ite ?_ ?_
                  · refine Rf.ifp (C1793.isB m0) ?_
                    refine Rf.ldI (C1793.at m0 rfl) ?_
                    refine Rf.ldI (C1793.at m0 rfl) ?_
                    refine Rf.call0A C1793 (t17 n 4 (-2) { s1443 with lowb := s1443.next } (C1793.lb.gl rfl gl0)) ?_
                    rintro r1816 _ s1817 rfl h1821 h1820
                    have C1823 : Cx s0.next [] [] s0 { s1817 with lowb := min s1443.lowb s1817.lowb } [(s1237.next, AObj.box 24 [(Value.int .i64 r1236.2.1), (Value.int .i64 r1236.2.2)])] [(On.mk rS r872 A874 c875 9 false e877)] [] := h1820 [] (by simp) List.Pairwise.nil
                    refine (Rf.asAgg (Rf.unc (Rf.asI (Rf.unc (Rf.asI (Rf.unn ?_))))))
                    refine Rf.ifp h1821 ?_
                    refine Rf.lt ?_
                    generalize { s1817 with lowb := min s1443.lowb s1817.lowb } = s1822 at C1823 ⊢
                    refine Rf.ite ?_ ?_
                    · exact J1824h true _ (C1823.sub (List.Sublist.cons _ List.Sublist.slnil) (List.Sublist.cons _ List.Sublist.slnil) (List.Sublist.refl _))
                    · exact J1824h (!(r1236.1.toList == (⟨#[]⟩ : ByteArray).toList)) _ (C1823.sub (List.Sublist.cons _ List.Sublist.slnil) (List.Sublist.cons _ List.Sublist.slnil) (List.Sublist.refl _))
                  · exact J1824h false _ (C1793.sub (List.Sublist.cons _ List.Sublist.slnil) (List.Sublist.cons _ List.Sublist.slnil) (List.Sublist.refl _))
            clear hJ1790 hJ1790'
            refine Rf.ite ?_ ?_
            · exact J1790h (decide ((p2 : Int) ≤ ((r872).length : Nat))) (C1444.sub (List.Sublist.cons_cons _ (List.Sublist.cons _ List.Sublist.slnil)) (List.Sublist.refl _) (List.Sublist.refl _))
            · exact J1790h false (C1444.sub (List.Sublist.cons_cons _ (List.Sublist.cons _ List.Sublist.slnil)) (List.Sublist.refl _) (List.Sublist.refl _))
          · exact J2000h _ _ _ _ _ _ _ _ rfl (C1444.sub (List.Sublist.cons _ (List.Sublist.cons _ List.Sublist.slnil)) (List.Sublist.cons _ List.Sublist.slnil) (List.Sublist.refl _))
      clear hJ1440 hJ1440'
      refine Rf.call0A C1247 (t16 n p0 { s1246 with lowb := s1246.next } (C1247.lb.gl rfl gl0)) ?_
      rintro r1419 _ s1420 rfl h1424 h1423
      have C1426 : Cx s0.next [] [] s0 { s1420 with lowb := min s1246.lowb s1420.lowb } [(s1237.next, AObj.box 24 [(Value.int .i64 r1236.2.1), (Value.int .i64 r1236.2.2)]), (s1054.next, AObj.box 24 [(Value.int .i64 r1053.2.1), (Value.int .i64 r1053.2.2)]), (s691.next, AObj.box 24 [(Value.int .i64 r690.1), (Value.int .i64 r690.2)])] [(On.mk rS r872 A874 c875 9 false e877)] [] := h1423 [] (by simp) List.Pairwise.nil
      refine (Rf.asAgg (Rf.unc (Rf.asI (Rf.unc (Rf.asI (Rf.unn ?_))))))
      refine Rf.ifp h1424 ?_
      refine Rf.lt ?_
      generalize { s1420 with lowb := min s1246.lowb s1420.lowb } = s1425 at C1426 ⊢
      refine Rf.ifp (C1426.isB m2) ?_
      refine Rf.ldI (C1426.at m2 rfl) ?_
      refine Rf.ldI (C1426.at m2 rfl) ?_
      refine Rf.ite ?_ ?_
      · exact J1440h true _ (C1426.sub (List.Sublist.cons_cons _ (List.Sublist.cons _ (List.Sublist.cons_cons _ List.Sublist.slnil))) (List.Sublist.refl _) (List.Sublist.refl _))
      · refine Rf.ifp (C1426.isB m1) ?_
        refine Rf.ldI (C1426.at m1 rfl) ?_
        refine Rf.ldI (C1426.at m1 rfl) ?_
        refine Rf.ifp (C1426.isB m2) ?_
        refine Rf.ldI (C1426.at m2 rfl) ?_
        refine Rf.ldI (C1426.at m2 rfl) ?_
        refine Rf.ite ?_ ?_
        · exact J1440h true _ (C1426.sub (List.Sublist.cons_cons _ (List.Sublist.cons _ (List.Sublist.cons_cons _ List.Sublist.slnil))) (List.Sublist.refl _) (List.Sublist.refl _))
        · refine Rf.ifp (C1426.isB m2) ?_
          refine Rf.ldI (C1426.at m2 rfl) ?_
          refine Rf.ite ?_ ?_
          · refine Rf.ite ?_ ?_
            · exact J1440h true _ (C1426.sub (List.Sublist.cons_cons _ (List.Sublist.cons _ (List.Sublist.cons_cons _ List.Sublist.slnil))) (List.Sublist.refl _) (List.Sublist.refl _))
            · refine Rf.ifp (C1426.isB m0) ?_
              refine Rf.ldI (C1426.at m0 rfl) ?_
              refine Rf.ldI (C1426.at m0 rfl) ?_
              refine Rf.ifp (C1426.isB m2) ?_
              refine Rf.ldI (C1426.at m2 rfl) ?_
              refine Rf.ldI (C1426.at m2 rfl) ?_
              refine Rf.ite ?_ ?_
              · exact J1440h true _ (C1426.sub (List.Sublist.cons_cons _ (List.Sublist.cons _ (List.Sublist.cons_cons _ List.Sublist.slnil))) (List.Sublist.refl _) (List.Sublist.refl _))
              · exact J1440h (!(r1236.1.toList == (⟨#[]⟩ : ByteArray).toList)) _ (C1426.sub (List.Sublist.cons_cons _ (List.Sublist.cons _ (List.Sublist.cons_cons _ List.Sublist.slnil))) (List.Sublist.refl _) (List.Sublist.refl _))
          · exact J1440h false _ (C1426.sub (List.Sublist.cons_cons _ (List.Sublist.cons _ (List.Sublist.cons_cons _ List.Sublist.slnil))) (List.Sublist.refl _) (List.Sublist.refl _))
-- 5 "brindlewood/brindlewoodlaw1.SourceShowsExcerpts"
abbrev P5 (N : Nat) (X : List Nat) (r : Bool) (v : Value) (s : St) : Prop := v = (Value.bool r)
def p5 : Nat → ByteArray → Int → Int → Int → Option Bool
  | 0, _, _, _, _ => none
  | n + 1, p0, p1, p2, p3 => ((p9 n).bind fun r1 => (if (!r1) then (((some (false : Bool)))) else (((p21 n p0 p1 p2 p3).bind fun r6 => ((p22 n p0 p1 p2 p3).bind fun r18 => (pj (fun (b35 : Bool) => some (b35 : Bool)) (fun J34 => if (r6.1.toList == r18.1.toList) then ((J34 (((r6.2.1 : Int) == r18.2.1) && (((r6.2.2 : Int) == r18.2.2) && true)))) else ((J34 false)))))))))
theorem t5 (k : Nat) (p0 : ByteArray) (p1 : Int) (p2 : Int) (p3 : Int) (s0 : St) (gl0 : GlobOk s0) :
    Rf (p5 k p0 p1 p2 p3) (fun _ => True) (fun r => RtC s0.next [] [] s0 (P5 s0.next [] r)) (acall E k 5 [(Value.string p0), (Value.int .i64 p1), (Value.int .i64 p2), (Value.int .i64 p3)] s0) := by
  cases k with
  | zero => exact Rf.none
  | succ n =>
    rw [e5 n]
    rw [p5]
    refine Rf.gen fun H Q hH hQ => ?_
    have C0 : Cx s0.next [] [] s0 s0 [] [] [] := Cx.start s0
    refine Rf.call0 C0 (t9 n s0 (C0.gl rfl gl0)) ?_
    rintro r1 _ s2 rfl h4
    have C5 : Cx s0.next [] [] s0 s2 [] [] [] := h4 [] (by simp) List.Pairwise.nil
    refine (Rf.asB ?_)
    refine Rf.ite ?_ ?_
    · subst hH; subst hQ
      exact Rf.leaf fun _ => Ev.done (Rf.ret C5 rfl)
    · refine Rf.call0 C5 (t21 n p0 p1 p2 p3 s2 (C5.gl rfl gl0)) ?_
      rintro r6 _ s7 rfl h11
      have C12 : Cx s0.next [] [] s0 s7 [] [] [] := h11 [] (by simp) List.Pairwise.nil
      refine (Rf.asTup (Rf.unc (Rf.asS (Rf.unc (Rf.asAgg (Rf.unc (Rf.asI (Rf.unc (Rf.asI (Rf.unn (Rf.unn ?_)))))))))))
      refine Rf.new C12 fun s13 (C14 : Cx s0.next [] [] s0 s13 [(s7.next, AObj.box 24 [(Value.int .i64 0), (Value.int .i64 0)])] [] []) => ?_
      refine Rf.sto 0 C14 rfl (by simp) rfl fun s16 (C17 : Cx s0.next [] [] s0 s16 [(s7.next, AObj.box 24 [(Value.int .i64 r6.2.1), (Value.int .i64 r6.2.2)])] [] []) => ?_
      refine Rf.call0 C17 (t22 n p0 p1 p2 p3 s16 (C17.gl rfl gl0)) ?_
      rintro r18 _ s19 rfl h23
      have C24 : Cx s0.next [] [] s0 s19 [(s7.next, AObj.box 24 [(Value.int .i64 r6.2.1), (Value.int .i64 r6.2.2)])] [] [] := h23 [] (by simp) List.Pairwise.nil
      refine (Rf.asTup (Rf.unc (Rf.asS (Rf.unc (Rf.asAgg (Rf.unc (Rf.asI (Rf.unc (Rf.asI (Rf.unn (Rf.unn ?_)))))))))))
      refine Rf.new C24 fun s25 (C26 : Cx s0.next [] [] s0 s25 [(s19.next, AObj.box 24 [(Value.int .i64 0), (Value.int .i64 0)]), (s7.next, AObj.box 24 [(Value.int .i64 r6.2.1), (Value.int .i64 r6.2.2)])] [] []) => ?_
      refine Rf.sto 0 C26 rfl (by simp) rfl fun s28 (C29 : Cx s0.next [] [] s0 s28 [(s19.next, AObj.box 24 [(Value.int .i64 r18.2.1), (Value.int .i64 r18.2.2)]), (s7.next, AObj.box 24 [(Value.int .i64 r6.2.1), (Value.int .i64 r6.2.2)])] [] []) => ?_
      refine Rf.pj fun J34 J34' hJ34 hJ34' => ?_
      have J34h : ∀ (b35 : Bool) (_ : Cx s0.next [] [] s0 s28 [] [] []), Rf (J34 b35) H Q (J34' b35) := by
        subst hJ34
        subst hJ34'
        intro b35 C37
        subst hH; subst hQ
        exact Rf.leaf fun _ => Ev.done (Rf.ret C37 rfl)
      clear hJ34 hJ34'
      refine Rf.ite ?_ ?_
      · refine Rf.ldI (C29.at m1 rfl) ?_
        refine Rf.ldI (C29.at m1 rfl) ?_
        refine Rf.ldI (C29.at m0 rfl) ?_
        refine Rf.ldI (C29.at m0 rfl) ?_
        exact J34h (((r6.2.1 : Int) == r18.2.1) && (((r6.2.2 : Int) == r18.2.2) && true)) (C29.sub (List.Sublist.cons _ (List.Sublist.cons _ List.Sublist.slnil)) (List.Sublist.refl _) (List.Sublist.refl _))
      · exact J34h false (C29.sub (List.Sublist.cons _ (List.Sublist.cons _ List.Sublist.slnil)) (List.Sublist.refl _) (List.Sublist.refl _))
end Go.Proofs.YtnkbddljndfpnaaDoorF
