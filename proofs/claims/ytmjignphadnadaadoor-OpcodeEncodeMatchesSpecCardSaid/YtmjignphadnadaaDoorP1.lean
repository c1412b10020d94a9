/- The functions of the law of encoding, told as plain functions. -/
import Derived.Test.YtmjignphadnadaaDoorG2
import Derived.Test.YtmjignphadnadaaDoorF22b
set_option linter.unusedVariables false
set_option linter.unusedSimpArgs false
namespace Go.Proofs.YtmjignphadnadaaDoorF
open Go Go.Proofs
set_option maxRecDepth 100000
set_option maxHeartbeats 2000000

theorem u22 : E.und 22 = some (.slice 40) := by kernel_rfl
theorem u23 : E.und 23 = some (.slice 9) := by kernel_rfl
theorem u30 : E.und 30 = some (.slice 5) := by kernel_rfl
theorem u53 : E.und 53 = some (.slice 3) := by kernel_rfl
/-! ### Package variables that are read -/
def gT0 : List Int := [0, 0, 0, 0, 0, 0, 0, 0, 0, 1, 1, 1, 1, 1, 0, 0, 0, 0, 0, 0, 0, 0, 0, 0, 0, 0, 0, 0, 0, 0, 0, 0, 1, 0, 0, 0, 0, 0, 0, 0, 0, 0, 0, 0, 0, 0, 0, 0, 0, 0, 0, 0, 0, 0, 0, 0, 0, 0, 0, 0, 0, 0, 0, 0, 0, 0, 0, 0, 0, 0, 0, 0, 0, 0, 0, 0, 0, 0, 0, 0, 0, 0, 0, 0, 0, 0, 0, 0, 0, 0, 0, 0, 0, 0, 0, 0, 0, 0, 0, 0, 0, 0, 0, 0, 0, 0, 0, 0, 0, 0, 0, 0, 0, 0, 0, 0, 0, 0, 0, 0, 0, 0, 0, 0, 0, 0, 0, 0, 0, 0, 0, 0, 0, 0, 0, 0, 0, 0, 0, 0, 0, 0, 0, 0, 0, 0, 0, 0, 0, 0, 0, 0, 0, 0, 0, 0, 0, 0, 0, 0, 0, 0, 0, 0, 0, 0, 0, 0, 0, 0, 0, 0, 0, 0, 0, 0, 0, 0, 0, 0, 0, 0, 0, 0, 0, 0, 0, 0, 0, 0, 0, 0, 0, 0, 0, 0, 0, 0, 0, 0, 0, 0, 0, 0, 0, 0, 0, 0, 0, 0, 0, 0, 0, 0, 0, 0, 0, 0, 0, 0, 0, 0, 0, 0, 0, 0, 0, 0, 0, 0, 0, 0, 0, 0, 0, 0, 0, 0, 0, 0, 0, 0, 0, 0, 0, 0, 0, 0, 0, 0, 0, 0, 0, 0, 0, 0]
structure GlobOk (s : St) : Prop where
  g0 : Lo s 0 0 (gT0.map (Value.int .u8))
theorem GlobOk.ext {s s' : St} (h1 : s.next ≤ s'.next) (h2 : Kr s.next s s') (h : GlobOk s) : GlobOk s' := ⟨h.g0.ext h1 h2⟩
theorem Cx.gl {N : Nat} {X Z : List Nat} {s0 s : St} {L : List (Nat × AObj)} {B : List On} {G : List Fa} (C : Cx N X Z s0 s L B G) (hN : s0.next = N) (h : GlobOk s0) : GlobOk s := h.ext C.keep.next (by rw [hN]; exact C.kr)
theorem gAt0 {s : St} (h : GlobOk s) {i x : Int} (hx : gT0[i.toNat]? = some x) : At s 0 (0 + i.toNat * 1) (.int .u8 x) := by
  rw [Nat.mul_one]
  exact h.g0.at _ (by rw [List.getElem?_map, hx]; rfl)
-- 18 "brindlewood/opcode.within"
abbrev P18 (N : Nat) (X : List Nat) (r : Bool) (v : Value) (s : St) : Prop := v = (Value.bool r)
def p18 : Nat → Int → Int → Option Bool
  | 0, _, _ => none
  | n + 1, p0, p1 => (pj (fun (b2 : Bool) => some (b2 : Bool)) (fun J1 => if (decide ((p0 : Int) ≥ 0)) then ((J1 (decide ((p0 : Int) < p1)))) else ((J1 false))))
theorem t18 (k : Nat) (p0 : Int) (p1 : Int) (s0 : St) (gl0 : GlobOk s0) :
    Rf (p18 k p0 p1) (fun _ => True) (fun r => RtC s0.next [] [] s0 (P18 s0.next [] r)) (acall E k 18 [(Value.int .i64 p0), (Value.int .i64 p1)] s0) := by
  cases k with
  | zero => exact Rf.none
  | succ n =>
    rw [e18 n]
    rw [p18]
    refine Rf.gen fun H Q hH hQ => ?_
    have C0 : Cx s0.next [] [] s0 s0 [] [] [] := Cx.start s0
    refine Rf.pj fun J1 J1' hJ1 hJ1' => ?_
    have J1h : ∀ (b2 : Bool) (_ : Cx s0.next [] [] s0 s0 [] [] []), Rf (J1 b2) H Q (J1' b2) := by
      subst hJ1
      subst hJ1'
      intro b2 C4
      subst hH; subst hQ
      exact Rf.leaf fun _ => Ev.done (Rf.ret C4 rfl)
    clear hJ1 hJ1'
    refine Rf.ite ?_ ?_
    · exact J1h (decide ((p0 : Int) < p1)) (C0.sub (List.Sublist.refl _) (List.Sublist.refl _) (List.Sublist.refl _))
    · exact J1h false (C0.sub (List.Sublist.refl _) (List.Sublist.refl _) (List.Sublist.refl _))
-- 20 "brindlewood/opcode.fault"
abbrev P20 (N : Nat) (X : List Nat) (r : (Int × Int)) (v : Value) (s : St) : Prop := v = (Value.agg #[(Value.int .i64 r.1), (Value.int .i64 r.2)])
def p20 : Nat → Int → Int → Option (Int × Int)
  | 0, _, _ => none
  | n + 1, p0, p1 => ((some ((p0, p1) : (Int × Int))))
theorem t20 (k : Nat) (p0 : Int) (p1 : Int) (s0 : St) (gl0 : GlobOk s0) :
    Rf (p20 k p0 p1) (fun _ => True) (fun r => RtC s0.next [] [] s0 (P20 s0.next [] r)) (acall E k 20 [(Value.int .i64 p0), (Value.int .i64 p1)] s0) := by
  cases k with
  | zero => exact Rf.none
  | succ n =>
    rw [e20 n]
    rw [p20]
    refine Rf.gen fun H Q hH hQ => ?_
    have C0 : Cx s0.next [] [] s0 s0 [] [] [] := Cx.start s0
    refine Rf.new C0 fun s1 (C2 : Cx s0.next [] [] s0 s1 [(s0.next, AObj.box 32 [(Value.int .i64 0), (Value.int .i64 0)])] [] []) => ?_
    refine Rf.sto 0 C2 rfl (by simp) rfl fun s4 (C5 : Cx s0.next [] [] s0 s4 [(s0.next, AObj.box 32 [(Value.int .i64 p0), (Value.int .i64 p1)])] [] []) => ?_
    refine Rf.ldI (C5.at m0 rfl) ?_
    refine Rf.ldI (C5.at m0 rfl) ?_
    subst hH; subst hQ
    exact Rf.leaf fun _ => Ev.done (Rf.ret C5 rfl)
-- 22 "brindlewood/brindlewoodref7.At"
abbrev P22 (N : Nat) (X : List Nat) (r : (Int × Int)) (v : Value) (s : St) : Prop := v = (Value.agg #[(Value.int .i64 r.1), (Value.int .i64 r.2)])
def p22 : Nat → Int → Int → Option (Int × Int)
  | 0, _, _ => none
  | n + 1, p0, p1 => ((some ((p0, p1) : (Int × Int))))
theorem t22 (k : Nat) (p0 : Int) (p1 : Int) (s0 : St) (gl0 : GlobOk s0) :
    Rf (p22 k p0 p1) (fun _ => True) (fun r => RtC s0.next [] [] s0 (P22 s0.next [] r)) (acall E k 22 [(Value.int .i64 p0), (Value.int .i64 p1)] s0) := by
  cases k with
  | zero => exact Rf.none
  | succ n =>
    rw [e22 n]
    rw [p22]
    refine Rf.gen fun H Q hH hQ => ?_
    have C0 : Cx s0.next [] [] s0 s0 [] [] [] := Cx.start s0
    refine Rf.new C0 fun s1 (C2 : Cx s0.next [] [] s0 s1 [(s0.next, AObj.box 32 [(Value.int .i64 0), (Value.int .i64 0)])] [] []) => ?_
    refine Rf.sto 0 C2 rfl (by simp) rfl fun s4 (C5 : Cx s0.next [] [] s0 s4 [(s0.next, AObj.box 32 [(Value.int .i64 p0), (Value.int .i64 p1)])] [] []) => ?_
    refine Rf.ldI (C5.at m0 rfl) ?_
    refine Rf.ldI (C5.at m0 rfl) ?_
    subst hH; subst hQ
    exact Rf.leaf fun _ => Ev.done (Rf.ret C5 rfl)
-- 23 "brindlewood/brindlewoodref7.between"
abbrev P23 (N : Nat) (X : List Nat) (r : Bool) (v : Value) (s : St) : Prop := v = (Value.bool r)
def p23 : Nat → Int → Int → Int → Option Bool
  | 0, _, _, _ => none
  | n + 1, p0, p1, p2 => (pj (fun (b2 : Bool) => some (b2 : Bool)) (fun J1 => if (decide ((p1 : Int) ≤ p0)) then ((J1 (decide ((p0 : Int) ≤ p2)))) else ((J1 false))))
theorem t23 (k : Nat) (p0 : Int) (p1 : Int) (p2 : Int) (s0 : St) (gl0 : GlobOk s0) :
    Rf (p23 k p0 p1 p2) (fun _ => True) (fun r => RtC s0.next [] [] s0 (P23 s0.next [] r)) (acall E k 23 [(Value.int .i64 p0), (Value.int .i64 p1), (Value.int .i64 p2)] s0) := by
  cases k with
  | zero => exact Rf.none
  | succ n =>
    rw [e23 n]
    rw [p23]
    refine Rf.gen fun H Q hH hQ => ?_
    have C0 : Cx s0.next [] [] s0 s0 [] [] [] := Cx.start s0
    refine Rf.pj fun J1 J1' hJ1 hJ1' => ?_
    have J1h : ∀ (b2 : Bool) (_ : Cx s0.next [] [] s0 s0 [] [] []), Rf (J1 b2) H Q (J1' b2) := by
      subst hJ1
      subst hJ1'
      intro b2 C4
      subst hH; subst hQ
      exact Rf.leaf fun _ => Ev.done (Rf.ret C4 rfl)
    clear hJ1 hJ1'
    refine Rf.ite ?_ ?_
    · exact J1h (decide ((p0 : Int) ≤ p2)) (C0.sub (List.Sublist.refl _) (List.Sublist.refl _) (List.Sublist.refl _))
    · exact J1h false (C0.sub (List.Sublist.refl _) (List.Sublist.refl _) (List.Sublist.refl _))
-- 16 "slices.Equal[[]string,string]"
abbrev Inv16_1 (s0 : St) (p0 : (List ByteArray)) (p1 : (List ByteArray)) (A0 : Option Addr) (c0 : Nat) (A1 : Option Addr) (c1 : Nat) (gl0 : GlobOk s0) (h0 : Sr rS s0 A0 c0 p0) (h1 : Sr rS s0 A1 c1 p1)  (t : Int) (g : Regs) (s : St) : Prop := g = (rg 26 [(0, (Value.slice A0 (p0).length c0)), (1, (Value.slice A1 (p1).length c1)), (12, (Value.int .i64 ((p0).length : Nat))), (13, (Value.int .i64 t))]) ∧ Cx s0.next [] [] s0 s [] [] []
abbrev Ex16_1 (s0 : St) (p0 : (List ByteArray)) (p1 : (List ByteArray)) (A0 : Option Addr) (c0 : Nat) (A1 : Option Addr) (c1 : Nat) (gl0 : GlobOk s0) (h0 : Sr rS s0 A0 c0 p0) (h1 : Sr rS s0 A1 c1 p1)  (t : (Int ⊕ Unit)) (e : X) (g : Regs) (s : St) : Prop := match t with
  | (.inl t) => e = .exit 0 ∧ g = (rg 26 [(0, (Value.slice A0 (p0).length c0)), (1, (Value.slice A1 (p1).length c1)), (12, (Value.int .i64 ((p0).length : Nat))), (13, (Value.int .i64 t)), (14, (Value.bool false))]) ∧ Cx s0.next [] [] s0 s [] [] []
  | (.inr t) => e = .ret ∧ g = (rg 26 [(4, (Value.bool false))]) ∧ Cx s0.next [] [] s0 s [] [] []
theorem x16_1 (s0 : St) (p0 : (List ByteArray)) (p1 : (List ByteArray)) (A0 : Option Addr) (c0 : Nat) (A1 : Option Addr) (c1 : Nat) (gl0 : GlobOk s0) (h0 : Sr rS s0 A0 c0 p0) (h1 : Sr rS s0 A1 c1 p1)  (t : (Int ⊕ Unit)) (e : X) (g : Regs) (s : St) (h : Ex16_1 s0 p0 p1 A0 c0 A1 c1 gl0 h0 h1  t e g s) : e ≠ .normal := by
  rcases t with t | t
  · obtain ⟨h, _⟩ := h
    rw [h]; intro hh; cases hh
  · obtain ⟨h, _⟩ := h
    rw [h]; intro hh; cases hh
def pb16_1 (n : Nat) (p0 : (List ByteArray)) (p1 : (List ByteArray)) (t : Int) : Option (Int ⊕ (Int ⊕ Unit)) :=
  (if (decide ((t : Int) < ((p0).length : Nat))) then (((rd p0 t (fun x31 => rd p1 t (fun x38 => (if (!(x31.toList == x38.toList)) then ((((some (.inr (.inr ())))))) else (((some (.inl (IntKind.wrap .i64 (t + 1)))))))))))) else (((some (.inr (.inl t))))))
theorem b16_1 (n : Nat) (s0 : St) (p0 : (List ByteArray)) (p1 : (List ByteArray)) (A0 : Option Addr) (c0 : Nat) (A1 : Option Addr) (c1 : Nat) (gl0 : GlobOk s0) (h0 : Sr rS s0 A0 c0 p0) (h1 : Sr rS s0 A1 c1 p1)  (x1 : Int) (g : Regs) (s28 : St) (K : Kont) (Q : Out → St → Prop) (h : Inv16_1 s0 p0 p1 A0 c0 A1 c1 gl0 h0 h1  x1 g s28) :
    Rf (pb16_1 n p0 p1 x1) (fun r => ∀ e g' s', LK (Inv16_1 s0 p0 p1 A0 c0 A1 c1 gl0 h0 h1 ) (Ex16_1 s0 p0 p1 A0 c0 A1 c1 gl0 h0 h1 ) r e g' s' → Ev (K e g' s') Q) (fun _ => Q) (kBody E 16 n [.b, .b, .a, .b, .a, .a] g s28 K) := by
  obtain ⟨rfl, C29⟩ := h
  rw [e16_body0 n]
  unfold pb16_1
  refine Rf.gen fun H Q hH hQ => ?_
  refine Rf.ite ?_ ?_
  · refine Rf.elt (r := rS) (C29.sr0 rfl h0) rfl fun x31 i32 o33 c34 r35 h36 => ?_
    obtain rfl := rS_elim r35
    refine Rf.ldS (h36.at 0 rfl) ?_
    refine Rf.elt (r := rS) (C29.sr0 rfl h1) rfl fun x38 i39 o40 c41 r42 h43 => ?_
    obtain rfl := rS_elim r42
    refine Rf.ldS (h43.at 0 rfl) ?_
    refine Rf.ite ?_ ?_
    · subst hH; subst hQ
      exact Rf.leaf fun h => h _ _ _ ⟨rfl, rfl, (C29.sub (List.Sublist.refl _) (List.Sublist.refl _) (List.Sublist.refl _))⟩
    · subst hH; subst hQ
      exact Rf.leaf fun h => h _ _ _ ⟨rfl, rfl, (C29.sub (List.Sublist.refl _) (List.Sublist.refl _) (List.Sublist.refl _))⟩
  · subst hH; subst hQ
    exact Rf.leaf fun h => h _ _ _ ⟨rfl, rfl, (C29.sub (List.Sublist.refl _) (List.Sublist.refl _) (List.Sublist.refl _))⟩
abbrev P16 (N : Nat) (X : List Nat) (r : Bool) (v : Value) (s : St) : Prop := v = (Value.bool r)
def p16 : Nat → (List ByteArray) → (List ByteArray) → Option Bool
  | 0, _, _ => none
  | n + 1, p0, p1 => ((if ((((p0).length : Nat) : Int) != ((p1).length : Nat)) then (((some (false : Bool)))) else ((((loopP (pb16_1 n p0 p1) n 0).bind fun t104 => match t104 with | (.inl t46) => ((some (true : Bool))) | (.inr t75) => (some (false : Bool)))))))
theorem t16 (k : Nat) (p0 : (List ByteArray)) (p1 : (List ByteArray)) (s0 : St) {A0 : Option Addr} {c0 : Nat} {A1 : Option Addr} {c1 : Nat} (gl0 : GlobOk s0) (h0 : Sr rS s0 A0 c0 p0) (h1 : Sr rS s0 A1 c1 p1) :
    Rf (p16 k p0 p1) (fun _ => True) (fun r => RtC s0.next [] [] s0 (P16 s0.next [] r)) (acall E k 16 [(Value.slice A0 (p0).length c0), (Value.slice A1 (p1).length c1)] s0) := by
  cases k with
  | zero => exact Rf.none
  | succ n =>
    rw [e16 n]
    rw [p16]
    refine Rf.gen fun H Q hH hQ => ?_
    have C0 : Cx s0.next [] [] s0 s0 [] [] [] := Cx.start s0
    refine Rf.ite ?_ ?_
    · subst hH; subst hQ
      exact Rf.leaf fun _ => Ev.done (Rf.ret C0 rfl)
    · refine Rf.loop (Inv := Inv16_1 s0 p0 p1 A0 c0 A1 c1 gl0 h0 h1 ) (Ex := Ex16_1 s0 p0 p1 A0 c0 A1 c1 gl0 h0 h1 ) (x16_1 s0 p0 p1 A0 c0 A1 c1 gl0 h0 h1 ) (fun t g s K Q h => b16_1 n s0 p0 p1 A0 c0 A1 c1 gl0 h0 h1  t g s K Q h) n _ _ _ ⟨rfl, (C0.sub (List.Sublist.refl _) (List.Sublist.refl _) (List.Sublist.refl _))⟩ ?_
      intro t e g s h
      rcases t with t46 | t75
      · generalize s = s73 at h ⊢
        obtain ⟨rfl, rfl, C74⟩ := h
        rw [e16_after0_exit0 n]
        subst hH; subst hQ
        exact Rf.leaf fun _ => Ev.done (Rf.ret C74 rfl)
      · generalize s = s102 at h ⊢
        obtain ⟨rfl, rfl, C103⟩ := h
        rw [e16_after0_ret n]
        subst hH; subst hQ
        exact Rf.leaf fun _ => Ev.done (Rf.ret C103 rfl)
-- 5 "brindlewood/brindlewoodref7.Strings"
abbrev P5 (N : Nat) (X : List Nat) (r : Bool) (v : Value) (s : St) : Prop := v = (Value.bool r)
def p5 : Nat → (List ByteArray) → (List ByteArray) → Option Bool
  | 0, _, _ => none
  | n + 1, p0, p1 => ((p16 n p0 p1).bind fun r1 => (some (r1 : Bool)))
theorem t5 (k : Nat) (p0 : (List ByteArray)) (p1 : (List ByteArray)) (s0 : St) {A0 : Option Addr} {c0 : Nat} {A1 : Option Addr} {c1 : Nat} (gl0 : GlobOk s0) (h0 : Sr rS s0 A0 c0 p0) (h1 : Sr rS s0 A1 c1 p1) :
    Rf (p5 k p0 p1) (fun _ => True) (fun r => RtC s0.next [] [] s0 (P5 s0.next [] r)) (acall E k 5 [(Value.slice A0 (p0).length c0), (Value.slice A1 (p1).length c1)] s0) := by
  cases k with
  | zero => exact Rf.none
  | succ n =>
    rw [e5 n]
    rw [p5]
    refine Rf.gen fun H Q hH hQ => ?_
    have C0 : Cx s0.next [] [] s0 s0 [] [] [] := Cx.start s0
    refine Rf.call0 C0 (t16 n p0 p1 s0 (C0.gl rfl gl0) (C0.sr0 rfl h0) (C0.sr0 rfl h1)) ?_
    rintro r1 _ s2 rfl h4
    have C5 : Cx s0.next [] [] s0 s2 [] [] [] := h4 [] (by simp) List.Pairwise.nil
    refine (Rf.asB ?_)
    subst hH; subst hQ
    exact Rf.leaf fun _ => Ev.done (Rf.ret C5 rfl)
-- 11 "slices.Equal[[]byte,byte]"
abbrev Inv11_1 (s0 : St) (p0 : (List Int)) (p1 : (List Int)) (A0 : Option Addr) (c0 : Nat) (A1 : Option Addr) (c1 : Nat) (gl0 : GlobOk s0) (h0 : Sr (rI .u8) s0 A0 c0 p0) (h1 : Sr (rI .u8) s0 A1 c1 p1)  (t : Int) (g : Regs) (s : St) : Prop := g = (rg 26 [(0, (Value.slice A0 (p0).length c0)), (1, (Value.slice A1 (p1).length c1)), (12, (Value.int .i64 ((p0).length : Nat))), (13, (Value.int .i64 t))]) ∧ Cx s0.next [] [] s0 s [] [] []
abbrev Ex11_1 (s0 : St) (p0 : (List Int)) (p1 : (List Int)) (A0 : Option Addr) (c0 : Nat) (A1 : Option Addr) (c1 : Nat) (gl0 : GlobOk s0) (h0 : Sr (rI .u8) s0 A0 c0 p0) (h1 : Sr (rI .u8) s0 A1 c1 p1)  (t : (Int ⊕ Unit)) (e : X) (g : Regs) (s : St) : Prop := match t with
  | (.inl t) => e = .exit 0 ∧ g = (rg 26 [(0, (Value.slice A0 (p0).length c0)), (1, (Value.slice A1 (p1).length c1)), (12, (Value.int .i64 ((p0).length : Nat))), (13, (Value.int .i64 t)), (14, (Value.bool false))]) ∧ Cx s0.next [] [] s0 s [] [] []
  | (.inr t) => e = .ret ∧ g = (rg 26 [(4, (Value.bool false))]) ∧ Cx s0.next [] [] s0 s [] [] []
theorem x11_1 (s0 : St) (p0 : (List Int)) (p1 : (List Int)) (A0 : Option Addr) (c0 : Nat) (A1 : Option Addr) (c1 : Nat) (gl0 : GlobOk s0) (h0 : Sr (rI .u8) s0 A0 c0 p0) (h1 : Sr (rI .u8) s0 A1 c1 p1)  (t : (Int ⊕ Unit)) (e : X) (g : Regs) (s : St) (h : Ex11_1 s0 p0 p1 A0 c0 A1 c1 gl0 h0 h1  t e g s) : e ≠ .normal := by
  rcases t with t | t
  · obtain ⟨h, _⟩ := h
    rw [h]; intro hh; cases hh
  · obtain ⟨h, _⟩ := h
    rw [h]; intro hh; cases hh
def pb11_1 (n : Nat) (p0 : (List Int)) (p1 : (List Int)) (t : Int) : Option (Int ⊕ (Int ⊕ Unit)) :=
  (if (decide ((t : Int) < ((p0).length : Nat))) then (((rd p0 t (fun x31 => rd p1 t (fun x38 => (if ((x31 : Int) != x38) then ((((some (.inr (.inr ())))))) else (((some (.inl (IntKind.wrap .i64 (t + 1)))))))))))) else (((some (.inr (.inl t))))))
theorem b11_1 (n : Nat) (s0 : St) (p0 : (List Int)) (p1 : (List Int)) (A0 : Option Addr) (c0 : Nat) (A1 : Option Addr) (c1 : Nat) (gl0 : GlobOk s0) (h0 : Sr (rI .u8) s0 A0 c0 p0) (h1 : Sr (rI .u8) s0 A1 c1 p1)  (x1 : Int) (g : Regs) (s28 : St) (K : Kont) (Q : Out → St → Prop) (h : Inv11_1 s0 p0 p1 A0 c0 A1 c1 gl0 h0 h1  x1 g s28) :
    Rf (pb11_1 n p0 p1 x1) (fun r => ∀ e g' s', LK (Inv11_1 s0 p0 p1 A0 c0 A1 c1 gl0 h0 h1 ) (Ex11_1 s0 p0 p1 A0 c0 A1 c1 gl0 h0 h1 ) r e g' s' → Ev (K e g' s') Q) (fun _ => Q) (kBody E 11 n [.b, .b, .a, .b, .a, .a] g s28 K) := by
  obtain ⟨rfl, C29⟩ := h
  rw [e11_body0 n]
  unfold pb11_1
  refine Rf.gen fun H Q hH hQ => ?_
  refine Rf.ite ?_ ?_
  · refine Rf.elt (r := (rI .u8)) (C29.sr0 rfl h0) rfl fun x31 i32 o33 c34 r35 h36 => ?_
    obtain rfl := rI_elim r35
    refine Rf.ldI (h36.at 0 rfl) ?_
    refine Rf.elt (r := (rI .u8)) (C29.sr0 rfl h1) rfl fun x38 i39 o40 c41 r42 h43 => ?_
    obtain rfl := rI_elim r42
    refine Rf.ldI (h43.at 0 rfl) ?_
    refine Rf.ite ?_ ?_
    · subst hH; subst hQ
      exact Rf.leaf fun h => h _ _ _ ⟨rfl, rfl, (C29.sub (List.Sublist.refl _) (List.Sublist.refl _) (List.Sublist.refl _))⟩
    · subst hH; subst hQ
      exact Rf.leaf fun h => h _ _ _ ⟨rfl, rfl, (C29.sub (List.Sublist.refl _) (List.Sublist.refl _) (List.Sublist.refl _))⟩
  · subst hH; subst hQ
    exact Rf.leaf fun h => h _ _ _ ⟨rfl, rfl, (C29.sub (List.Sublist.refl _) (List.Sublist.refl _) (List.Sublist.refl _))⟩
abbrev P11 (N : Nat) (X : List Nat) (r : Bool) (v : Value) (s : St) : Prop := v = (Value.bool r)
def p11 : Nat → (List Int) → (List Int) → Option Bool
  | 0, _, _ => none
  | n + 1, p0, p1 => ((if ((((p0).length : Nat) : Int) != ((p1).length : Nat)) then (((some (false : Bool)))) else ((((loopP (pb11_1 n p0 p1) n 0).bind fun t104 => match t104 with | (.inl t46) => ((some (true : Bool))) | (.inr t75) => (some (false : Bool)))))))
theorem t11 (k : Nat) (p0 : (List Int)) (p1 : (List Int)) (s0 : St) {A0 : Option Addr} {c0 : Nat} {A1 : Option Addr} {c1 : Nat} (gl0 : GlobOk s0) (h0 : Sr (rI .u8) s0 A0 c0 p0) (h1 : Sr (rI .u8) s0 A1 c1 p1) :
    Rf (p11 k p0 p1) (fun _ => True) (fun r => RtC s0.next [] [] s0 (P11 s0.next [] r)) (acall E k 11 [(Value.slice A0 (p0).length c0), (Value.slice A1 (p1).length c1)] s0) := by
  cases k with
  | zero => exact Rf.none
  | succ n =>
    rw [e11 n]
    rw [p11]
    refine Rf.gen fun H Q hH hQ => ?_
    have C0 : Cx s0.next [] [] s0 s0 [] [] [] := Cx.start s0
    refine Rf.ite ?_ ?_
    · subst hH; subst hQ
      exact Rf.leaf fun _ => Ev.done (Rf.ret C0 rfl)
    · refine Rf.loop (Inv := Inv11_1 s0 p0 p1 A0 c0 A1 c1 gl0 h0 h1 ) (Ex := Ex11_1 s0 p0 p1 A0 c0 A1 c1 gl0 h0 h1 ) (x11_1 s0 p0 p1 A0 c0 A1 c1 gl0 h0 h1 ) (fun t g s K Q h => b11_1 n s0 p0 p1 A0 c0 A1 c1 gl0 h0 h1  t g s K Q h) n _ _ _ ⟨rfl, (C0.sub (List.Sublist.refl _) (List.Sublist.refl _) (List.Sublist.refl _))⟩ ?_
      intro t e g s h
      rcases t with t46 | t75
      · generalize s = s73 at h ⊢
        obtain ⟨rfl, rfl, C74⟩ := h
        rw [e11_after0_exit0 n]
        subst hH; subst hQ
        exact Rf.leaf fun _ => Ev.done (Rf.ret C74 rfl)
      · generalize s = s102 at h ⊢
        obtain ⟨rfl, rfl, C103⟩ := h
        rw [e11_after0_ret n]
        subst hH; subst hQ
        exact Rf.leaf fun _ => Ev.done (Rf.ret C103 rfl)
-- 13 "slices.Equal[[]brindlewood/api.Instr,brindlewood/api.Instr]"
abbrev Inv13_1 (s0 : St) (p0 : (List (Int × Int × Int))) (p1 : (List (Int × Int × Int))) (A0 : Option Addr) (c0 : Nat) (A1 : Option Addr) (c1 : Nat) (gl0 : GlobOk s0) (h0 : Sr (rP (rI .i64) (rP (rI .i64) (rI .i64))) s0 A0 c0 p0) (h1 : Sr (rP (rI .i64) (rP (rI .i64) (rI .i64))) s0 A1 c1 p1)  (t : Int) (g : Regs) (s : St) : Prop := g = (rg 26 [(0, (Value.slice A0 (p0).length c0)), (1, (Value.slice A1 (p1).length c1)), (12, (Value.int .i64 ((p0).length : Nat))), (13, (Value.int .i64 t))]) ∧ Cx s0.next [] [] s0 s [] [] []
abbrev Ex13_1 (s0 : St) (p0 : (List (Int × Int × Int))) (p1 : (List (Int × Int × Int))) (A0 : Option Addr) (c0 : Nat) (A1 : Option Addr) (c1 : Nat) (gl0 : GlobOk s0) (h0 : Sr (rP (rI .i64) (rP (rI .i64) (rI .i64))) s0 A0 c0 p0) (h1 : Sr (rP (rI .i64) (rP (rI .i64) (rI .i64))) s0 A1 c1 p1)  (t : (Int ⊕ Unit)) (e : X) (g : Regs) (s : St) : Prop := match t with
  | (.inl t) => e = .exit 0 ∧ g = (rg 26 [(0, (Value.slice A0 (p0).length c0)), (1, (Value.slice A1 (p1).length c1)), (12, (Value.int .i64 ((p0).length : Nat))), (13, (Value.int .i64 t)), (14, (Value.bool false))]) ∧ Cx s0.next [] [] s0 s [] [] []
  | (.inr t) => e = .ret ∧ g = (rg 26 [(4, (Value.bool false))]) ∧ Cx s0.next [] [] s0 s [] [] []
theorem x13_1 (s0 : St) (p0 : (List (Int × Int × Int))) (p1 : (List (Int × Int × Int))) (A0 : Option Addr) (c0 : Nat) (A1 : Option Addr) (c1 : Nat) (gl0 : GlobOk s0) (h0 : Sr (rP (rI .i64) (rP (rI .i64) (rI .i64))) s0 A0 c0 p0) (h1 : Sr (rP (rI .i64) (rP (rI .i64) (rI .i64))) s0 A1 c1 p1)  (t : (Int ⊕ Unit)) (e : X) (g : Regs) (s : St) (h : Ex13_1 s0 p0 p1 A0 c0 A1 c1 gl0 h0 h1  t e g s) : e ≠ .normal := by
  rcases t with t | t
  · obtain ⟨h, _⟩ := h
    rw [h]; intro hh; cases hh
  · obtain ⟨h, _⟩ := h
    rw [h]; intro hh; cases hh
def pb13_1 (n : Nat) (p0 : (List (Int × Int × Int))) (p1 : (List (Int × Int × Int))) (t : Int) : Option (Int ⊕ (Int ⊕ Unit)) :=
  (if (decide ((t : Int) < ((p0).length : Nat))) then (((rd p0 t (fun x31 => rd p1 t (fun x52 => (if (!(((x31.1 : Int) == x52.1) && (((x31.2.1 : Int) == x52.2.1) && (((x31.2.2 : Int) == x52.2.2) && true)))) then ((((some (.inr (.inr ())))))) else (((some (.inl (IntKind.wrap .i64 (t + 1)))))))))))) else (((some (.inr (.inl t))))))
theorem b13_1 (n : Nat) (s0 : St) (p0 : (List (Int × Int × Int))) (p1 : (List (Int × Int × Int))) (A0 : Option Addr) (c0 : Nat) (A1 : Option Addr) (c1 : Nat) (gl0 : GlobOk s0) (h0 : Sr (rP (rI .i64) (rP (rI .i64) (rI .i64))) s0 A0 c0 p0) (h1 : Sr (rP (rI .i64) (rP (rI .i64) (rI .i64))) s0 A1 c1 p1)  (x1 : Int) (g : Regs) (s28 : St) (K : Kont) (Q : Out → St → Prop) (h : Inv13_1 s0 p0 p1 A0 c0 A1 c1 gl0 h0 h1  x1 g s28) :
    Rf (pb13_1 n p0 p1 x1) (fun r => ∀ e g' s', LK (Inv13_1 s0 p0 p1 A0 c0 A1 c1 gl0 h0 h1 ) (Ex13_1 s0 p0 p1 A0 c0 A1 c1 gl0 h0 h1 ) r e g' s' → Ev (K e g' s') Q) (fun _ => Q) (kBody E 13 n [.b, .b, .a, .b, .a, .a] g s28 K) := by
  obtain ⟨rfl, C29⟩ := h
  rw [e13_body0 n]
  unfold pb13_1
  refine Rf.gen fun H Q hH hQ => ?_
  refine Rf.ite ?_ ?_
  · refine Rf.elt (r := (rP (rI .i64) (rP (rI .i64) (rI .i64)))) (C29.sr0 rfl h0) rfl fun x31 i32 o33 c34 r35 h36 => ?_
    obtain ⟨c41, c42, rfl, r43, r44⟩ := rP_elim r35
    obtain rfl := rI_elim r43
    obtain ⟨c45, c46, rfl, r47, r48⟩ := rP_elim r44
    obtain rfl := rI_elim r47
    obtain rfl := rI_elim r48
    refine Rf.ldI (h36.at 0 rfl) ?_
    refine Rf.ldI (h36.at 1 rfl) ?_
    refine Rf.ldI (h36.at 2 rfl) ?_
    refine Rf.elt (r := (rP (rI .i64) (rP (rI .i64) (rI .i64)))) (C29.sr0 rfl h1) rfl fun x52 i53 o54 c55 r56 h57 => ?_
    obtain ⟨c62, c63, rfl, r64, r65⟩ := rP_elim r56
    obtain rfl := rI_elim r64
    obtain ⟨c66, c67, rfl, r68, r69⟩ := rP_elim r65
    obtain rfl := rI_elim r68
    obtain rfl := rI_elim r69
    refine Rf.ldI (h57.at 0 rfl) ?_
    refine Rf.ldI (h57.at 1 rfl) ?_
    refine Rf.ldI (h57.at 2 rfl) ?_
    refine Rf.ite ?_ ?_
    · subst hH; subst hQ
      exact Rf.leaf fun h => h _ _ _ ⟨rfl, rfl, (C29.sub (List.Sublist.refl _) (List.Sublist.refl _) (List.Sublist.refl _))⟩
    · subst hH; subst hQ
      exact Rf.leaf fun h => h _ _ _ ⟨rfl, rfl, (C29.sub (List.Sublist.refl _) (List.Sublist.refl _) (List.Sublist.refl _))⟩
  · subst hH; subst hQ
    exact Rf.leaf fun h => h _ _ _ ⟨rfl, rfl, (C29.sub (List.Sublist.refl _) (List.Sublist.refl _) (List.Sublist.refl _))⟩
abbrev P13 (N : Nat) (X : List Nat) (r : Bool) (v : Value) (s : St) : Prop := v = (Value.bool r)
def p13 : Nat → (List (Int × Int × Int)) → (List (Int × Int × Int)) → Option Bool
  | 0, _, _ => none
  | n + 1, p0, p1 => ((if ((((p0).length : Nat) : Int) != ((p1).length : Nat)) then (((some (false : Bool)))) else ((((loopP (pb13_1 n p0 p1) n 0).bind fun t132 => match t132 with | (.inl t74) => ((some (true : Bool))) | (.inr t103) => (some (false : Bool)))))))
theorem t13 (k : Nat) (p0 : (List (Int × Int × Int))) (p1 : (List (Int × Int × Int))) (s0 : St) {A0 : Option Addr} {c0 : Nat} {A1 : Option Addr} {c1 : Nat} (gl0 : GlobOk s0) (h0 : Sr (rP (rI .i64) (rP (rI .i64) (rI .i64))) s0 A0 c0 p0) (h1 : Sr (rP (rI .i64) (rP (rI .i64) (rI .i64))) s0 A1 c1 p1) :
    Rf (p13 k p0 p1) (fun _ => True) (fun r => RtC s0.next [] [] s0 (P13 s0.next [] r)) (acall E k 13 [(Value.slice A0 (p0).length c0), (Value.slice A1 (p1).length c1)] s0) := by
  cases k with
  | zero => exact Rf.none
  | succ n =>
    rw [e13 n]
    rw [p13]
    refine Rf.gen fun H Q hH hQ => ?_
    have C0 : Cx s0.next [] [] s0 s0 [] [] [] := Cx.start s0
    refine Rf.ite ?_ ?_
    · subst hH; subst hQ
      exact Rf.leaf fun _ => Ev.done (Rf.ret C0 rfl)
    · refine Rf.loop (Inv := Inv13_1 s0 p0 p1 A0 c0 A1 c1 gl0 h0 h1 ) (Ex := Ex13_1 s0 p0 p1 A0 c0 A1 c1 gl0 h0 h1 ) (x13_1 s0 p0 p1 A0 c0 A1 c1 gl0 h0 h1 ) (fun t g s K Q h => b13_1 n s0 p0 p1 A0 c0 A1 c1 gl0 h0 h1  t g s K Q h) n _ _ _ ⟨rfl, (C0.sub (List.Sublist.refl _) (List.Sublist.refl _) (List.Sublist.refl _))⟩ ?_
      intro t e g s h
      rcases t with t74 | t103
      · generalize s = s101 at h ⊢
        obtain ⟨rfl, rfl, C102⟩ := h
        rw [e13_after0_exit0 n]
        subst hH; subst hQ
        exact Rf.leaf fun _ => Ev.done (Rf.ret C102 rfl)
      · generalize s = s130 at h ⊢
        obtain ⟨rfl, rfl, C131⟩ := h
        rw [e13_after0_ret n]
        subst hH; subst hQ
        exact Rf.leaf fun _ => Ev.done (Rf.ret C131 rfl)
-- 24 "brindlewood/brindlewoodref7.Septets"
abbrev P24 (N : Nat) (X : List Nat) (r : (List Int)) (v : Value) (s : St) : Prop := ∃ (A0 : Option Addr) (c0 : Nat) (e0 : Nat), v = (Value.slice A0 (r).length c0) ∧ (On.mk (rI .u8) r A0 c0 5 false e0).holds N X s
def p24 : Nat → Int → Option (List Int)
  | 0, _ => none
  | n + 1, p0 => ((if (decide ((p0 : Int) < 128)) then (((some ([(IntKind.wrap .u8 p0)] : (List Int))))) else ((remP .i64 p0 128 (fun x4 => divP .i64 p0 128 (fun x8 => (p24 n x8).bind fun r9 => apP 1 [(IntKind.wrap .u8 (IntKind.wrap .i64 (128 + x4)))] r9 (fun y22 => (some (([(IntKind.wrap .u8 (IntKind.wrap .i64 (128 + x4)))] ++ r9) : (List Int))))))))))
theorem t24 (k : Nat) (p0 : Int) (s0 : St) (gl0 : GlobOk s0) :
    Rf (p24 k p0) (fun _ => True) (fun r => RtC s0.next [] [] s0 (P24 s0.next [] r)) (acall E k 24 [(Value.int .i64 p0)] s0) := by
  induction k generalizing p0 s0 with
  | zero => exact Rf.none
  | succ n ih =>
    rw [e24 n]
    rw [p24]
    refine Rf.gen fun H Q hH hQ => ?_
    have C0 : Cx s0.next [] [] s0 s0 [] [] [] := Cx.start s0
    refine Rf.ite ?_ ?_
    · refine Rf.newR (r := (rI .u8)) (xs := [(IntKind.wrap .u8 p0)]) C0 rfl (many.cons (c := [(Value.int .u8 (IntKind.wrap .u8 p0))]) rI_mk many.nil) fun s1 (C2 : Cx s0.next [] [] s0 s1 [] [(On.mk (rI .u8) [(IntKind.wrap .u8 p0)] (some ⟨s0.next, 0, none⟩) 1 5 false s0.next)] []) => ?_
      subst hH; subst hQ
      exact Rf.leaf fun _ => Ev.done (Rf.ret C2 ⟨_, _, _, rfl, C2.own _ m0⟩)
    · refine Rf.remI fun x4 => ?_
      refine Rf.newR (r := (rI .u8)) (xs := [(IntKind.wrap .u8 (IntKind.wrap .i64 (128 + x4)))]) C0 rfl (many.cons (c := [(Value.int .u8 (IntKind.wrap .u8 (IntKind.wrap .i64 (128 + x4))))]) rI_mk many.nil) fun s5 (C6 : Cx s0.next [] [] s0 s5 [] [(On.mk (rI .u8) [(IntKind.wrap .u8 (IntKind.wrap .i64 (128 + x4)))] (some ⟨s0.next, 0, none⟩) 1 5 false s0.next)] []) => ?_
      refine Rf.divI fun x8 => ?_
      refine Rf.call0 C6 (ih x8 s5 (C6.gl rfl gl0)) ?_
      rintro r9 _ s10 ⟨A11, c12, e14, rfl, h13⟩ h17
      have C18 : Cx s0.next [] [] s0 s10 [] [(On.mk (rI .u8) r9 A11 c12 5 false e14), (On.mk (rI .u8) [(IntKind.wrap .u8 (IntKind.wrap .i64 (128 + x4)))] (some ⟨s0.next, 0, none⟩) 1 5 false s0.next)] [] := h17 [(On.mk (rI .u8) r9 A11 c12 5 false e14)] (by simpa using h13) (List.pairwise_singleton _ _)
      refine (Rf.asSl ?_)
      refine Rf.kapp 1 C18 rfl rfl (by decide) (by decide) (Ap.sr u30 rfl (C18.srB m0)) fun A19 c20 e21 s24 (C25 : Cx s0.next [] [] s0 s24 [] [(On.mk (rI .u8) r9 A11 c12 5 false e14), (On.mk (rI .u8) ([(IntKind.wrap .u8 (IntKind.wrap .i64 (128 + x4)))] ++ r9) A19 c20 5 false e21)] []) => ?_
      subst hH; subst hQ
      exact Rf.leaf fun _ => Ev.done (Rf.ret C25 ⟨_, _, _, rfl, C25.own _ m1⟩)
-- 21 "brindlewood/opcode.varint"
abbrev Inv21_1 (s0 : St) (p0 : (List Int)) (p1 : Int) (A0 : Option Addr) (c0 : Nat) (e0 : Nat) (gl0 : GlobOk s0) (h0 : (On.mk (rI .u8) p0 A0 c0 5 false e0).holds s0.next (On.mk (rI .u8) p0 A0 c0 5 false e0).foot s0)  (t : ((List Int) × Int)) (g : Regs) (s : St) : Prop := ∃ (A3 : Option Addr) (c4 : Nat) (e5 : Nat), g = (rg 21 [(0, (Value.slice A3 (t.1).length c4)), (1, (Value.int .i64 t.2))]) ∧ Cx s0.next (On.mk (rI .u8) p0 A0 c0 5 false e0).foot [] s0 s [] [(On.mk (rI .u8) t.1 A3 c4 5 false e5)] []
abbrev Ex21_1 (s0 : St) (p0 : (List Int)) (p1 : Int) (A0 : Option Addr) (c0 : Nat) (e0 : Nat) (gl0 : GlobOk s0) (h0 : (On.mk (rI .u8) p0 A0 c0 5 false e0).holds s0.next (On.mk (rI .u8) p0 A0 c0 5 false e0).foot s0)  (t : ((List Int) × Int)) (e : X) (g : Regs) (s : St) : Prop := ∃ (A46 : Option Addr) (c47 : Nat) (e48 : Nat), e = .exit 0 ∧ g = (rg 21 [(0, (Value.slice A46 (t.1).length c47)), (1, (Value.int .i64 t.2)), (6, (Value.bool false))]) ∧ Cx s0.next (On.mk (rI .u8) p0 A0 c0 5 false e0).foot [] s0 s [] [(On.mk (rI .u8) t.1 A46 c47 5 false e48)] []
theorem x21_1 (s0 : St) (p0 : (List Int)) (p1 : Int) (A0 : Option Addr) (c0 : Nat) (e0 : Nat) (gl0 : GlobOk s0) (h0 : (On.mk (rI .u8) p0 A0 c0 5 false e0).holds s0.next (On.mk (rI .u8) p0 A0 c0 5 false e0).foot s0)  (t : ((List Int) × Int)) (e : X) (g : Regs) (s : St) (h : Ex21_1 s0 p0 p1 A0 c0 e0 gl0 h0  t e g s) : e ≠ .normal := by
  obtain ⟨_, _, _, h, _⟩ := h
  rw [h]; intro hh; cases hh
def pb21_1 (n : Nat)  (t : ((List Int) × Int)) : Option (((List Int) × Int) ⊕ ((List Int) × Int)) :=
  (if (decide ((t.2 : Int) > 127)) then ((apP 1 t.1 [(IntKind.wrap .u8 (IntKind.wrap .i64 (((BitVec.ofInt (IntKind.bits .i64) (IntKind.wrap .i64 (((BitVec.ofInt (IntKind.bits .i64) t.2 &&& BitVec.ofInt (IntKind.bits .i64) 127).toNat : Nat))) ||| BitVec.ofInt (IntKind.bits .i64) 128).toNat : Nat))))] (fun y37 => (shrP .i64 t.2 7 (fun x43 => (some (.inl ((t.1 ++ [(IntKind.wrap .u8 (IntKind.wrap .i64 (((BitVec.ofInt (IntKind.bits .i64) (IntKind.wrap .i64 (((BitVec.ofInt (IntKind.bits .i64) t.2 &&& BitVec.ofInt (IntKind.bits .i64) 127).toNat : Nat))) ||| BitVec.ofInt (IntKind.bits .i64) 128).toNat : Nat))))]), x43)))))))) else (((some (.inr (t.1, t.2))))))
theorem b21_1 (n : Nat) (s0 : St) (p0 : (List Int)) (p1 : Int) (A0 : Option Addr) (c0 : Nat) (e0 : Nat) (gl0 : GlobOk s0) (h0 : (On.mk (rI .u8) p0 A0 c0 5 false e0).holds s0.next (On.mk (rI .u8) p0 A0 c0 5 false e0).foot s0)  (t : ((List Int) × Int)) (g : Regs) (s28 : St) (K : Kont) (Q : Out → St → Prop) (h : Inv21_1 s0 p0 p1 A0 c0 e0 gl0 h0  t g s28) :
    Rf (pb21_1 n t) (fun r => ∀ e g' s', LK (Inv21_1 s0 p0 p1 A0 c0 e0 gl0 h0 ) (Ex21_1 s0 p0 p1 A0 c0 e0 gl0 h0 ) r e g' s' → Ev (K e g' s') Q) (fun _ => Q) (kBody E 21 n [.b, .a, .a, .a] g s28 K) := by
  obtain ⟨y2, x6⟩ := t
  obtain ⟨A3, c4, e5, rfl, C29⟩ := h
  rw [e21_body0 n]
  unfold pb21_1
  refine Rf.gen fun H Q hH hQ => ?_
  try dsimp only
  refine Rf.ite ?_ ?_
  · refine Rf.newR (r := (rI .u8)) (xs := [(IntKind.wrap .u8 (IntKind.wrap .i64 (((BitVec.ofInt (IntKind.bits .i64) (IntKind.wrap .i64 (((BitVec.ofInt (IntKind.bits .i64) x6 &&& BitVec.ofInt (IntKind.bits .i64) 127).toNat : Nat))) ||| BitVec.ofInt (IntKind.bits .i64) 128).toNat : Nat))))]) C29 rfl (many.cons (c := [(Value.int .u8 (IntKind.wrap .u8 (IntKind.wrap .i64 (((BitVec.ofInt (IntKind.bits .i64) (IntKind.wrap .i64 (((BitVec.ofInt (IntKind.bits .i64) x6 &&& BitVec.ofInt (IntKind.bits .i64) 127).toNat : Nat))) ||| BitVec.ofInt (IntKind.bits .i64) 128).toNat : Nat)))))]) rI_mk many.nil) fun s31 (C32 : Cx s0.next (On.mk (rI .u8) p0 A0 c0 5 false e0).foot [] s0 s31 [] [(On.mk (rI .u8) [(IntKind.wrap .u8 (IntKind.wrap .i64 (((BitVec.ofInt (IntKind.bits .i64) (IntKind.wrap .i64 (((BitVec.ofInt (IntKind.bits .i64) x6 &&& BitVec.ofInt (IntKind.bits .i64) 127).toNat : Nat))) ||| BitVec.ofInt (IntKind.bits .i64) 128).toNat : Nat))))] (some ⟨s28.next, 0, none⟩) 1 5 false s28.next), (On.mk (rI .u8) y2 A3 c4 5 false e5)] []) => ?_
    refine Rf.kapp 1 C32 rfl rfl (by decide) (by decide) (Ap.sr u30 rfl (C32.srB m0)) fun A34 c35 e36 s39 (C40 : Cx s0.next (On.mk (rI .u8) p0 A0 c0 5 false e0).foot [] s0 s39 [] [(On.mk (rI .u8) [(IntKind.wrap .u8 (IntKind.wrap .i64 (((BitVec.ofInt (IntKind.bits .i64) (IntKind.wrap .i64 (((BitVec.ofInt (IntKind.bits .i64) x6 &&& BitVec.ofInt (IntKind.bits .i64) 127).toNat : Nat))) ||| BitVec.ofInt (IntKind.bits .i64) 128).toNat : Nat))))] (some ⟨s28.next, 0, none⟩) 1 5 false s28.next), (On.mk (rI .u8) (y2 ++ [(IntKind.wrap .u8 (IntKind.wrap .i64 (((BitVec.ofInt (IntKind.bits .i64) (IntKind.wrap .i64 (((BitVec.ofInt (IntKind.bits .i64) x6 &&& BitVec.ofInt (IntKind.bits .i64) 127).toNat : Nat))) ||| BitVec.ofInt (IntKind.bits .i64) 128).toNat : Nat))))]) A34 c35 5 false e36)] []) => ?_
    have C41 : Cx s0.next (On.mk (rI .u8) p0 A0 c0 5 false e0).foot [] s0 s39 [] [(On.mk (rI .u8) (y2 ++ [(IntKind.wrap .u8 (IntKind.wrap .i64 (((BitVec.ofInt (IntKind.bits .i64) (IntKind.wrap .i64 (((BitVec.ofInt (IntKind.bits .i64) x6 &&& BitVec.ofInt (IntKind.bits .i64) 127).toNat : Nat))) ||| BitVec.ofInt (IntKind.bits .i64) 128).toNat : Nat))))]) A34 c35 5 false e36)] [] := C40.sub (List.Sublist.refl _) (List.Sublist.cons _ (List.Sublist.cons_cons _ List.Sublist.slnil)) (List.Sublist.refl _)
    refine Rf.shrI fun x43 => ?_
    subst hH; subst hQ
    exact Rf.leaf fun h => h _ _ _ ⟨rfl, _, _, _, rfl, (C41.sub (List.Sublist.refl _) (List.Sublist.refl _) (List.Sublist.refl _))⟩
  · subst hH; subst hQ
    exact Rf.leaf fun h => h _ _ _ ⟨_, _, _, rfl, rfl, (C29.sub (List.Sublist.refl _) (List.Sublist.refl _) (List.Sublist.refl _))⟩
abbrev P21 (N : Nat) (X : List Nat) (r : (List Int)) (v : Value) (s : St) : Prop := ∃ (A0 : Option Addr) (c0 : Nat) (e0 : Nat), v = (Value.slice A0 (r).length c0) ∧ (On.mk (rI .u8) r A0 c0 5 false e0).holds N X s
def p21 : Nat → (List Int) → Int → Option (List Int)
  | 0, _, _ => none
  | n + 1, p0, p1 => ((loopP (pb21_1 n) n (p0, p1)).bind fun t50 => apP 1 t50.1 [(IntKind.wrap .u8 t50.2)] (fun y80 => (some ((t50.1 ++ [(IntKind.wrap .u8 t50.2)]) : (List Int)))))
theorem t21 (k : Nat) (p0 : (List Int)) (p1 : Int) (s0 : St) {A0 : Option Addr} {c0 : Nat} {e0 : Nat} (gl0 : GlobOk s0) (h0 : (On.mk (rI .u8) p0 A0 c0 5 false e0).holds s0.next (On.mk (rI .u8) p0 A0 c0 5 false e0).foot s0) :
    Rf (p21 k p0 p1) (fun _ => True) (fun r => RtC s0.next (On.mk (rI .u8) p0 A0 c0 5 false e0).foot [] s0 (P21 s0.next (On.mk (rI .u8) p0 A0 c0 5 false e0).foot r)) (acall E k 21 [(Value.slice A0 (p0).length c0), (Value.int .i64 p1)] s0) := by
  cases k with
  | zero => exact Rf.none
  | succ n =>
    rw [e21 n]
    rw [p21]
    refine Rf.gen fun H Q hH hQ => ?_
    have C0 : Cx s0.next (On.mk (rI .u8) p0 A0 c0 5 false e0).foot [] s0 s0 [] [(On.mk (rI .u8) p0 A0 c0 5 false e0)] [] := Cx.startO h0
    refine Rf.loop (Inv := Inv21_1 s0 p0 p1 A0 c0 e0 gl0 h0 ) (Ex := Ex21_1 s0 p0 p1 A0 c0 e0 gl0 h0 ) (x21_1 s0 p0 p1 A0 c0 e0 gl0 h0 ) (fun t g s K Q h => b21_1 n s0 p0 p1 A0 c0 e0 gl0 h0  t g s K Q h) n _ _ _ ⟨_, _, _, rfl, (C0.sub (List.Sublist.refl _) (List.Sublist.refl _) (List.Sublist.refl _))⟩ ?_
    intro t50 e g s72 h
    obtain ⟨A46, c47, e48, rfl, rfl, C73⟩ := h
    rw [e21_after0_exit0 n]
    refine Rf.newR (r := (rI .u8)) (xs := [(IntKind.wrap .u8 t50.2)]) C73 rfl (many.cons (c := [(Value.int .u8 (IntKind.wrap .u8 t50.2))]) rI_mk many.nil) fun s74 (C75 : Cx s0.next (On.mk (rI .u8) p0 A0 c0 5 false e0).foot [] s0 s74 [] [(On.mk (rI .u8) [(IntKind.wrap .u8 t50.2)] (some ⟨s72.next, 0, none⟩) 1 5 false s72.next), (On.mk (rI .u8) t50.1 A46 c47 5 false e48)] []) => ?_
    refine Rf.kapp 1 C75 rfl rfl (by decide) (by decide) (Ap.sr u30 rfl (C75.srB m0)) fun A77 c78 e79 s82 (C83 : Cx s0.next (On.mk (rI .u8) p0 A0 c0 5 false e0).foot [] s0 s82 [] [(On.mk (rI .u8) [(IntKind.wrap .u8 t50.2)] (some ⟨s72.next, 0, none⟩) 1 5 false s72.next), (On.mk (rI .u8) (t50.1 ++ [(IntKind.wrap .u8 t50.2)]) A77 c78 5 false e79)] []) => ?_
    have C84 : Cx s0.next (On.mk (rI .u8) p0 A0 c0 5 false e0).foot [] s0 s82 [] [(On.mk (rI .u8) (t50.1 ++ [(IntKind.wrap .u8 t50.2)]) A77 c78 5 false e79)] [] := C83.sub (List.Sublist.refl _) (List.Sublist.cons _ (List.Sublist.cons_cons _ List.Sublist.slnil)) (List.Sublist.refl _)
    subst hH; subst hQ
    exact Rf.leaf fun _ => Ev.done (Rf.ret C84 ⟨_, _, _, rfl, C84.own _ m0⟩)
-- 19 "brindlewood/opcode.operands"
abbrev P19 (N : Nat) (X : List Nat) (r : Int) (v : Value) (s : St) : Prop := v = (Value.int .i64 r)
def p19 : Nat → (ByteArray × Int × Int) → Option Int
  | 0, _ => none
  | n + 1, p0 => ((if ((p0.2.2 : Int) != 0) then (((some (2 : Int)))) else ((if ((p0.2.1 : Int) != 0) then (((some (1 : Int)))) else (((some (0 : Int))))))))
theorem t19 (k : Nat) (p0 : (ByteArray × Int × Int)) (s0 : St) (gl0 : GlobOk s0) :
    Rf (p19 k p0) (fun _ => True) (fun r => RtC s0.next [] [] s0 (P19 s0.next [] r)) (acall E k 19 [(Value.agg #[(Value.string p0.1), (Value.int .i64 p0.2.1), (Value.int .i64 p0.2.2)])] s0) := by
  cases k with
  | zero => exact Rf.none
  | succ n =>
    rw [e19 n]
    rw [p19]
    refine Rf.gen fun H Q hH hQ => ?_
    have C0 : Cx s0.next [] [] s0 s0 [] [] [] := Cx.start s0
    refine Rf.new C0 fun s1 (C2 : Cx s0.next [] [] s0 s1 [(s0.next, AObj.box 49 [(Value.string p0.1), (Value.int .i64 p0.2.1), (Value.int .i64 p0.2.2)])] [] []) => ?_
    refine Rf.ldI (C2.at m0 rfl) ?_
    refine Rf.ite ?_ ?_
    · subst hH; subst hQ
      exact Rf.leaf fun _ => Ev.done (Rf.ret C2 rfl)
    · refine Rf.ldI (C2.at m0 rfl) ?_
      refine Rf.ite ?_ ?_
      · subst hH; subst hQ
        exact Rf.leaf fun _ => Ev.done (Rf.ret C2 rfl)
      · subst hH; subst hQ
        exact Rf.leaf fun _ => Ev.done (Rf.ret C2 rfl)
-- 8 "brindlewood/brindlewoodlaw8.count"
abbrev P8 (N : Nat) (X : List Nat) (r : Int) (v : Value) (s : St) : Prop := v = (Value.int .i64 r)
def p8 : Nat → (List ByteArray) → Int → Option Int
  | 0, _, _ => none
  | n + 1, p0, p1 => (pj (fun (b2 : Bool) => if b2 then (((some (0 : Int)))) else ((rd p0 p1 (fun x5 => (some ((x5.size : Nat) : Int)))))) (fun J1 => if (decide ((p1 : Int) < 0)) then ((J1 true)) else ((J1 (decide ((p1 : Int) ≥ ((p0).length : Nat)))))))
theorem t8 (k : Nat) (p0 : (List ByteArray)) (p1 : Int) (s0 : St) {A0 : Option Addr} {c0 : Nat} (gl0 : GlobOk s0) (h0 : Sr rS s0 A0 c0 p0) :
    Rf (p8 k p0 p1) (fun _ => True) (fun r => RtC s0.next [] [] s0 (P8 s0.next [] r)) (acall E k 8 [(Value.slice A0 (p0).length c0), (Value.int .i64 p1)] s0) := by
  cases k with
  | zero => exact Rf.none
  | succ n =>
    rw [e8 n]
    rw [p8]
    refine Rf.gen fun H Q hH hQ => ?_
    have C0 : Cx s0.next [] [] s0 s0 [] [] [] := Cx.start s0
    refine Rf.pj fun J1 J1' hJ1 hJ1' => ?_
    have J1h : ∀ (b2 : Bool) (_ : Cx s0.next [] [] s0 s0 [] [] []), Rf (J1 b2) H Q (J1' b2) := by
      subst hJ1
      subst hJ1'
      intro b2 C4
      refine Rf.ite ?_ ?_
      · subst hH; subst hQ
        exact Rf.leaf fun _ => Ev.done (Rf.ret C4 rfl)
      · refine Rf.elt (r := rS) (C4.sr0 rfl h0) rfl fun x5 i6 o7 c8 r9 h10 => ?_
        obtain rfl := rS_elim r9
        refine Rf.ldS (h10.at 0 rfl) ?_
        subst hH; subst hQ
        exact Rf.leaf fun _ => Ev.done (Rf.ret C4 rfl)
    clear hJ1 hJ1'
    refine Rf.ite ?_ ?_
    · exact J1h true (C0.sub (List.Sublist.refl _) (List.Sublist.refl _) (List.Sublist.refl _))
    · exact J1h (decide ((p1 : Int) ≥ ((p0).length : Nat))) (C0.sub (List.Sublist.refl _) (List.Sublist.refl _) (List.Sublist.refl _))
-- 32 "internal/stringslite.IndexByte"
abbrev P32 (N : Nat) (X : List Nat) (r : Int) (v : Value) (s : St) : Prop := v = (Value.int .i64 r)
def p32 : Nat → ByteArray → Int → Option Int
  | 0, _, _ => none
  | n + 1, p0, p1 => ((some ((Lib.indexByte p0.data.toList p1.toNat.toUInt8) : Int)))
theorem t32 (k : Nat) (p0 : ByteArray) (p1 : Int) (s0 : St) (gl0 : GlobOk s0) :
    Rf (p32 k p0 p1) (fun _ => True) (fun r => RtC s0.next [] [] s0 (P32 s0.next [] r)) (acall E k 32 [(Value.string p0), (Value.int .u8 p1)] s0) := by
  cases k with
  | zero => exact Rf.none
  | succ n =>
    rw [e32 n]
    rw [p32]
    refine Rf.gen fun H Q hH hQ => ?_
    have C0 : Cx s0.next [] [] s0 s0 [] [] [] := Cx.start s0
    subst hH; subst hQ
    exact Rf.leaf fun _ => Ev.done (Rf.ret C0 rfl)
-- 29 "internal/stringslite.Index"
abbrev P29 (N : Nat) (X : List Nat) (r : Int) (v : Value) (s : St) : Prop := v = (Value.int .i64 r)
def p29 : Nat → ByteArray → ByteArray → Option Int
  | 0, _, _ => none
  | n + 1, p0, p1 => ((pj (fun (b2 : Bool) => if b2 then (((some (0 : Int)))) else ((if (((p1.size : Nat) : Int) == 1) then (idxP p1 0 (fun x5 => (p32 n p0 x5).bind fun r6 => ((some (r6 : Int))))) else ((if (decide (((p1.size : Nat) : Int) ≥ (p0.size : Nat))) then (((some ((-1) : Int)))) else (none)))))) (fun J1 => if (((p1.size : Nat) : Int) == 0) then ((J1 true)) else ((J1 (p1.toList == p0.toList))))))
theorem t29 (k : Nat) (p0 : ByteArray) (p1 : ByteArray) (s0 : St) (gl0 : GlobOk s0) :
    Rf (p29 k p0 p1) (fun _ => True) (fun r => RtC s0.next [] [] s0 (P29 s0.next [] r)) (acall E k 29 [(Value.string p0), (Value.string p1)] s0) := by
  cases k with
  | zero => exact Rf.none
  | succ n =>
    rw [e29 n]
    rw [p29]
    refine Rf.gen fun H Q hH hQ => ?_
    have C0 : Cx s0.next [] [] s0 s0 [] [] [] := Cx.start s0
    refine Rf.pj fun J1 J1' hJ1 hJ1' => ?_
    have J1h : ∀ (b2 : Bool) (_ : Cx s0.next [] [] s0 s0 [] [] []), Rf (J1 b2) H Q (J1' b2) := by
      subst hJ1
      subst hJ1'
      intro b2 C4
      refine Rf.ite ?_ ?_
      · subst hH; subst hQ
        exact Rf.leaf fun _ => Ev.done (Rf.ret C4 rfl)
      · refine Rf.ite ?_ ?_
        · refine Rf.idx fun x5 => ?_
          refine Rf.call0 C4 (t32 n p0 x5 s0 (C4.gl rfl gl0)) ?_
          rintro r6 _ s7 rfl h9
          have C10 : Cx s0.next [] [] s0 s7 [] [] [] := h9 [] (by simp) List.Pairwise.nil
          refine (Rf.asI ?_)
          subst hH; subst hQ
          exact Rf.leaf fun _ => Ev.done (Rf.ret C10 rfl)
        · refine Rf.ite ?_ ?_
          · subst hH; subst hQ
            exact Rf.leaf fun _ => Ev.done (Rf.ret C4 rfl)
          · exact Rf.none
    clear hJ1 hJ1'
    refine Rf.ite ?_ ?_
    · exact J1h true (C0.sub (List.Sublist.refl _) (List.Sublist.refl _) (List.Sublist.refl _))
    · exact J1h (p1.toList == p0.toList) (C0.sub (List.Sublist.refl _) (List.Sublist.refl _) (List.Sublist.refl _))
-- 27 "internal/stringslite.Cut"
abbrev P27 (N : Nat) (X : List Nat) (r : (ByteArray × ByteArray × Bool)) (v : Value) (s : St) : Prop := v = (Value.tuple #[(Value.string r.1), (Value.string r.2.1), (Value.bool r.2.2)])
def p27 : Nat → ByteArray → ByteArray → Option (ByteArray × ByteArray × Bool)
  | 0, _, _ => none
  | n + 1, p0, p1 => ((p29 n p0 p1).bind fun r1 => ((if (decide ((r1 : Int) ≥ 0)) then (subP p0 0 r1 (fun z6 => subP p0 (IntKind.wrap .i64 (r1 + (p1.size : Nat))) (p0.size : Nat) (fun z7 => ((some ((z6, z7, true) : (ByteArray × ByteArray × Bool))))))) else (((some ((p0, (⟨#[]⟩ : ByteArray), false) : (ByteArray × ByteArray × Bool))))))))
theorem t27 (k : Nat) (p0 : ByteArray) (p1 : ByteArray) (s0 : St) (gl0 : GlobOk s0) :
    Rf (p27 k p0 p1) (fun _ => True) (fun r => RtC s0.next [] [] s0 (P27 s0.next [] r)) (acall E k 27 [(Value.string p0), (Value.string p1)] s0) := by
  cases k with
  | zero => exact Rf.none
  | succ n =>
    rw [e27 n]
    rw [p27]
    refine Rf.gen fun H Q hH hQ => ?_
    have C0 : Cx s0.next [] [] s0 s0 [] [] [] := Cx.start s0
    refine Rf.call0 C0 (t29 n p0 p1 s0 (C0.gl rfl gl0)) ?_
    rintro r1 _ s2 rfl h4
    have C5 : Cx s0.next [] [] s0 s2 [] [] [] := h4 [] (by simp) List.Pairwise.nil
    refine (Rf.asI ?_)
    refine Rf.ite ?_ ?_
    · refine Rf.subS fun z6 => ?_
      refine Rf.subS fun z7 => ?_
      subst hH; subst hQ
      exact Rf.leaf fun _ => Ev.done (Rf.ret C5 rfl)
    · subst hH; subst hQ
      exact Rf.leaf fun _ => Ev.done (Rf.ret C5 rfl)
-- 15 "strings.Cut"
abbrev P15 (N : Nat) (X : List Nat) (r : (ByteArray × ByteArray × Bool)) (v : Value) (s : St) : Prop := v = (Value.tuple #[(Value.string r.1), (Value.string r.2.1), (Value.bool r.2.2)])
def p15 : Nat → ByteArray → ByteArray → Option (ByteArray × ByteArray × Bool)
  | 0, _, _ => none
  | n + 1, p0, p1 => ((p27 n p0 p1).bind fun r1 => (some ((r1.1, r1.2.1, r1.2.2) : (ByteArray × ByteArray × Bool))))
theorem t15 (k : Nat) (p0 : ByteArray) (p1 : ByteArray) (s0 : St) (gl0 : GlobOk s0) :
    Rf (p15 k p0 p1) (fun _ => True) (fun r => RtC s0.next [] [] s0 (P15 s0.next [] r)) (acall E k 15 [(Value.string p0), (Value.string p1)] s0) := by
  cases k with
  | zero => exact Rf.none
  | succ n =>
    rw [e15 n]
    rw [p15]
    refine Rf.gen fun H Q hH hQ => ?_
    have C0 : Cx s0.next [] [] s0 s0 [] [] [] := Cx.start s0
    refine Rf.call0 C0 (t27 n p0 p1 s0 (C0.gl rfl gl0)) ?_
    rintro r1 _ s2 rfl h6
    have C7 : Cx s0.next [] [] s0 s2 [] [] [] := h6 [] (by simp) List.Pairwise.nil
    refine (Rf.asTup (Rf.unc (Rf.asS (Rf.unc (Rf.asS (Rf.unc (Rf.asB (Rf.unn ?_))))))))
    subst hH; subst hQ
    exact Rf.leaf fun _ => Ev.done (Rf.ret C7 rfl)
-- 14 "strings.Fields"
abbrev Inv14_1 (s0 : St) (p0 : ByteArray) (gl0 : GlobOk s0)  (t : (Int × Int × Int × Int)) (g : Regs) (s : St) : Prop := g = (rg 106 [(0, (Value.string p0)), (3, (Value.int .i64 t.1)), (4, (Value.int .i64 t.2.1)), (5, (Value.int .u8 t.2.2.1)), (6, (Value.int .i64 t.2.2.2))]) ∧ Cx s0.next [] [] s0 s [] [] []
abbrev Ex14_1 (s0 : St) (p0 : ByteArray) (gl0 : GlobOk s0)  (t : (Int × Int × Int × Int)) (e : X) (g : Regs) (s : St) : Prop := e = .exit 0 ∧ g = (rg 106 [(0, (Value.string p0)), (3, (Value.int .i64 t.1)), (4, (Value.int .i64 t.2.1)), (5, (Value.int .u8 t.2.2.1)), (6, (Value.int .i64 t.2.2.2)), (16, (Value.bool false))]) ∧ Cx s0.next [] [] s0 s [] [] []
theorem x14_1 (s0 : St) (p0 : ByteArray) (gl0 : GlobOk s0)  (t : (Int × Int × Int × Int)) (e : X) (g : Regs) (s : St) (h : Ex14_1 s0 p0 gl0  t e g s) : e ≠ .normal := by
  obtain ⟨h, _⟩ := h
  rw [h]; intro hh; cases hh
def pb14_1 (n : Nat) (p0 : ByteArray) (t : (Int × Int × Int × Int)) : Option ((Int × Int × Int × Int) ⊕ (Int × Int × Int × Int)) :=
  (if (decide ((t.2.2.2 : Int) < (p0.size : Nat))) then ((idxP p0 t.2.2.2 (fun x114 => ((inb 256 x114 (rd gT0 x114 (fun x119 => ((((some (.inl ((IntKind.wrap .i64 (t.1 + (IntKind.wrap .i64 (((BitVec.ofInt (IntKind.bits .i64) t.2.1 &&& BitVec.ofInt (IntKind.bits .i64) (IntKind.wrap .i64 ((BitVec.ofInt (IntKind.bits .i64) (-1) ^^^ BitVec.ofInt (IntKind.bits .i64) (IntKind.wrap .i64 x119)).toNat : Nat))).toNat : Nat))))), (IntKind.wrap .i64 x119), (IntKind.wrap .u8 (((BitVec.ofInt (IntKind.bits .u8) t.2.2.1 ||| BitVec.ofInt (IntKind.bits .u8) x114).toNat : Nat))), (IntKind.wrap .i64 (t.2.2.2 + 1))))))))))))))) else (((some (.inr (t.1, t.2.1, t.2.2.1, t.2.2.2))))))
theorem b14_1 (n : Nat) (s0 : St) (p0 : ByteArray) (gl0 : GlobOk s0)  (t : (Int × Int × Int × Int)) (g : Regs) (s111 : St) (K : Kont) (Q : Out → St → Prop) (h : Inv14_1 s0 p0 gl0  t g s111) :
    Rf (pb14_1 n p0 t) (fun r => ∀ e g' s', LK (Inv14_1 s0 p0 gl0 ) (Ex14_1 s0 p0 gl0 ) r e g' s' → Ev (K e g' s') Q) (fun _ => Q) (kBody E 14 n [.b, .b, .b, .b, .a, .b, .a, .a] g s111 K) := by
  obtain ⟨x1, x2, x3, x4⟩ := t
  obtain ⟨rfl, C112⟩ := h
  rw [e14_body0 n]
  unfold pb14_1
  refine Rf.gen fun H Q hH hQ => ?_
  try dsimp only
  refine Rf.ite ?_ ?_
  · refine Rf.idx fun x114 => ?_
    refine Rf.aelt fun h117 h118 => ?_
    refine Rf.arr fun x119 x119_h => ?_
    refine Rf.ldI (gAt0 (C112.gl rfl gl0) x119_h) ?_
    subst hH; subst hQ
    exact Rf.leaf fun h => h _ _ _ ⟨rfl, rfl, (C112.sub (List.Sublist.refl _) (List.Sublist.refl _) (List.Sublist.refl _))⟩
  · subst hH; subst hQ
    exact Rf.leaf fun h => h _ _ _ ⟨rfl, rfl, (C112.sub (List.Sublist.refl _) (List.Sublist.refl _) (List.Sublist.refl _))⟩
abbrev Inv14_2 (s0 : St) (p0 : ByteArray) (gl0 : GlobOk s0) (A240 : Option Addr) (e241 : Nat) (t125 : (Int × Int × Int × Int)) (t : Int) (g : Regs) (s : St) : Prop := g = (rg 106 [(0, (Value.string p0)), (9, (Value.slice A240 ((List.replicate (t125.1).toNat ByteArray.empty)).length (t125.1).toNat)), (10, (Value.int .i64 0)), (12, (Value.int .i64 t))]) ∧ Cx s0.next [] [] s0 s [] [(On.mk rS (List.replicate (t125.1).toNat ByteArray.empty) A240 (t125.1).toNat 9 true e241)] []
abbrev Ex14_2 (s0 : St) (p0 : ByteArray) (gl0 : GlobOk s0) (A240 : Option Addr) (e241 : Nat) (t125 : (Int × Int × Int × Int)) (t : Int) (e : X) (g : Regs) (s : St) : Prop := e = .exit 2 ∧ g = (rg 106 [(0, (Value.string p0)), (9, (Value.slice A240 ((List.replicate (t125.1).toNat ByteArray.empty)).length (t125.1).toNat)), (10, (Value.int .i64 0)), (12, (Value.int .i64 t)), (53, (Value.bool false))]) ∧ Cx s0.next [] [] s0 s [] [(On.mk rS (List.replicate (t125.1).toNat ByteArray.empty) A240 (t125.1).toNat 9 true e241)] []
theorem x14_2 (s0 : St) (p0 : ByteArray) (gl0 : GlobOk s0) (A240 : Option Addr) (e241 : Nat) (t125 : (Int × Int × Int × Int)) (t : Int) (e : X) (g : Regs) (s : St) (h : Ex14_2 s0 p0 gl0 A240 e241 t125 t e g s) : e ≠ .normal := by
  obtain ⟨h, _⟩ := h
  rw [h]; intro hh; cases hh
def pb14_2 (n : Nat) (p0 : ByteArray) (t : Int) : Option (Int ⊕ Int) :=
  pj (fun (b359 : Bool) => if b359 then (((some (.inl (IntKind.wrap .i64 (t + 1)))))) else (((some (.inr t))))) (fun J358 => if (decide ((t : Int) < (p0.size : Nat))) then (idxP p0 t (fun x351 => inb 256 x351 (rd gT0 x351 (fun x356 => (J358 ((x356 : Int) != 0)))))) else ((J358 false)))
theorem b14_2 (n : Nat) (s0 : St) (p0 : ByteArray) (gl0 : GlobOk s0) (A240 : Option Addr) (e241 : Nat) (t125 : (Int × Int × Int × Int)) (x239 : Int) (g : Regs) (s348 : St) (K : Kont) (Q : Out → St → Prop) (h : Inv14_2 s0 p0 gl0 A240 e241 t125 x239 g s348) :
    Rf (pb14_2 n p0 x239) (fun r => ∀ e g' s', LK (Inv14_2 s0 p0 gl0 A240 e241 t125) (Ex14_2 s0 p0 gl0 A240 e241 t125) r e g' s' → Ev (K e g' s') Q) (fun _ => Q) (kBody E 14 n [.b, .b, .b, .b, .b, .b, .b, .b, .b, .b, .a, .a, .a] g s348 K) := by
  obtain ⟨rfl, C349⟩ := h
  rw [e14_body1 n]
  unfold pb14_2
  refine Rf.gen fun H Q hH hQ => ?_
  refine Rf.pj fun J358 J358' hJ358 hJ358' => ?_
  have J358h : ∀ (b359 : Bool) (_ : Cx s0.next [] [] s0 s348 [] [(On.mk rS (List.replicate (t125.1).toNat ByteArray.empty) A240 (t125.1).toNat 9 true e241)] []), Rf (J358 b359) H Q (J358' b359) := by
    subst hJ358
    subst hJ358'
    intro b359 C361
    refine Rf.ite ?_ ?_
    · subst hH; subst hQ
      exact Rf.leaf fun h => h _ _ _ ⟨rfl, rfl, (C361.sub (List.Sublist.refl _) (List.Sublist.refl _) (List.Sublist.refl _))⟩
    · subst hH; subst hQ
      exact Rf.leaf fun h => h _ _ _ ⟨rfl, rfl, (C361.sub (List.Sublist.refl _) (List.Sublist.refl _) (List.Sublist.refl _))⟩
  clear hJ358 hJ358'
  refine Rf.ite ?_ ?_
  · refine Rf.idx fun x351 => ?_
    refine Rf.aelt fun h354 h355 => ?_
    refine Rf.arr fun x356 x356_h => ?_
    refine Rf.ldI (gAt0 (C349.gl rfl gl0) x356_h) ?_
    exact J358h ((x356 : Int) != 0) (C349.sub (List.Sublist.refl _) (List.Sublist.refl _) (List.Sublist.refl _))
  · exact J358h false (C349.sub (List.Sublist.refl _) (List.Sublist.refl _) (List.Sublist.refl _))
abbrev Inv14_4 (s0 : St) (p0 : ByteArray) (gl0 : GlobOk s0) (A477 : Option Addr) (e478 : Nat) (t125 : (Int × Int × Int × Int)) (x474 : Int) (y473 : (List ByteArray)) (z596 : ByteArray) (t : Int) (g : Regs) (s : St) : Prop := g = (rg 106 [(0, (Value.string p0)), (9, (Value.slice A477 ((List.replicate (t125.1).toNat ByteArray.empty)).length (t125.1).toNat)), (10, (Value.int .i64 (IntKind.wrap .i64 (x474 + 1)))), (12, (Value.int .i64 t))]) ∧ ((List.replicate (t125.1).toNat ByteArray.empty)).length = ((List.set y473 (x474).toNat z596)).length ∧ Cx s0.next [] [] s0 s [] [(On.mk rS (List.set y473 (x474).toNat z596) A477 (t125.1).toNat 9 true e478)] []
abbrev Ex14_4 (s0 : St) (p0 : ByteArray) (gl0 : GlobOk s0) (A477 : Option Addr) (e478 : Nat) (t125 : (Int × Int × Int × Int)) (x474 : Int) (y473 : (List ByteArray)) (z596 : ByteArray) (t : Int) (e : X) (g : Regs) (s : St) : Prop := e = .exit 6 ∧ g = (rg 106 [(0, (Value.string p0)), (9, (Value.slice A477 ((List.replicate (t125.1).toNat ByteArray.empty)).length (t125.1).toNat)), (10, (Value.int .i64 (IntKind.wrap .i64 (x474 + 1)))), (12, (Value.int .i64 t)), (91, (Value.bool false))]) ∧ ((List.replicate (t125.1).toNat ByteArray.empty)).length = ((List.set y473 (x474).toNat z596)).length ∧ Cx s0.next [] [] s0 s [] [(On.mk rS (List.set y473 (x474).toNat z596) A477 (t125.1).toNat 9 true e478)] []
theorem x14_4 (s0 : St) (p0 : ByteArray) (gl0 : GlobOk s0) (A477 : Option Addr) (e478 : Nat) (t125 : (Int × Int × Int × Int)) (x474 : Int) (y473 : (List ByteArray)) (z596 : ByteArray) (t : Int) (e : X) (g : Regs) (s : St) (h : Ex14_4 s0 p0 gl0 A477 e478 t125 x474 y473 z596 t e g s) : e ≠ .normal := by
  obtain ⟨h, _⟩ := h
  rw [h]; intro hh; cases hh
def pb14_4 (n : Nat) (p0 : ByteArray) (t : Int) : Option (Int ⊕ Int) :=
  pj (fun (b729 : Bool) => if b729 then (((some (.inl (IntKind.wrap .i64 (t + 1)))))) else (((some (.inr t))))) (fun J728 => if (decide ((t : Int) < (p0.size : Nat))) then (idxP p0 t (fun x721 => inb 256 x721 (rd gT0 x721 (fun x726 => (J728 ((x726 : Int) != 0)))))) else ((J728 false)))
theorem b14_4 (n : Nat) (s0 : St) (p0 : ByteArray) (gl0 : GlobOk s0) (A477 : Option Addr) (e478 : Nat) (t125 : (Int × Int × Int × Int)) (x474 : Int) (y473 : (List ByteArray)) (z596 : ByteArray) (x610 : Int) (g : Regs) (s717 : St) (K : Kont) (Q : Out → St → Prop) (h : Inv14_4 s0 p0 gl0 A477 e478 t125 x474 y473 z596 x610 g s717) :
    Rf (pb14_4 n p0 x610) (fun r => ∀ e g' s', LK (Inv14_4 s0 p0 gl0 A477 e478 t125 x474 y473 z596) (Ex14_4 s0 p0 gl0 A477 e478 t125 x474 y473 z596) r e g' s' → Ev (K e g' s') Q) (fun _ => Q) (kBody E 14 n [.b, .b, .b, .b, .b, .b, .b, .b, .b, .b, .b, .b, .a, .a, .a, .b, .a, .b, .b, .b, .b, .a, .a, .a] g s717 K) := by
  obtain ⟨rfl, h720, C718⟩ := h
  rw [e14_body3 n]
  unfold pb14_4
  refine Rf.gen fun H Q hH hQ => ?_
  refine Rf.pj fun J728 J728' hJ728 hJ728' => ?_
  have J728h : ∀ (b729 : Bool) (h732 : ((List.replicate (t125.1).toNat ByteArray.empty)).length = ((List.set y473 (x474).toNat z596)).length) (_ : Cx s0.next [] [] s0 s717 [] [(On.mk rS (List.set y473 (x474).toNat z596) A477 (t125.1).toNat 9 true e478)] []), Rf (J728 b729) H Q (J728' b729) := by
    subst hJ728
    subst hJ728'
    intro b729 h732 C731
    refine Rf.ite ?_ ?_
    · subst hH; subst hQ
      exact Rf.leaf fun h => h _ _ _ ⟨rfl, (by first | rfl | assumption | (simp only [List.length_set]; done) | (simp only [List.length_set]; assumption) | (simp only [List.length_set]; omega) | (congr 1 <;> omega) | (congr 1 <;> simp only [List.length_set] <;> omega) | (simp only [List.length_set, *]; done)), (by first | rfl | assumption | (simp only [List.length_set]; done) | (simp only [List.length_set]; assumption) | (simp only [List.length_set]; omega) | (congr 1 <;> omega) | (congr 1 <;> simp only [List.length_set] <;> omega) | (simp only [List.length_set, *]; done)), (C731.sub (List.Sublist.refl _) (List.Sublist.refl _) (List.Sublist.refl _))⟩
    · subst hH; subst hQ
      exact Rf.leaf fun h => h _ _ _ ⟨rfl, (by first | rfl | assumption | (simp only [List.length_set]; done) | (simp only [List.length_set]; assumption) | (simp only [List.length_set]; omega) | (congr 1 <;> omega) | (congr 1 <;> simp only [List.length_set] <;> omega) | (simp only [List.length_set, *]; done)), (by first | rfl | assumption | (simp only [List.length_set]; done) | (simp only [List.length_set]; assumption) | (simp only [List.length_set]; omega) | (congr 1 <;> omega) | (congr 1 <;> simp only [List.length_set] <;> omega) | (simp only [List.length_set, *]; done)), (C731.sub (List.Sublist.refl _) (List.Sublist.refl _) (List.Sublist.refl _))⟩
  clear hJ728 hJ728'
  refine Rf.ite ?_ ?_
  · refine Rf.idx fun x721 => ?_
    refine Rf.aelt fun h724 h725 => ?_
    refine Rf.arr fun x726 x726_h => ?_
    refine Rf.ldI (gAt0 (C718.gl rfl gl0) x726_h) ?_
    first | exact J728h ((x726 : Int) != 0) (by first | rfl | assumption | (simp only [List.length_set]; done) | (simp only [List.length_set]; assumption) | (simp only [List.length_set]; omega) | (congr 1 <;> omega) | (congr 1 <;> simp only [List.length_set] <;> omega) | (simp only [List.length_set, *]; done)) (C718.sub (List.Sublist.refl _) (List.Sublist.refl _) (List.Sublist.refl _)) | (refine Rf.cast ?_ (J728h ((x726 : Int) != 0) (by first | rfl | assumption | (simp only [List.length_set]; done) | (simp only [List.length_set]; assumption) | (simp only [List.length_set]; omega) | (congr 1 <;> omega) | (congr 1 <;> simp only [List.length_set] <;> omega) | (simp only [List.length_set, *]; done)) (C718.sub (List.Sublist.refl _) (List.Sublist.refl _) (List.Sublist.refl _))); first | rfl | assumption | (simp only [List.length_set]; done) | (simp only [List.length_set]; assumption) | (simp only [List.length_set]; omega) | (congr 1 <;> omega) | (congr 1 <;> simp only [List.length_set] <;> omega) | (simp only [List.length_set, *]; done))
  · first | exact J728h false (by first | rfl | assumption | (simp only [List.length_set]; done) | (simp only [List.length_set]; assumption) | (simp only [List.length_set]; omega) | (congr 1 <;> omega) | (congr 1 <;> simp only [List.length_set] <;> omega) | (simp only [List.length_set, *]; done)) (C718.sub (List.Sublist.refl _) (List.Sublist.refl _) (List.Sublist.refl _)) | (refine Rf.cast ?_ (J728h false (by first | rfl | assumption | (simp only [List.length_set]; done) | (simp only [List.length_set]; assumption) | (simp only [List.length_set]; omega) | (congr 1 <;> omega) | (congr 1 <;> simp only [List.length_set] <;> omega) | (simp only [List.length_set, *]; done)) (C718.sub (List.Sublist.refl _) (List.Sublist.refl _) (List.Sublist.refl _))); first | rfl | assumption | (simp only [List.length_set]; done) | (simp only [List.length_set]; assumption) | (simp only [List.length_set]; omega) | (congr 1 <;> omega) | (congr 1 <;> simp only [List.length_set] <;> omega) | (simp only [List.length_set, *]; done))
abbrev Inv14_3 (s0 : St) (p0 : ByteArray) (gl0 : GlobOk s0) (A477 : Option Addr) (e478 : Nat) (t125 : (Int × Int × Int × Int)) (t : ((List ByteArray) × Int × Int × Int)) (g : Regs) (s : St) : Prop := g = (rg 106 [(0, (Value.string p0)), (9, (Value.slice A477 ((List.replicate (t125.1).toNat ByteArray.empty)).length (t125.1).toNat)), (10, (Value.int .i64 t.2.1)), (11, (Value.int .i64 t.2.2.1)), (12, (Value.int .i64 t.2.2.2))]) ∧ ((List.replicate (t125.1).toNat ByteArray.empty)).length = (t.1).length ∧ Cx s0.next [] [] s0 s [] [(On.mk rS t.1 A477 (t125.1).toNat 9 true e478)] []
abbrev Ex14_3 (s0 : St) (p0 : ByteArray) (gl0 : GlobOk s0) (A477 : Option Addr) (e478 : Nat) (t125 : (Int × Int × Int × Int)) (t : ((List ByteArray) × Int × Int × Int)) (e : X) (g : Regs) (s : St) : Prop := e = .exit 4 ∧ g = (rg 106 [(0, (Value.string p0)), (9, (Value.slice A477 ((List.replicate (t125.1).toNat ByteArray.empty)).length (t125.1).toNat)), (10, (Value.int .i64 t.2.1)), (11, (Value.int .i64 t.2.2.1)), (12, (Value.int .i64 t.2.2.2)), (60, (Value.bool false))]) ∧ ((List.replicate (t125.1).toNat ByteArray.empty)).length = (t.1).length ∧ Cx s0.next [] [] s0 s [] [(On.mk rS t.1 A477 (t125.1).toNat 9 true e478)] []
theorem x14_3 (s0 : St) (p0 : ByteArray) (gl0 : GlobOk s0) (A477 : Option Addr) (e478 : Nat) (t125 : (Int × Int × Int × Int)) (t : ((List ByteArray) × Int × Int × Int)) (e : X) (g : Regs) (s : St) (h : Ex14_3 s0 p0 gl0 A477 e478 t125 t e g s) : e ≠ .normal := by
  obtain ⟨h, _⟩ := h
  rw [h]; intro hh; cases hh
def pb14_3 (n : Nat) (p0 : ByteArray) (t : ((List ByteArray) × Int × Int × Int)) : Option (((List ByteArray) × Int × Int × Int) ⊕ ((List ByteArray) × Int × Int × Int)) :=
  (if (decide ((t.2.2.2 : Int) < (p0.size : Nat))) then ((idxP p0 t.2.2.2 (fun x589 => inb 256 x589 (rd gT0 x589 (fun x594 => (if ((x594 : Int) == 0) then ((((some (.inl (t.1, t.2.1, t.2.2.1, (IntKind.wrap .i64 (t.2.2.2 + 1)))))))) else ((subP p0 t.2.2.1 t.2.2.2 (fun z596 => rd t.1 t.2.1 (fun x597 => pj (List.set t.1 (t.2.1).toNat z596) (fun y606 => ((((loopP (pb14_4 n p0) n (IntKind.wrap .i64 (t.2.2.2 + 1))).bind fun t734 => (some (.inl ((List.set t.1 (t.2.1).toNat z596), (IntKind.wrap .i64 (t.2.1 + 1)), t734, t734))))))))))))))))) else (((some (.inr (t.1, t.2.1, t.2.2.1, t.2.2.2))))))
theorem b14_3 (n : Nat) (s0 : St) (p0 : ByteArray) (gl0 : GlobOk s0) (A477 : Option Addr) (e478 : Nat) (t125 : (Int × Int × Int × Int)) (t : ((List ByteArray) × Int × Int × Int)) (g : Regs) (s585 : St) (K : Kont) (Q : Out → St → Prop) (h : Inv14_3 s0 p0 gl0 A477 e478 t125 t g s585) :
    Rf (pb14_3 n p0 t) (fun r => ∀ e g' s', LK (Inv14_3 s0 p0 gl0 A477 e478 t125) (Ex14_3 s0 p0 gl0 A477 e478 t125) r e g' s' → Ev (K e g' s') Q) (fun _ => Q) (kBody E 14 n [.b, .b, .b, .b, .b, .b, .b, .b, .b, .b, .b, .b, .a, .a, .a] g s585 K) := by
  obtain ⟨y473, x474, x475, x476⟩ := t
  obtain ⟨rfl, h588, C586⟩ := h
  rw [e14_body2 n]
  unfold pb14_3
  refine Rf.gen fun H Q hH hQ => ?_
  try dsimp only
  refine Rf.ite ?_ ?_
  · refine Rf.idx fun x589 => ?_
    refine Rf.aelt fun h592 h593 => ?_
    refine Rf.arr fun x594 x594_h => ?_
    refine Rf.ldI (gAt0 (C586.gl rfl gl0) x594_h) ?_
    refine Rf.ite ?_ ?_
    · subst hH; subst hQ
      exact Rf.leaf fun h => h _ _ _ ⟨rfl, (by first | rfl | assumption | (simp only [List.length_set]; done) | (simp only [List.length_set]; assumption) | (simp only [List.length_set]; omega) | (congr 1 <;> omega) | (congr 1 <;> simp only [List.length_set] <;> omega) | (simp only [List.length_set, *]; done)), (by first | rfl | assumption | (simp only [List.length_set]; done) | (simp only [List.length_set]; assumption) | (simp only [List.length_set]; omega) | (congr 1 <;> omega) | (congr 1 <;> simp only [List.length_set] <;> omega) | (simp only [List.length_set, *]; done)), (C586.sub (List.Sublist.refl _) (List.Sublist.refl _) (List.Sublist.refl _))⟩
    · refine Rf.subS fun z596 => ?_
      refine Rf.asSl ?_
      refine Rf.eltW (j := 0) C586 rfl (by first | rfl | assumption | (simp only [List.length_set]; done) | (simp only [List.length_set]; assumption) | (simp only [List.length_set]; omega) | (congr 1 <;> omega) | (congr 1 <;> simp only [List.length_set] <;> omega) | (simp only [List.length_set, *]; done)) rfl fun x597 i598 o599 h600 h601 h602 h603 => ?_
      refine Rf.pjl ?_
      refine Rf.stoW 0 C586 rfl NoRow.nil (fl_cons rS_fl fl_nil) rfl h601 h602 h603 rS_mk fun s607 (C608 : Cx s0.next [] [] s0 s607 [] [(On.mk rS (List.set y473 (x474).toNat z596) A477 (t125.1).toNat 9 true e478)] []) => ?_
      refine Rf.loop (Inv := Inv14_4 s0 p0 gl0 A477 e478 t125 x474 y473 z596) (Ex := Ex14_4 s0 p0 gl0 A477 e478 t125 x474 y473 z596) (x14_4 s0 p0 gl0 A477 e478 t125 x474 y473 z596) (fun t g s K Q h => b14_4 n s0 p0 gl0 A477 e478 t125 x474 y473 z596 t g s K Q h) n _ _ _ ⟨(by first | rfl | assumption | (simp only [List.length_set]; done) | (simp only [List.length_set]; assumption) | (simp only [List.length_set]; omega) | (congr 1 <;> omega) | (congr 1 <;> simp only [List.length_set] <;> omega) | (simp only [List.length_set, *]; done)), (by first | rfl | assumption | (simp only [List.length_set]; done) | (simp only [List.length_set]; assumption) | (simp only [List.length_set]; omega) | (congr 1 <;> omega) | (congr 1 <;> simp only [List.length_set] <;> omega) | (simp only [List.length_set, *]; done)), (C608.sub (List.Sublist.refl _) (List.Sublist.refl _) (List.Sublist.refl _))⟩ ?_
      intro t734 e g s841 h
      obtain ⟨rfl, rfl, h843, C842⟩ := h
      rw [e14_after3_exit6 n]
      subst hH; subst hQ
      exact Rf.leaf fun h => h _ _ _ ⟨rfl, (by first | rfl | assumption | (simp only [List.length_set]; done) | (simp only [List.length_set]; assumption) | (simp only [List.length_set]; omega) | (congr 1 <;> omega) | (congr 1 <;> simp only [List.length_set] <;> omega) | (simp only [List.length_set, *]; done)), (by first | rfl | assumption | (simp only [List.length_set]; done) | (simp only [List.length_set]; assumption) | (simp only [List.length_set]; omega) | (congr 1 <;> omega) | (congr 1 <;> simp only [List.length_set] <;> omega) | (simp only [List.length_set, *]; done)), (C842.sub (List.Sublist.refl _) (List.Sublist.refl _) (List.Sublist.refl _))⟩
  · subst hH; subst hQ
    exact Rf.leaf fun h => h _ _ _ ⟨rfl, (by first | rfl | assumption | (simp only [List.length_set]; done) | (simp only [List.length_set]; assumption) | (simp only [List.length_set]; omega) | (congr 1 <;> omega) | (congr 1 <;> simp only [List.length_set] <;> omega) | (simp only [List.length_set, *]; done)), (by first | rfl | assumption | (simp only [List.length_set]; done) | (simp only [List.length_set]; assumption) | (simp only [List.length_set]; omega) | (congr 1 <;> omega) | (congr 1 <;> simp only [List.length_set] <;> omega) | (simp only [List.length_set, *]; done)), (C586.sub (List.Sublist.refl _) (List.Sublist.refl _) (List.Sublist.refl _))⟩
abbrev P14 (N : Nat) (X : List Nat) (r : (List ByteArray)) (v : Value) (s : St) : Prop := ∃ (A0 : Option Addr) (c0 : Nat) (e0 : Nat), v = (Value.slice A0 (r).length c0) ∧ (On.mk rS r A0 c0 9 true e0).holds N X s
def p14 : Nat → ByteArray → Option (List ByteArray)
  | 0, _ => none
  | n + 1, p0 => ((((((loopP (pb14_1 n p0) n (0, 1, 0, 0)).bind fun t125 => (if (decide ((t125.2.2.1 : Int) ≥ 128)) then (none) else ((mkP 16 t125.1 t125.1 ByteArray.empty (fun y237 => (((((loopP (pb14_2 n p0) n 0).bind fun t363 => ((loopP (pb14_3 n p0) n ((List.replicate (t125.1).toNat ByteArray.empty), 0, t363, t363)).bind fun t849 => pj (fun (y974 : (List ByteArray)) => (some (y974 : (List ByteArray)))) (fun J972 => (if (decide ((t849.2.2.1 : Int) < (p0.size : Nat))) then (subP p0 t849.2.2.1 (p0.size : Nat) (fun z958 => rd t849.1 t849.2.1 (fun x959 => pj (List.set t849.1 (t849.2.1).toNat z958) (fun y968 => (J972 (List.set t849.1 (t849.2.1).toNat z958)))))) else ((J972 t849.1))))))))))))))))))
theorem t14 (k : Nat) (p0 : ByteArray) (s0 : St) (gl0 : GlobOk s0) :
    Rf (p14 k p0) (fun _ => True) (fun r => RtC s0.next [] [] s0 (P14 s0.next [] r)) (acall E k 14 [(Value.string p0)] s0) := by
  cases k with
  | zero => exact Rf.none
  | succ n =>
    rw [e14 n]
    rw [p14]
    refine Rf.gen fun H Q hH hQ => ?_
    have C0 : Cx s0.next [] [] s0 s0 [] [] [] := Cx.start s0
    refine Rf.loop (Inv := Inv14_1 s0 p0 gl0 ) (Ex := Ex14_1 s0 p0 gl0 ) (x14_1 s0 p0 gl0 ) (fun t g s K Q h => b14_1 n s0 p0 gl0  t g s K Q h) n _ _ _ ⟨rfl, (C0.sub (List.Sublist.refl _) (List.Sublist.refl _) (List.Sublist.refl _))⟩ ?_
    intro t125 e g s232 h
    obtain ⟨rfl, rfl, C233⟩ := h
    rw [e14_after0_exit0 n]
    refine Rf.ite ?_ ?_
    · exact Rf.none
    · refine Rf.kmake (r := rS) (z := ByteArray.empty) C233 u23 (by kernel_rfl) (by kernel_rfl) (fun _ => rS_mk) (by decide) fun s234 (C235 : Cx s0.next [] [] s0 s234 [] [(On.mk rS (List.replicate (t125.1).toNat ByteArray.empty) (some ⟨s232.next, 0, none⟩) (t125.1).toNat 9 true s232.next)] []) => ?_
      refine Rf.loop (Inv := Inv14_2 s0 p0 gl0 (some ⟨s232.next, 0, none⟩) s232.next t125) (Ex := Ex14_2 s0 p0 gl0 (some ⟨s232.next, 0, none⟩) s232.next t125) (x14_2 s0 p0 gl0 (some ⟨s232.next, 0, none⟩) s232.next t125) (fun t g s K Q h => b14_2 n s0 p0 gl0 (some ⟨s232.next, 0, none⟩) s232.next t125 t g s K Q h) n _ _ _ ⟨rfl, (C235.sub (List.Sublist.refl _) (List.Sublist.refl _) (List.Sublist.refl _))⟩ ?_
      intro t363 e g s470 h
      obtain ⟨rfl, rfl, C471⟩ := h
      rw [e14_after1_exit2 n]
      refine Rf.loop (Inv := Inv14_3 s0 p0 gl0 (some ⟨s232.next, 0, none⟩) s232.next t125) (Ex := Ex14_3 s0 p0 gl0 (some ⟨s232.next, 0, none⟩) s232.next t125) (x14_3 s0 p0 gl0 (some ⟨s232.next, 0, none⟩) s232.next t125) (fun t g s K Q h => b14_3 n s0 p0 gl0 (some ⟨s232.next, 0, none⟩) s232.next t125 t g s K Q h) n _ _ _ ⟨rfl, (by first | rfl | assumption | (simp only [List.length_set]; done) | (simp only [List.length_set]; assumption) | (simp only [List.length_set]; omega) | (congr 1 <;> omega) | (congr 1 <;> simp only [List.length_set] <;> omega) | (simp only [List.length_set, *]; done)), (C471.sub (List.Sublist.refl _) (List.Sublist.refl _) (List.Sublist.refl _))⟩ ?_
      intro t849 e g s956 h
      obtain ⟨rfl, rfl, h982, C957⟩ := h
      rw [e14_after2_exit4 n]
      refine Rf.pj fun J972 J972' hJ972 hJ972' => ?_
      have J972h : ∀ (e975 : Value) (e976 : Value) (e977 : Value) (e978 : Value) (y974 : (List ByteArray)) (s979 : St) (h981 : ((List.replicate (t125.1).toNat ByteArray.empty)).length = (y974).length) (_ : Cx s0.next [] [] s0 s979 [] [(On.mk rS y974 (some ⟨s232.next, 0, none⟩) (t125.1).toNat 9 true s232.next)] []), Rf (J972 y974) H Q (J972' e975 e976 e977 e978 s979) := by
        subst hJ972
        subst hJ972'
        intro e975 e976 e977 e978 y974 s979 h981 C980
        subst hH; subst hQ
        exact Rf.leaf fun _ => Ev.done (Rf.ret C980 ⟨_, _, _, (by first | rfl | assumption | (simp only [List.length_set]; done) | (simp only [List.length_set]; assumption) | (simp only [List.length_set]; omega) | (congr 1 <;> omega) | (congr 1 <;> simp only [List.length_set] <;> omega) | (simp only [List.length_set, *]; done)), C980.own _ m0⟩)
      clear hJ972 hJ972'
      refine Rf.ite ?_ ?_
      · refine Rf.subS fun z958 => ?_
        refine Rf.asSl ?_
        refine Rf.eltW (j := 0) C957 rfl (by first | rfl | assumption | (simp only [List.length_set]; done) | (simp only [List.length_set]; assumption) | (simp only [List.length_set]; omega) | (congr 1 <;> omega) | (congr 1 <;> simp only [List.length_set] <;> omega) | (simp only [List.length_set, *]; done)) rfl fun x959 i960 o961 h962 h963 h964 h965 => ?_
        refine Rf.pjl ?_
        refine Rf.stoW 0 C957 rfl NoRow.nil (fl_cons rS_fl fl_nil) rfl h963 h964 h965 rS_mk fun s969 (C970 : Cx s0.next [] [] s0 s969 [] [(On.mk rS (List.set t849.1 (t849.2.1).toNat z958) (some ⟨s232.next, 0, none⟩) (t125.1).toNat 9 true s232.next)] []) => ?_
        first | exact J972h _ _ _ _ (List.set t849.1 (t849.2.1).toNat z958) _ (by first | rfl | assumption | (simp only [List.length_set]; done) | (simp only [List.length_set]; assumption) | (simp only [List.length_set]; omega) | (congr 1 <;> omega) | (congr 1 <;> simp only [List.length_set] <;> omega) | (simp only [List.length_set, *]; done)) (C970.sub (List.Sublist.refl _) (List.Sublist.refl _) (List.Sublist.refl _)) | (refine Rf.cast ?_ (J972h _ _ _ _ (List.set t849.1 (t849.2.1).toNat z958) _ (by first | rfl | assumption | (simp only [List.length_set]; done) | (simp only [List.length_set]; assumption) | (simp only [List.length_set]; omega) | (congr 1 <;> omega) | (congr 1 <;> simp only [List.length_set] <;> omega) | (simp only [List.length_set, *]; done)) (C970.sub (List.Sublist.refl _) (List.Sublist.refl _) (List.Sublist.refl _))); first | rfl | assumption | (simp only [List.length_set]; done) | (simp only [List.length_set]; assumption) | (simp only [List.length_set]; omega) | (congr 1 <;> omega) | (congr 1 <;> simp only [List.length_set] <;> omega) | (simp only [List.length_set, *]; done))
      · first | exact J972h _ _ _ _ t849.1 _ (by first | rfl | assumption | (simp only [List.length_set]; done) | (simp only [List.length_set]; assumption) | (simp only [List.length_set]; omega) | (congr 1 <;> omega) | (congr 1 <;> simp only [List.length_set] <;> omega) | (simp only [List.length_set, *]; done)) (C957.sub (List.Sublist.refl _) (List.Sublist.refl _) (List.Sublist.refl _)) | (refine Rf.cast ?_ (J972h _ _ _ _ t849.1 _ (by first | rfl | assumption | (simp only [List.length_set]; done) | (simp only [List.length_set]; assumption) | (simp only [List.length_set]; omega) | (congr 1 <;> omega) | (congr 1 <;> simp only [List.length_set] <;> omega) | (simp only [List.length_set, *]; done)) (C957.sub (List.Sublist.refl _) (List.Sublist.refl _) (List.Sublist.refl _))); first | rfl | assumption | (simp only [List.length_set]; done) | (simp only [List.length_set]; assumption) | (simp only [List.length_set]; omega) | (congr 1 <;> omega) | (congr 1 <;> simp only [List.length_set] <;> omega) | (simp only [List.length_set, *]; done))
-- 4 "brindlewood/brindlewoodref7.Instructions"
abbrev Inv4_1 (s0 : St) (gl0 : GlobOk s0) (A3 : Option Addr) (c4 : Nat) (e6 : Nat) (r1 : (List ByteArray)) (t : ((List ByteArray) × (List ByteArray) × Int)) (g : Regs) (s : St) : Prop := ∃ (A15 : Option Addr) (c16 : Nat) (e17 : Nat) (A22 : Option Addr) (c23 : Nat) (e24 : Nat), g = (rg 30 [(0, (Value.slice A15 (t.1).length c16)), (1, (Value.slice A22 (t.2.1).length c23)), (7, (Value.slice A3 (r1).length c4)), (8, (Value.int .i64 ((r1).length : Nat))), (9, (Value.int .i64 t.2.2))]) ∧ Cx s0.next [] [] s0 s [] [(On.mk rS t.2.1 A22 c23 9 false e24), (On.mk rS t.1 A15 c16 9 false e17), (On.mk rS r1 A3 c4 9 true e6)] []
abbrev Ex4_1 (s0 : St) (gl0 : GlobOk s0) (A3 : Option Addr) (c4 : Nat) (e6 : Nat) (r1 : (List ByteArray)) (t : ((List ByteArray) × (List ByteArray) × Int)) (e : X) (g : Regs) (s : St) : Prop := ∃ (A103 : Option Addr) (c104 : Nat) (e105 : Nat) (A108 : Option Addr) (c109 : Nat) (e110 : Nat), e = .exit 0 ∧ g = (rg 30 [(0, (Value.slice A103 (t.1).length c104)), (1, (Value.slice A108 (t.2.1).length c109)), (7, (Value.slice A3 (r1).length c4)), (8, (Value.int .i64 ((r1).length : Nat))), (9, (Value.int .i64 t.2.2)), (10, (Value.bool false))]) ∧ Cx s0.next [] [] s0 s [] [(On.mk rS t.2.1 A108 c109 9 false e110), (On.mk rS t.1 A103 c104 9 false e105), (On.mk rS r1 A3 c4 9 true e6)] []
theorem x4_1 (s0 : St) (gl0 : GlobOk s0) (A3 : Option Addr) (c4 : Nat) (e6 : Nat) (r1 : (List ByteArray)) (t : ((List ByteArray) × (List ByteArray) × Int)) (e : X) (g : Regs) (s : St) (h : Ex4_1 s0 gl0 A3 c4 e6 r1 t e g s) : e ≠ .normal := by
  obtain ⟨_, _, _, _, _, _, h, _⟩ := h
  rw [h]; intro hh; cases hh
def pb4_1 (n : Nat)  (r1 : (List ByteArray)) (t : ((List ByteArray) × (List ByteArray) × Int)) : Option (((List ByteArray) × (List ByteArray) × Int) ⊕ ((List ByteArray) × (List ByteArray) × Int)) :=
  (if (decide ((t.2.2 : Int) < ((r1).length : Nat))) then ((rd r1 t.2.2 (fun x59 => ((p15 n x59 (⟨#[58]⟩ : ByteArray)).bind fun r70 => (apP 16 t.1 [r70.1] (fun y83 => apP 16 t.2.1 [r70.2.1] (fun y95 => ((some (.inl ((t.1 ++ [r70.1]), (t.2.1 ++ [r70.2.1]), (IntKind.wrap .i64 (t.2.2 + 1))))))))))))) else (((some (.inr (t.1, t.2.1, t.2.2))))))
theorem b4_1 (n : Nat) (s0 : St) (gl0 : GlobOk s0) (A3 : Option Addr) (c4 : Nat) (e6 : Nat) (r1 : (List ByteArray)) (t : ((List ByteArray) × (List ByteArray) × Int)) (g : Regs) (s56 : St) (K : Kont) (Q : Out → St → Prop) (h : Inv4_1 s0 gl0 A3 c4 e6 r1 t g s56) :
    Rf (pb4_1 n r1 t) (fun r => ∀ e g' s', LK (Inv4_1 s0 gl0 A3 c4 e6 r1) (Ex4_1 s0 gl0 A3 c4 e6 r1) r e g' s' → Ev (K e g' s') Q) (fun _ => Q) (kBody E 4 n [.b, .a, .b, .a, .a] g s56 K) := by
  obtain ⟨y14, y21, x25⟩ := t
  obtain ⟨A15, c16, e17, A22, c23, e24, rfl, C57⟩ := h
  rw [e4_body0 n]
  unfold pb4_1
  refine Rf.gen fun H Q hH hQ => ?_
  try dsimp only
  refine Rf.ite ?_ ?_
  · refine Rf.eltW (j := 2) C57 rfl rfl rfl fun x59 i60 o61 h62 h63 h64 h65 => ?_
    obtain ⟨c66, r67, h68⟩ := C57.loW (j := 2) rfl h62 h63 h64 h65
    obtain rfl := rS_elim r67
    refine Rf.ldS (h68.at 0 rfl) ?_
    refine Rf.call0 C57 (t15 n x59 (⟨#[58]⟩ : ByteArray) s56 (C57.gl rfl gl0)) ?_
    rintro r70 _ s71 rfl h75
    have C76 : Cx s0.next [] [] s0 s71 [] [(On.mk rS y21 A22 c23 9 false e24), (On.mk rS y14 A15 c16 9 false e17), (On.mk rS r1 A3 c4 9 true e6)] [] := h75 [] (by simp) List.Pairwise.nil
    refine (Rf.asTup (Rf.unc (Rf.asS (Rf.unc (Rf.asS (Rf.unc (Rf.asB (Rf.unn ?_))))))))
    refine Rf.newR (r := rS) (xs := [r70.1]) C76 rfl (many.cons (c := [(Value.string r70.1)]) rS_mk many.nil) fun s77 (C78 : Cx s0.next [] [] s0 s77 [] [(On.mk rS [r70.1] (some ⟨s71.next, 0, none⟩) 1 9 false s71.next), (On.mk rS y21 A22 c23 9 false e24), (On.mk rS y14 A15 c16 9 false e17), (On.mk rS r1 A3 c4 9 true e6)] []) => ?_
    refine Rf.kapp 2 C78 rfl rfl (by decide) (by decide) (Ap.sr u23 rfl (C78.srB m0)) fun A80 c81 e82 s85 (C86 : Cx s0.next [] [] s0 s85 [] [(On.mk rS [r70.1] (some ⟨s71.next, 0, none⟩) 1 9 false s71.next), (On.mk rS y21 A22 c23 9 false e24), (On.mk rS (y14 ++ [r70.1]) A80 c81 9 false e82), (On.mk rS r1 A3 c4 9 true e6)] []) => ?_
    have C87 : Cx s0.next [] [] s0 s85 [] [(On.mk rS y21 A22 c23 9 false e24), (On.mk rS (y14 ++ [r70.1]) A80 c81 9 false e82), (On.mk rS r1 A3 c4 9 true e6)] [] := C86.sub (List.Sublist.refl _) (List.Sublist.cons _ (List.Sublist.cons_cons _ (List.Sublist.cons_cons _ (List.Sublist.cons_cons _ List.Sublist.slnil)))) (List.Sublist.refl _)
    refine Rf.newR (r := rS) (xs := [r70.2.1]) C87 rfl (many.cons (c := [(Value.string r70.2.1)]) rS_mk many.nil) fun s89 (C90 : Cx s0.next [] [] s0 s89 [] [(On.mk rS [r70.2.1] (some ⟨s85.next, 0, none⟩) 1 9 false s85.next), (On.mk rS y21 A22 c23 9 false e24), (On.mk rS (y14 ++ [r70.1]) A80 c81 9 false e82), (On.mk rS r1 A3 c4 9 true e6)] []) => ?_
    refine Rf.kapp 1 C90 rfl rfl (by decide) (by decide) (Ap.sr u23 rfl (C90.srB m0)) fun A92 c93 e94 s97 (C98 : Cx s0.next [] [] s0 s97 [] [(On.mk rS [r70.2.1] (some ⟨s85.next, 0, none⟩) 1 9 false s85.next), (On.mk rS (y21 ++ [r70.2.1]) A92 c93 9 false e94), (On.mk rS (y14 ++ [r70.1]) A80 c81 9 false e82), (On.mk rS r1 A3 c4 9 true e6)] []) => ?_
    have C99 : Cx s0.next [] [] s0 s97 [] [(On.mk rS (y21 ++ [r70.2.1]) A92 c93 9 false e94), (On.mk rS (y14 ++ [r70.1]) A80 c81 9 false e82), (On.mk rS r1 A3 c4 9 true e6)] [] := C98.sub (List.Sublist.refl _) (List.Sublist.cons _ (List.Sublist.cons_cons _ (List.Sublist.cons_cons _ (List.Sublist.cons_cons _ List.Sublist.slnil)))) (List.Sublist.refl _)
    subst hH; subst hQ
    exact Rf.leaf fun h => h _ _ _ ⟨rfl, _, _, _, _, _, _, rfl, (C99.sub (List.Sublist.refl _) (List.Sublist.refl _) (List.Sublist.refl _))⟩
  · subst hH; subst hQ
    exact Rf.leaf fun h => h _ _ _ ⟨_, _, _, _, _, _, rfl, rfl, (C57.sub (List.Sublist.refl _) (List.Sublist.refl _) (List.Sublist.refl _))⟩
abbrev P4 (N : Nat) (X : List Nat) (r : ((List ByteArray) × (List ByteArray))) (v : Value) (s : St) : Prop := ∃ (A0 : Option Addr) (c0 : Nat) (e0 : Nat) (A3 : Option Addr) (c3 : Nat), v = (Value.tuple #[(Value.slice A0 (r.1).length c0), (Value.slice A3 (r.2).length c3)]) ∧ (On.mk rS r.1 A0 c0 9 false e0).holds N X s ∧ Sr rS s A3 c3 r.2
def p4 : Nat → Option ((List ByteArray) × (List ByteArray))
  | 0 => none
  | n + 1 => ((p14 n (⟨#[99, 111, 110, 115, 116, 58, 107, 32, 112, 111, 112, 58, 99, 32, 112, 105, 99, 107, 58, 100, 32, 114, 111, 108, 108, 58, 100, 32, 108, 111, 97, 100, 58, 112, 118, 32, 115, 116, 111, 114, 101, 58, 112, 118, 32, 100, 101, 108, 101, 116, 101, 58, 112, 118, 32, 102, 111, 114, 103, 101, 116, 58, 112, 118, 32, 114, 101, 102, 58, 108, 32, 97, 116, 116, 114, 58, 110, 32, 115, 101, 116, 97, 116, 116, 114, 58, 110, 32, 100, 101, 108, 97, 116, 116, 114, 58, 110, 32, 105, 116, 101, 109, 58, 32, 115, 101, 116, 105, 116, 101, 109, 58, 32, 100, 101, 108, 105, 116, 101, 109, 58, 32, 115, 108, 105, 99, 101, 58, 32, 115, 101, 116, 115, 108, 105, 99, 101, 58, 32, 100, 101, 108, 115, 108, 105, 99, 101, 58, 32, 117, 110, 97, 114, 121, 58, 117, 32, 98, 105, 110, 97, 114, 121, 58, 98, 32, 97, 117, 103, 109, 101, 110, 116, 58, 98, 32, 99, 111, 109, 112, 97, 114, 101, 58, 109, 32, 106, 117, 109, 112, 58, 116, 32, 106, 117, 109, 112, 116, 114, 117, 101, 58, 116, 32, 106, 117, 109, 112, 102, 97, 108, 115, 101, 58, 116, 32, 107, 101, 101, 112, 116, 114, 117, 101, 58, 116, 32, 107, 101, 101, 112, 102, 97, 108, 115, 101, 58, 116, 32, 116, 117, 112, 108, 101, 58, 99, 32, 108, 105, 115, 116, 58, 99, 32, 115, 101, 116, 58, 99, 32, 100, 105, 99, 116, 58, 99, 32, 98, 117, 105, 108, 100, 58, 32, 97, 100, 100, 58, 100, 32, 97, 100, 100, 97, 108, 108, 58, 100, 32, 97, 100, 100, 112, 97, 105, 114, 58, 100, 32, 97, 100, 100, 112, 97, 105, 114, 115, 58, 100, 32, 102, 105, 110, 105, 115, 104, 58, 121, 32, 97, 114, 103, 115, 58, 32, 97, 114, 103, 58, 32, 97, 114, 103, 115, 116, 97, 114, 58, 32, 97, 114, 103, 110, 97, 109, 101, 100, 58, 110, 32, 97, 114, 103, 112, 97, 105, 114, 115, 58, 32, 99, 97, 108, 108, 58, 32, 99, 97, 108, 108, 119, 105, 116, 104, 58, 99, 32, 102, 117, 110, 99, 116, 105, 111, 110, 58, 111, 99, 32, 99, 108, 97, 115, 115, 58, 111, 32, 105, 116, 101, 114, 58, 32, 110, 101, 120, 116, 58, 116, 32, 108, 111, 111, 112, 58, 32, 117, 110, 112, 97, 99, 107, 58, 99, 32, 117, 110, 112, 97, 99, 107, 97, 108, 108, 58, 99, 99, 32, 102, 111, 114, 109, 97, 116, 58, 120, 110, 32, 106, 111, 105, 110, 58, 99, 32, 105, 109, 112, 111, 114, 116, 58, 110, 32, 102, 114, 111, 109, 58, 110, 32, 119, 105, 116, 104, 58, 32, 108, 101, 97, 118, 101, 58, 32, 114, 97, 105, 115, 101, 58, 50, 32, 102, 97, 105, 108, 58, 49, 32, 109, 97, 116, 99, 104, 58, 97, 32, 104, 97, 110, 100, 108, 101, 58, 32, 117, 110, 104, 97, 110, 100, 108, 101, 58, 32, 109, 97, 116, 99, 104, 101, 115, 58, 32, 97, 103, 97, 105, 110, 58, 32, 112, 101, 110, 100, 58, 102, 32, 112, 101, 110, 100, 114, 97, 105, 115, 101, 58, 102, 32, 114, 111, 117, 116, 101, 58, 114, 32, 101, 110, 100, 58, 102, 32, 114, 101, 116, 117, 114, 110, 58, 32, 121, 105, 101, 108, 100, 58, 32, 100, 101, 108, 101, 103, 97, 116, 101, 58, 32, 97, 119, 97, 105, 116, 58, 32, 108, 105, 110, 101, 58, 105, 32, 115, 97, 102, 101, 58, 32, 103, 114, 111, 117, 112, 58, 32, 112, 97, 114, 116, 58, 32, 114, 97, 105, 115, 101, 100, 58, 32, 117, 110, 103, 114, 111, 117, 112, 58, 32, 115, 117, 112, 101, 114, 58, 108, 32, 114, 101, 115, 116, 58, 116]⟩ : ByteArray)).bind fun r1 => ((loopP (pb4_1 n r1) n (([] : List ByteArray), ([] : List ByteArray), 0)).bind fun t112 => (some ((t112.1, t112.2.1) : ((List ByteArray) × (List ByteArray))))))
theorem t4 (k : Nat) (s0 : St) (gl0 : GlobOk s0) :
    Rf (p4 k) (fun _ => True) (fun r => RtC s0.next [] [] s0 (P4 s0.next [] r)) (acall E k 4 [] s0) := by
  cases k with
  | zero => exact Rf.none
  | succ n =>
    rw [e4 n]
    rw [p4]
    refine Rf.gen fun H Q hH hQ => ?_
    have C0 : Cx s0.next [] [] s0 s0 [] [] [] := Cx.start s0
    refine Rf.call0 C0 (t14 n (⟨#[99, 111, 110, 115, 116, 58, 107, 32, 112, 111, 112, 58, 99, 32, 112, 105, 99, 107, 58, 100, 32, 114, 111, 108, 108, 58, 100, 32, 108, 111, 97, 100, 58, 112, 118, 32, 115, 116, 111, 114, 101, 58, 112, 118, 32, 100, 101, 108, 101, 116, 101, 58, 112, 118, 32, 102, 111, 114, 103, 101, 116, 58, 112, 118, 32, 114, 101, 102, 58, 108, 32, 97, 116, 116, 114, 58, 110, 32, 115, 101, 116, 97, 116, 116, 114, 58, 110, 32, 100, 101, 108, 97, 116, 116, 114, 58, 110, 32, 105, 116, 101, 109, 58, 32, 115, 101, 116, 105, 116, 101, 109, 58, 32, 100, 101, 108, 105, 116, 101, 109, 58, 32, 115, 108, 105, 99, 101, 58, 32, 115, 101, 116, 115, 108, 105, 99, 101, 58, 32, 100, 101, 108, 115, 108, 105, 99, 101, 58, 32, 117, 110, 97, 114, 121, 58, 117, 32, 98, 105, 110, 97, 114, 121, 58, 98, 32, 97, 117, 103, 109, 101, 110, 116, 58, 98, 32, 99, 111, 109, 112, 97, 114, 101, 58, 109, 32, 106, 117, 109, 112, 58, 116, 32, 106, 117, 109, 112, 116, 114, 117, 101, 58, 116, 32, 106, 117, 109, 112, 102, 97, 108, 115, 101, 58, 116, 32, 107, 101, 101, 112, 116, 114, 117, 101, 58, 116, 32, 107, 101, 101, 112, 102, 97, 108, 115, 101, 58, 116, 32, 116, 117, 112, 108, 101, 58, 99, 32, 108, 105, 115, 116, 58, 99, 32, 115, 101, 116, 58, 99, 32, 100, 105, 99, 116, 58, 99, 32, 98, 117, 105, 108, 100, 58, 32, 97, 100, 100, 58, 100, 32, 97, 100, 100, 97, 108, 108, 58, 100, 32, 97, 100, 100, 112, 97, 105, 114, 58, 100, 32, 97, 100, 100, 112, 97, 105, 114, 115, 58, 100, 32, 102, 105, 110, 105, 115, 104, 58, 121, 32, 97, 114, 103, 115, 58, 32, 97, 114, 103, 58, 32, 97, 114, 103, 115, 116, 97, 114, 58, 32, 97, 114, 103, 110, 97, 109, 101, 100, 58, 110, 32, 97, 114, 103, 112, 97, 105, 114, 115, 58, 32, 99, 97, 108, 108, 58, 32, 99, 97, 108, 108, 119, 105, 116, 104, 58, 99, 32, 102, 117, 110, 99, 116, 105, 111, 110, 58, 111, 99, 32, 99, 108, 97, 115, 115, 58, 111, 32, 105, 116, 101, 114, 58, 32, 110, 101, 120, 116, 58, 116, 32, 108, 111, 111, 112, 58, 32, 117, 110, 112, 97, 99, 107, 58, 99, 32, 117, 110, 112, 97, 99, 107, 97, 108, 108, 58, 99, 99, 32, 102, 111, 114, 109, 97, 116, 58, 120, 110, 32, 106, 111, 105, 110, 58, 99, 32, 105, 109, 112, 111, 114, 116, 58, 110, 32, 102, 114, 111, 109, 58, 110, 32, 119, 105, 116, 104, 58, 32, 108, 101, 97, 118, 101, 58, 32, 114, 97, 105, 115, 101, 58, 50, 32, 102, 97, 105, 108, 58, 49, 32, 109, 97, 116, 99, 104, 58, 97, 32, 104, 97, 110, 100, 108, 101, 58, 32, 117, 110, 104, 97, 110, 100, 108, 101, 58, 32, 109, 97, 116, 99, 104, 101, 115, 58, 32, 97, 103, 97, 105, 110, 58, 32, 112, 101, 110, 100, 58, 102, 32, 112, 101, 110, 100, 114, 97, 105, 115, 101, 58, 102, 32, 114, 111, 117, 116, 101, 58, 114, 32, 101, 110, 100, 58, 102, 32, 114, 101, 116, 117, 114, 110, 58, 32, 121, 105, 101, 108, 100, 58, 32, 100, 101, 108, 101, 103, 97, 116, 101, 58, 32, 97, 119, 97, 105, 116, 58, 32, 108, 105, 110, 101, 58, 105, 32, 115, 97, 102, 101, 58, 32, 103, 114, 111, 117, 112, 58, 32, 112, 97, 114, 116, 58, 32, 114, 97, 105, 115, 101, 100, 58, 32, 117, 110, 103, 114, 111, 117, 112, 58, 32, 115, 117, 112, 101, 114, 58, 108, 32, 114, 101, 115, 116, 58, 116]⟩ : ByteArray) s0 (C0.gl rfl gl0)) ?_
    rintro r1 _ s2 ⟨A3, c4, e6, rfl, h5⟩ h9
    have C10 : Cx s0.next [] [] s0 s2 [] [(On.mk rS r1 A3 c4 9 true e6)] [] := h9 [(On.mk rS r1 A3 c4 9 true e6)] (by simpa using h5) (List.pairwise_singleton _ _)
    refine (Rf.asSl ?_)
    have C11 : Cx s0.next [] [] s0 s2 [] [(On.mk rS ([] : List ByteArray) none 0 9 false 0), (On.mk rS r1 A3 c4 9 true e6)] [] := C10.addNil rS 9
    have C18 : Cx s0.next [] [] s0 s2 [] [(On.mk rS ([] : List ByteArray) none 0 9 false 0), (On.mk rS ([] : List ByteArray) none 0 9 false 0), (On.mk rS r1 A3 c4 9 true e6)] [] := C11.addNil rS 9
    refine Rf.loop (Inv := Inv4_1 s0 gl0 A3 c4 e6 r1) (Ex := Ex4_1 s0 gl0 A3 c4 e6 r1) (x4_1 s0 gl0 A3 c4 e6 r1) (fun t g s K Q h => b4_1 n s0 gl0 A3 c4 e6 r1 t g s K Q h) n _ _ _ ⟨_, _, _, _, _, _, rfl, (C18.sub (List.Sublist.refl _) (List.Sublist.refl _) (List.Sublist.refl _))⟩ ?_
    intro t112 e g s143 h
    obtain ⟨A103, c104, e105, A108, c109, e110, rfl, rfl, C144⟩ := h
    rw [e4_after0_exit0 n]
    subst hH; subst hQ
    exact Rf.leaf fun _ => Ev.done (Rf.ret C144 ⟨_, _, _, _, _, rfl, C144.own _ m1, (C144.srB m0)⟩)
-- 17 "brindlewood/opcode.table"
abbrev P17 (N : Nat) (X : List Nat) (r : (List (ByteArray × Int × Int))) (v : Value) (s : St) : Prop := ∃ (A0 : Option Addr) (c0 : Nat) (e0 : Nat), v = (Value.slice A0 (r).length c0) ∧ (On.mk (rP rS (rP (rI .i64) (rI .i64))) r A0 c0 49 false e0).holds N X s
def p17 : Nat → Option (List (ByteArray × Int × Int))
  | 0 => none
  | n + 1 => ((some ([((⟨#[99, 111, 110, 115, 116]⟩ : ByteArray), 3, 0), ((⟨#[112, 111, 112]⟩ : ByteArray), 1, 0), ((⟨#[112, 105, 99, 107]⟩ : ByteArray), 2, 0), ((⟨#[114, 111, 108, 108]⟩ : ByteArray), 2, 0), ((⟨#[108, 111, 97, 100]⟩ : ByteArray), 5, 6), ((⟨#[115, 116, 111, 114, 101]⟩ : ByteArray), 5, 6), ((⟨#[100, 101, 108, 101, 116, 101]⟩ : ByteArray), 5, 6), ((⟨#[102, 111, 114, 103, 101, 116]⟩ : ByteArray), 5, 6), ((⟨#[114, 101, 102]⟩ : ByteArray), 7, 0), ((⟨#[97, 116, 116, 114]⟩ : ByteArray), 4, 0), ((⟨#[115, 101, 116, 97, 116, 116, 114]⟩ : ByteArray), 4, 0), ((⟨#[100, 101, 108, 97, 116, 116, 114]⟩ : ByteArray), 4, 0), ((⟨#[105, 116, 101, 109]⟩ : ByteArray), 0, 0), ((⟨#[115, 101, 116, 105, 116, 101, 109]⟩ : ByteArray), 0, 0), ((⟨#[100, 101, 108, 105, 116, 101, 109]⟩ : ByteArray), 0, 0), ((⟨#[115, 108, 105, 99, 101]⟩ : ByteArray), 0, 0), ((⟨#[115, 101, 116, 115, 108, 105, 99, 101]⟩ : ByteArray), 0, 0), ((⟨#[100, 101, 108, 115, 108, 105, 99, 101]⟩ : ByteArray), 0, 0), ((⟨#[117, 110, 97, 114, 121]⟩ : ByteArray), 8, 0), ((⟨#[98, 105, 110, 97, 114, 121]⟩ : ByteArray), 9, 0), ((⟨#[97, 117, 103, 109, 101, 110, 116]⟩ : ByteArray), 9, 0), ((⟨#[99, 111, 109, 112, 97, 114, 101]⟩ : ByteArray), 10, 0), ((⟨#[106, 117, 109, 112]⟩ : ByteArray), 11, 0), ((⟨#[106, 117, 109, 112, 116, 114, 117, 101]⟩ : ByteArray), 11, 0), ((⟨#[106, 117, 109, 112, 102, 97, 108, 115, 101]⟩ : ByteArray), 11, 0), ((⟨#[107, 101, 101, 112, 116, 114, 117, 101]⟩ : ByteArray), 11, 0), ((⟨#[107, 101, 101, 112, 102, 97, 108, 115, 101]⟩ : ByteArray), 11, 0), ((⟨#[116, 117, 112, 108, 101]⟩ : ByteArray), 1, 0), ((⟨#[108, 105, 115, 116]⟩ : ByteArray), 1, 0), ((⟨#[115, 101, 116]⟩ : ByteArray), 1, 0), ((⟨#[100, 105, 99, 116]⟩ : ByteArray), 1, 0), ((⟨#[98, 117, 105, 108, 100]⟩ : ByteArray), 0, 0), ((⟨#[97, 100, 100]⟩ : ByteArray), 2, 0), ((⟨#[97, 100, 100, 97, 108, 108]⟩ : ByteArray), 2, 0), ((⟨#[97, 100, 100, 112, 97, 105, 114]⟩ : ByteArray), 2, 0), ((⟨#[97, 100, 100, 112, 97, 105, 114, 115]⟩ : ByteArray), 2, 0), ((⟨#[102, 105, 110, 105, 115, 104]⟩ : ByteArray), 13, 0), ((⟨#[97, 114, 103, 115]⟩ : ByteArray), 0, 0), ((⟨#[97, 114, 103]⟩ : ByteArray), 0, 0), ((⟨#[97, 114, 103, 115, 116, 97, 114]⟩ : ByteArray), 0, 0), ((⟨#[97, 114, 103, 110, 97, 109, 101, 100]⟩ : ByteArray), 4, 0), ((⟨#[97, 114, 103, 112, 97, 105, 114, 115]⟩ : ByteArray), 0, 0), ((⟨#[99, 97, 108, 108]⟩ : ByteArray), 0, 0), ((⟨#[99, 97, 108, 108, 119, 105, 116, 104]⟩ : ByteArray), 1, 0), ((⟨#[102, 117, 110, 99, 116, 105, 111, 110]⟩ : ByteArray), 12, 1), ((⟨#[99, 108, 97, 115, 115]⟩ : ByteArray), 12, 0), ((⟨#[105, 116, 101, 114]⟩ : ByteArray), 0, 0), ((⟨#[110, 101, 120, 116]⟩ : ByteArray), 11, 0), ((⟨#[108, 111, 111, 112]⟩ : ByteArray), 0, 0), ((⟨#[117, 110, 112, 97, 99, 107]⟩ : ByteArray), 1, 0), ((⟨#[117, 110, 112, 97, 99, 107, 97, 108, 108]⟩ : ByteArray), 1, 1), ((⟨#[102, 111, 114, 109, 97, 116]⟩ : ByteArray), 14, 4), ((⟨#[106, 111, 105, 110]⟩ : ByteArray), 1, 0), ((⟨#[105, 109, 112, 111, 114, 116]⟩ : ByteArray), 4, 0), ((⟨#[102, 114, 111, 109]⟩ : ByteArray), 4, 0), ((⟨#[119, 105, 116, 104]⟩ : ByteArray), 0, 0), ((⟨#[108, 101, 97, 118, 101]⟩ : ByteArray), 0, 0), ((⟨#[114, 97, 105, 115, 101]⟩ : ByteArray), 20, 0), ((⟨#[102, 97, 105, 108]⟩ : ByteArray), 19, 0), ((⟨#[109, 97, 116, 99, 104]⟩ : ByteArray), 15, 0), ((⟨#[104, 97, 110, 100, 108, 101]⟩ : ByteArray), 0, 0), ((⟨#[117, 110, 104, 97, 110, 100, 108, 101]⟩ : ByteArray), 0, 0), ((⟨#[109, 97, 116, 99, 104, 101, 115]⟩ : ByteArray), 0, 0), ((⟨#[97, 103, 97, 105, 110]⟩ : ByteArray), 0, 0), ((⟨#[112, 101, 110, 100]⟩ : ByteArray), 16, 0), ((⟨#[112, 101, 110, 100, 114, 97, 105, 115, 101]⟩ : ByteArray), 16, 0), ((⟨#[114, 111, 117, 116, 101]⟩ : ByteArray), 17, 0), ((⟨#[101, 110, 100]⟩ : ByteArray), 16, 0), ((⟨#[114, 101, 116, 117, 114, 110]⟩ : ByteArray), 0, 0), ((⟨#[121, 105, 101, 108, 100]⟩ : ByteArray), 0, 0), ((⟨#[100, 101, 108, 101, 103, 97, 116, 101]⟩ : ByteArray), 0, 0), ((⟨#[97, 119, 97, 105, 116]⟩ : ByteArray), 0, 0), ((⟨#[108, 105, 110, 101]⟩ : ByteArray), 18, 0), ((⟨#[115, 97, 102, 101]⟩ : ByteArray), 0, 0), ((⟨#[103, 114, 111, 117, 112]⟩ : ByteArray), 0, 0), ((⟨#[112, 97, 114, 116]⟩ : ByteArray), 0, 0), ((⟨#[114, 97, 105, 115, 101, 100]⟩ : ByteArray), 0, 0), ((⟨#[117, 110, 103, 114, 111, 117, 112]⟩ : ByteArray), 0, 0), ((⟨#[115, 117, 112, 101, 114]⟩ : ByteArray), 7, 0), ((⟨#[114, 101, 115, 116]⟩ : ByteArray), 11, 0)] : (List (ByteArray × Int × Int)))))
theorem t17 (k : Nat) (s0 : St) (gl0 : GlobOk s0) :
    Rf (p17 k) (fun _ => True) (fun r => RtC s0.next [] [] s0 (P17 s0.next [] r)) (acall E k 17 [] s0) := by
  cases k with
  | zero => exact Rf.none
  | succ n =>
    rw [e17 n]
    rw [p17]
    refine Rf.gen fun H Q hH hQ => ?_
    have C0 : Cx s0.next [] [] s0 s0 [] [] [] := Cx.start s0
    refine Rf.newR (r := (rP rS (rP (rI .i64) (rI .i64)))) (xs := [((⟨#[99, 111, 110, 115, 116]⟩ : ByteArray), 3, 0), ((⟨#[112, 111, 112]⟩ : ByteArray), 1, 0), ((⟨#[112, 105, 99, 107]⟩ : ByteArray), 2, 0), ((⟨#[114, 111, 108, 108]⟩ : ByteArray), 2, 0), ((⟨#[108, 111, 97, 100]⟩ : ByteArray), 5, 6), ((⟨#[115, 116, 111, 114, 101]⟩ : ByteArray), 5, 6), ((⟨#[100, 101, 108, 101, 116, 101]⟩ : ByteArray), 5, 6), ((⟨#[102, 111, 114, 103, 101, 116]⟩ : ByteArray), 5, 6), ((⟨#[114, 101, 102]⟩ : ByteArray), 7, 0), ((⟨#[97, 116, 116, 114]⟩ : ByteArray), 4, 0), ((⟨#[115, 101, 116, 97, 116, 116, 114]⟩ : ByteArray), 4, 0), ((⟨#[100, 101, 108, 97, 116, 116, 114]⟩ : ByteArray), 4, 0), ((⟨#[105, 116, 101, 109]⟩ : ByteArray), 0, 0), ((⟨#[115, 101, 116, 105, 116, 101, 109]⟩ : ByteArray), 0, 0), ((⟨#[100, 101, 108, 105, 116, 101, 109]⟩ : ByteArray), 0, 0), ((⟨#[115, 108, 105, 99, 101]⟩ : ByteArray), 0, 0), ((⟨#[115, 101, 116, 115, 108, 105, 99, 101]⟩ : ByteArray), 0, 0), ((⟨#[100, 101, 108, 115, 108, 105, 99, 101]⟩ : ByteArray), 0, 0), ((⟨#[117, 110, 97, 114, 121]⟩ : ByteArray), 8, 0), ((⟨#[98, 105, 110, 97, 114, 121]⟩ : ByteArray), 9, 0), ((⟨#[97, 117, 103, 109, 101, 110, 116]⟩ : ByteArray), 9, 0), ((⟨#[99, 111, 109, 112, 97, 114, 101]⟩ : ByteArray), 10, 0), ((⟨#[106, 117, 109, 112]⟩ : ByteArray), 11, 0), ((⟨#[106, 117, 109, 112, 116, 114, 117, 101]⟩ : ByteArray), 11, 0), ((⟨#[106, 117, 109, 112, 102, 97, 108, 115, 101]⟩ : ByteArray), 11, 0), ((⟨#[107, 101, 101, 112, 116, 114, 117, 101]⟩ : ByteArray), 11, 0), ((⟨#[107, 101, 101, 112, 102, 97, 108, 115, 101]⟩ : ByteArray), 11, 0), ((⟨#[116, 117, 112, 108, 101]⟩ : ByteArray), 1, 0), ((⟨#[108, 105, 115, 116]⟩ : ByteArray), 1, 0), ((⟨#[115, 101, 116]⟩ : ByteArray), 1, 0), ((⟨#[100, 105, 99, 116]⟩ : ByteArray), 1, 0), ((⟨#[98, 117, 105, 108, 100]⟩ : ByteArray), 0, 0), ((⟨#[97, 100, 100]⟩ : ByteArray), 2, 0), ((⟨#[97, 100, 100, 97, 108, 108]⟩ : ByteArray), 2, 0), ((⟨#[97, 100, 100, 112, 97, 105, 114]⟩ : ByteArray), 2, 0), ((⟨#[97, 100, 100, 112, 97, 105, 114, 115]⟩ : ByteArray), 2, 0), ((⟨#[102, 105, 110, 105, 115, 104]⟩ : ByteArray), 13, 0), ((⟨#[97, 114, 103, 115]⟩ : ByteArray), 0, 0), ((⟨#[97, 114, 103]⟩ : ByteArray), 0, 0), ((⟨#[97, 114, 103, 115, 116, 97, 114]⟩ : ByteArray), 0, 0), ((⟨#[97, 114, 103, 110, 97, 109, 101, 100]⟩ : ByteArray), 4, 0), ((⟨#[97, 114, 103, 112, 97, 105, 114, 115]⟩ : ByteArray), 0, 0), ((⟨#[99, 97, 108, 108]⟩ : ByteArray), 0, 0), ((⟨#[99, 97, 108, 108, 119, 105, 116, 104]⟩ : ByteArray), 1, 0), ((⟨#[102, 117, 110, 99, 116, 105, 111, 110]⟩ : ByteArray), 12, 1), ((⟨#[99, 108, 97, 115, 115]⟩ : ByteArray), 12, 0), ((⟨#[105, 116, 101, 114]⟩ : ByteArray), 0, 0), ((⟨#[110, 101, 120, 116]⟩ : ByteArray), 11, 0), ((⟨#[108, 111, 111, 112]⟩ : ByteArray), 0, 0), ((⟨#[117, 110, 112, 97, 99, 107]⟩ : ByteArray), 1, 0), ((⟨#[117, 110, 112, 97, 99, 107, 97, 108, 108]⟩ : ByteArray), 1, 1), ((⟨#[102, 111, 114, 109, 97, 116]⟩ : ByteArray), 14, 4), ((⟨#[106, 111, 105, 110]⟩ : ByteArray), 1, 0), ((⟨#[105, 109, 112, 111, 114, 116]⟩ : ByteArray), 4, 0), ((⟨#[102, 114, 111, 109]⟩ : ByteArray), 4, 0), ((⟨#[119, 105, 116, 104]⟩ : ByteArray), 0, 0), ((⟨#[108, 101, 97, 118, 101]⟩ : ByteArray), 0, 0), ((⟨#[114, 97, 105, 115, 101]⟩ : ByteArray), 20, 0), ((⟨#[102, 97, 105, 108]⟩ : ByteArray), 19, 0), ((⟨#[109, 97, 116, 99, 104]⟩ : ByteArray), 15, 0), ((⟨#[104, 97, 110, 100, 108, 101]⟩ : ByteArray), 0, 0), ((⟨#[117, 110, 104, 97, 110, 100, 108, 101]⟩ : ByteArray), 0, 0), ((⟨#[109, 97, 116, 99, 104, 101, 115]⟩ : ByteArray), 0, 0), ((⟨#[97, 103, 97, 105, 110]⟩ : ByteArray), 0, 0), ((⟨#[112, 101, 110, 100]⟩ : ByteArray), 16, 0), ((⟨#[112, 101, 110, 100, 114, 97, 105, 115, 101]⟩ : ByteArray), 16, 0), ((⟨#[114, 111, 117, 116, 101]⟩ : ByteArray), 17, 0), ((⟨#[101, 110, 100]⟩ : ByteArray), 16, 0), ((⟨#[114, 101, 116, 117, 114, 110]⟩ : ByteArray), 0, 0), ((⟨#[121, 105, 101, 108, 100]⟩ : ByteArray), 0, 0), ((⟨#[100, 101, 108, 101, 103, 97, 116, 101]⟩ : ByteArray), 0, 0), ((⟨#[97, 119, 97, 105, 116]⟩ : ByteArray), 0, 0), ((⟨#[108, 105, 110, 101]⟩ : ByteArray), 18, 0), ((⟨#[115, 97, 102, 101]⟩ : ByteArray), 0, 0), ((⟨#[103, 114, 111, 117, 112]⟩ : ByteArray), 0, 0), ((⟨#[112, 97, 114, 116]⟩ : ByteArray), 0, 0), ((⟨#[114, 97, 105, 115, 101, 100]⟩ : ByteArray), 0, 0), ((⟨#[117, 110, 103, 114, 111, 117, 112]⟩ : ByteArray), 0, 0), ((⟨#[115, 117, 112, 101, 114]⟩ : ByteArray), 7, 0), ((⟨#[114, 101, 115, 116]⟩ : ByteArray), 11, 0)]) C0 rfl (many.cons (c := [(Value.string (⟨#[99, 111, 110, 115, 116]⟩ : ByteArray)), (Value.int .i64 3), (Value.int .i64 0)]) (rP_mk rS_mk (rP_mk rI_mk rI_mk)) (many.cons (c := [(Value.string (⟨#[112, 111, 112]⟩ : ByteArray)), (Value.int .i64 1), (Value.int .i64 0)]) (rP_mk rS_mk (rP_mk rI_mk rI_mk)) (many.cons (c := [(Value.string (⟨#[112, 105, 99, 107]⟩ : ByteArray)), (Value.int .i64 2), (Value.int .i64 0)]) (rP_mk rS_mk (rP_mk rI_mk rI_mk)) (many.cons (c := [(Value.string (⟨#[114, 111, 108, 108]⟩ : ByteArray)), (Value.int .i64 2), (Value.int .i64 0)]) (rP_mk rS_mk (rP_mk rI_mk rI_mk)) (many.cons (c := [(Value.string (⟨#[108, 111, 97, 100]⟩ : ByteArray)), (Value.int .i64 5), (Value.int .i64 6)]) (rP_mk rS_mk (rP_mk rI_mk rI_mk)) (many.cons (c := [(Value.string (⟨#[115, 116, 111, 114, 101]⟩ : ByteArray)), (Value.int .i64 5), (Value.int .i64 6)]) (rP_mk rS_mk (rP_mk rI_mk rI_mk)) (many.cons (c := [(Value.string (⟨#[100, 101, 108, 101, 116, 101]⟩ : ByteArray)), (Value.int .i64 5), (Value.int .i64 6)]) (rP_mk rS_mk (rP_mk rI_mk rI_mk)) (many.cons (c := [(Value.string (⟨#[102, 111, 114, 103, 101, 116]⟩ : ByteArray)), (Value.int .i64 5), (Value.int .i64 6)]) (rP_mk rS_mk (rP_mk rI_mk rI_mk)) (many.cons (c := [(Value.string (⟨#[114, 101, 102]⟩ : ByteArray)), (Value.int .i64 7), (Value.int .i64 0)]) (rP_mk rS_mk (rP_mk rI_mk rI_mk)) (many.cons (c := [(Value.string (⟨#[97, 116, 116, 114]⟩ : ByteArray)), (Value.int .i64 4), (Value.int .i64 0)]) (rP_mk rS_mk (rP_mk rI_mk rI_mk)) (many.cons (c := [(Value.string (⟨#[115, 101, 116, 97, 116, 116, 114]⟩ : ByteArray)), (Value.int .i64 4), (Value.int .i64 0)]) (rP_mk rS_mk (rP_mk rI_mk rI_mk)) (many.cons (c := [(Value.string (⟨#[100, 101, 108, 97, 116, 116, 114]⟩ : ByteArray)), (Value.int .i64 4), (Value.int .i64 0)]) (rP_mk rS_mk (rP_mk rI_mk rI_mk)) (many.cons (c := [(Value.string (⟨#[105, 116, 101, 109]⟩ : ByteArray)), (Value.int .i64 0), (Value.int .i64 0)]) (rP_mk rS_mk (rP_mk rI_mk rI_mk)) (many.cons (c := [(Value.string (⟨#[115, 101, 116, 105, 116, 101, 109]⟩ : ByteArray)), (Value.int .i64 0), (Value.int .i64 0)]) (rP_mk rS_mk (rP_mk rI_mk rI_mk)) (many.cons (c := [(Value.string (⟨#[100, 101, 108, 105, 116, 101, 109]⟩ : ByteArray)), (Value.int .i64 0), (Value.int .i64 0)]) (rP_mk rS_mk (rP_mk rI_mk rI_mk)) (many.cons (c := [(Value.string (⟨#[115, 108, 105, 99, 101]⟩ : ByteArray)), (Value.int .i64 0), (Value.int .i64 0)]) (rP_mk rS_mk (rP_mk rI_mk rI_mk)) (many.cons (c := [(Value.string (⟨#[115, 101, 116, 115, 108, 105, 99, 101]⟩ : ByteArray)), (Value.int .i64 0), (Value.int .i64 0)]) (rP_mk rS_mk (rP_mk rI_mk rI_mk)) (many.cons (c := [(Value.string (⟨#[100, 101, 108, 115, 108, 105, 99, 101]⟩ : ByteArray)), (Value.int .i64 0), (Value.int .i64 0)]) (rP_mk rS_mk (rP_mk rI_mk rI_mk)) (many.cons (c := [(Value.string (⟨#[117, 110, 97, 114, 121]⟩ : ByteArray)), (Value.int .i64 8), (Value.int .i64 0)]) (rP_mk rS_mk (rP_mk rI_mk rI_mk)) (many.cons (c := [(Value.string (⟨#[98, 105, 110, 97, 114, 121]⟩ : ByteArray)), (Value.int .i64 9), (Value.int .i64 0)]) (rP_mk rS_mk (rP_mk rI_mk rI_mk)) (many.cons (c := [(Value.string (⟨#[97, 117, 103, 109, 101, 110, 116]⟩ : ByteArray)), (Value.int .i64 9), (Value.int .i64 0)]) (rP_mk rS_mk (rP_mk rI_mk rI_mk)) (many.cons (c := [(Value.string (⟨#[99, 111, 109, 112, 97, 114, 101]⟩ : ByteArray)), (Value.int .i64 10), (Value.int .i64 0)]) (rP_mk rS_mk (rP_mk rI_mk rI_mk)) (many.cons (c := [(Value.string (⟨#[106, 117, 109, 112]⟩ : ByteArray)), (Value.int .i64 11), (Value.int .i64 0)]) (rP_mk rS_mk (rP_mk rI_mk rI_mk)) (many.cons (c := [(Value.string (⟨#[106, 117, 109, 112, 116, 114, 117, 101]⟩ : ByteArray)), (Value.int .i64 11), (Value.int .i64 0)]) (rP_mk rS_mk (rP_mk rI_mk rI_mk)) (many.cons (c := [(Value.string (⟨#[106, 117, 109, 112, 102, 97, 108, 115, 101]⟩ : ByteArray)), (Value.int .i64 11), (Value.int .i64 0)]) (rP_mk rS_mk (rP_mk rI_mk rI_mk)) (many.cons (c := [(Value.string (⟨#[107, 101, 101, 112, 116, 114, 117, 101]⟩ : ByteArray)), (Value.int .i64 11), (Value.int .i64 0)]) (rP_mk rS_mk (rP_mk rI_mk rI_mk)) (many.cons (c := [(Value.string (⟨#[107, 101, 101, 112, 102, 97, 108, 115, 101]⟩ : ByteArray)), (Value.int .i64 11), (Value.int .i64 0)]) (rP_mk rS_mk (rP_mk rI_mk rI_mk)) (many.cons (c := [(Value.string (⟨#[116, 117, 112, 108, 101]⟩ : ByteArray)), (Value.int .i64 1), (Value.int .i64 0)]) (rP_mk rS_mk (rP_mk rI_mk rI_mk)) (many.cons (c := [(Value.string (⟨#[108, 105, 115, 116]⟩ : ByteArray)), (Value.int .i64 1), (Value.int .i64 0)]) (rP_mk rS_mk (rP_mk rI_mk rI_mk)) (many.cons (c := [(Value.string (⟨#[115, 101, 116]⟩ : ByteArray)), (Value.int .i64 1), (Value.int .i64 0)]) (rP_mk rS_mk (rP_mk rI_mk rI_mk)) (many.cons (c := [(Value.string (⟨#[100, 105, 99, 116]⟩ : ByteArray)), (Value.int .i64 1), (Value.int .i64 0)]) (rP_mk rS_mk (rP_mk rI_mk rI_mk)) (many.cons (c := [(Value.string (⟨#[98, 117, 105, 108, 100]⟩ : ByteArray)), (Value.int .i64 0), (Value.int .i64 0)]) (rP_mk rS_mk (rP_mk rI_mk rI_mk)) (many.cons (c := [(Value.string (⟨#[97, 100, 100]⟩ : ByteArray)), (Value.int .i64 2), (Value.int .i64 0)]) (rP_mk rS_mk (rP_mk rI_mk rI_mk)) (many.cons (c := [(Value.string (⟨#[97, 100, 100, 97, 108, 108]⟩ : ByteArray)), (Value.int .i64 2), (Value.int .i64 0)]) (rP_mk rS_mk (rP_mk rI_mk rI_mk)) (many.cons (c := [(Value.string (⟨#[97, 100, 100, 112, 97, 105, 114]⟩ : ByteArray)), (Value.int .i64 2), (Value.int .i64 0)]) (rP_mk rS_mk (rP_mk rI_mk rI_mk)) (many.cons (c := [(Value.string (⟨#[97, 100, 100, 112, 97, 105, 114, 115]⟩ : ByteArray)), (Value.int .i64 2), (Value.int .i64 0)]) (rP_mk rS_mk (rP_mk rI_mk rI_mk)) (many.cons (c := [(Value.string (⟨#[102, 105, 110, 105, 115, 104]⟩ : ByteArray)), (Value.int .i64 13), (Value.int .i64 0)]) (rP_mk rS_mk (rP_mk rI_mk rI_mk)) (many.cons (c := [(Value.string (⟨#[97, 114, 103, 115]⟩ : ByteArray)), (Value.int .i64 0), (Value.int .i64 0)]) (rP_mk rS_mk (rP_mk rI_mk rI_mk)) (many.cons (c := [(Value.string (⟨#[97, 114, 103]⟩ : ByteArray)), (Value.int .i64 0), (Value.int .i64 0)]) (rP_mk rS_mk (rP_mk rI_mk rI_mk)) (many.cons (c := [(Value.string (⟨#[97, 114, 103, 115, 116, 97, 114]⟩ : ByteArray)), (Value.int .i64 0), (Value.int .i64 0)]) (rP_mk rS_mk (rP_mk rI_mk rI_mk)) (many.cons (c := [(Value.string (⟨#[97, 114, 103, 110, 97, 109, 101, 100]⟩ : ByteArray)), (Value.int .i64 4), (Value.int .i64 0)]) (rP_mk rS_mk (rP_mk rI_mk rI_mk)) (many.cons (c := [(Value.string (⟨#[97, 114, 103, 112, 97, 105, 114, 115]⟩ : ByteArray)), (Value.int .i64 0), (Value.int .i64 0)]) (rP_mk rS_mk (rP_mk rI_mk rI_mk)) (many.cons (c := [(Value.string (⟨#[99, 97, 108, 108]⟩ : ByteArray)), (Value.int .i64 0), (Value.int .i64 0)]) (rP_mk rS_mk (rP_mk rI_mk rI_mk)) (many.cons (c := [(Value.string (⟨#[99, 97, 108, 108, 119, 105, 116, 104]⟩ : ByteArray)), (Value.int .i64 1), (Value.int .i64 0)]) (rP_mk rS_mk (rP_mk rI_mk rI_mk)) (many.cons (c := [(Value.string (⟨#[102, 117, 110, 99, 116, 105, 111, 110]⟩ : ByteArray)), (Value.int .i64 12), (Value.int .i64 1)]) (rP_mk rS_mk (rP_mk rI_mk rI_mk)) (many.cons (c := [(Value.string (⟨#[99, 108, 97, 115, 115]⟩ : ByteArray)), (Value.int .i64 12), (Value.int .i64 0)]) (rP_mk rS_mk (rP_mk rI_mk rI_mk)) (many.cons (c := [(Value.string (⟨#[105, 116, 101, 114]⟩ : ByteArray)), (Value.int .i64 0), (Value.int .i64 0)]) (rP_mk rS_mk (rP_mk rI_mk rI_mk)) (many.cons (c := [(Value.string (⟨#[110, 101, 120, 116]⟩ : ByteArray)), (Value.int .i64 11), (Value.int .i64 0)]) (rP_mk rS_mk (rP_mk rI_mk rI_mk)) (many.cons (c := [(Value.string (⟨#[108, 111, 111, 112]⟩ : ByteArray)), (Value.int .i64 0), (Value.int .i64 0)]) (rP_mk rS_mk (rP_mk rI_mk rI_mk)) (many.cons (c := [(Value.string (⟨#[117, 110, 112, 97, 99, 107]⟩ : ByteArray)), (Value.int .i64 1), (Value.int .i64 0)]) (rP_mk rS_mk (rP_mk rI_mk rI_mk)) (many.cons (c := [(Value.string (⟨#[117, 110, 112, 97, 99, 107, 97, 108, 108]⟩ : ByteArray)), (Value.int .i64 1), (Value.int .i64 1)]) (rP_mk rS_mk (rP_mk rI_mk rI_mk)) (many.cons (c := [(Value.string (⟨#[102, 111, 114, 109, 97, 116]⟩ : ByteArray)), (Value.int .i64 14), (Value.int .i64 4)]) (rP_mk rS_mk (rP_mk rI_mk rI_mk)) (many.cons (c := [(Value.string (⟨#[106, 111, 105, 110]⟩ : ByteArray)), (Value.int .i64 1), (Value.int .i64 0)]) (rP_mk rS_mk (rP_mk rI_mk rI_mk)) (many.cons (c := [(Value.string (⟨#[105, 109, 112, 111, 114, 116]⟩ : ByteArray)), (Value.int .i64 4), (Value.int .i64 0)]) (rP_mk rS_mk (rP_mk rI_mk rI_mk)) (many.cons (c := [(Value.string (⟨#[102, 114, 111, 109]⟩ : ByteArray)), (Value.int .i64 4), (Value.int .i64 0)]) (rP_mk rS_mk (rP_mk rI_mk rI_mk)) (many.cons (c := [(Value.string (⟨#[119, 105, 116, 104]⟩ : ByteArray)), (Value.int .i64 0), (Value.int .i64 0)]) (rP_mk rS_mk (rP_mk rI_mk rI_mk)) (many.cons (c := [(Value.string (⟨#[108, 101, 97, 118, 101]⟩ : ByteArray)), (Value.int .i64 0), (Value.int .i64 0)]) (rP_mk rS_mk (rP_mk rI_mk rI_mk)) (many.cons (c := [(Value.string (⟨#[114, 97, 105, 115, 101]⟩ : ByteArray)), (Value.int .i64 20), (Value.int .i64 0)]) (rP_mk rS_mk (rP_mk rI_mk rI_mk)) (many.cons (c := [(Value.string (⟨#[102, 97, 105, 108]⟩ : ByteArray)), (Value.int .i64 19), (Value.int .i64 0)]) (rP_mk rS_mk (rP_mk rI_mk rI_mk)) (many.cons (c := [(Value.string (⟨#[109, 97, 116, 99, 104]⟩ : ByteArray)), (Value.int .i64 15), (Value.int .i64 0)]) (rP_mk rS_mk (rP_mk rI_mk rI_mk)) (many.cons (c := [(Value.string (⟨#[104, 97, 110, 100, 108, 101]⟩ : ByteArray)), (Value.int .i64 0), (Value.int .i64 0)]) (rP_mk rS_mk (rP_mk rI_mk rI_mk)) (many.cons (c := [(Value.string (⟨#[117, 110, 104, 97, 110, 100, 108, 101]⟩ : ByteArray)), (Value.int .i64 0), (Value.int .i64 0)]) (rP_mk rS_mk (rP_mk rI_mk rI_mk)) (many.cons (c := [(Value.string (⟨#[109, 97, 116, 99, 104, 101, 115]⟩ : ByteArray)), (Value.int .i64 0), (Value.int .i64 0)]) (rP_mk rS_mk (rP_mk rI_mk rI_mk)) (many.cons (c := [(Value.string (⟨#[97, 103, 97, 105, 110]⟩ : ByteArray)), (Value.int .i64 0), (Value.int .i64 0)]) (rP_mk rS_mk (rP_mk rI_mk rI_mk)) (many.cons (c := [(Value.string (⟨#[112, 101, 110, 100]⟩ : ByteArray)), (Value.int .i64 16), (Value.int .i64 0)]) (rP_mk rS_mk (rP_mk rI_mk rI_mk)) (many.cons (c := [(Value.string (⟨#[112, 101, 110, 100, 114, 97, 105, 115, 101]⟩ : ByteArray)), (Value.int .i64 16), (Value.int .i64 0)]) (rP_mk rS_mk (rP_mk rI_mk rI_mk)) (many.cons (c := [(Value.string (⟨#[114, 111, 117, 116, 101]⟩ : ByteArray)), (Value.int .i64 17), (Value.int .i64 0)]) (rP_mk rS_mk (rP_mk rI_mk rI_mk)) (many.cons (c := [(Value.string (⟨#[101, 110, 100]⟩ : ByteArray)), (Value.int .i64 16), (Value.int .i64 0)]) (rP_mk rS_mk (rP_mk rI_mk rI_mk)) (many.cons (c := [(Value.string (⟨#[114, 101, 116, 117, 114, 110]⟩ : ByteArray)), (Value.int .i64 0), (Value.int .i64 0)]) (rP_mk rS_mk (rP_mk rI_mk rI_mk)) (many.cons (c := [(Value.string (⟨#[121, 105, 101, 108, 100]⟩ : ByteArray)), (Value.int .i64 0), (Value.int .i64 0)]) (rP_mk rS_mk (rP_mk rI_mk rI_mk)) (many.cons (c := [(Value.string (⟨#[100, 101, 108, 101, 103, 97, 116, 101]⟩ : ByteArray)), (Value.int .i64 0), (Value.int .i64 0)]) (rP_mk rS_mk (rP_mk rI_mk rI_mk)) (many.cons (c := [(Value.string (⟨#[97, 119, 97, 105, 116]⟩ : ByteArray)), (Value.int .i64 0), (Value.int .i64 0)]) (rP_mk rS_mk (rP_mk rI_mk rI_mk)) (many.cons (c := [(Value.string (⟨#[108, 105, 110, 101]⟩ : ByteArray)), (Value.int .i64 18), (Value.int .i64 0)]) (rP_mk rS_mk (rP_mk rI_mk rI_mk)) (many.cons (c := [(Value.string (⟨#[115, 97, 102, 101]⟩ : ByteArray)), (Value.int .i64 0), (Value.int .i64 0)]) (rP_mk rS_mk (rP_mk rI_mk rI_mk)) (many.cons (c := [(Value.string (⟨#[103, 114, 111, 117, 112]⟩ : ByteArray)), (Value.int .i64 0), (Value.int .i64 0)]) (rP_mk rS_mk (rP_mk rI_mk rI_mk)) (many.cons (c := [(Value.string (⟨#[112, 97, 114, 116]⟩ : ByteArray)), (Value.int .i64 0), (Value.int .i64 0)]) (rP_mk rS_mk (rP_mk rI_mk rI_mk)) (many.cons (c := [(Value.string (⟨#[114, 97, 105, 115, 101, 100]⟩ : ByteArray)), (Value.int .i64 0), (Value.int .i64 0)]) (rP_mk rS_mk (rP_mk rI_mk rI_mk)) (many.cons (c := [(Value.string (⟨#[117, 110, 103, 114, 111, 117, 112]⟩ : ByteArray)), (Value.int .i64 0), (Value.int .i64 0)]) (rP_mk rS_mk (rP_mk rI_mk rI_mk)) (many.cons (c := [(Value.string (⟨#[115, 117, 112, 101, 114]⟩ : ByteArray)), (Value.int .i64 7), (Value.int .i64 0)]) (rP_mk rS_mk (rP_mk rI_mk rI_mk)) (many.cons (c := [(Value.string (⟨#[114, 101, 115, 116]⟩ : ByteArray)), (Value.int .i64 11), (Value.int .i64 0)]) (rP_mk rS_mk (rP_mk rI_mk rI_mk)) many.nil)))))))))))))))))))))))))))))))))))))))))))))))))))))))))))))))))))))))))))))))) fun s1 (C2 : Cx s0.next [] [] s0 s1 [] [(On.mk (rP rS (rP (rI .i64) (rI .i64))) [((⟨#[99, 111, 110, 115, 116]⟩ : ByteArray), 3, 0), ((⟨#[112, 111, 112]⟩ : ByteArray), 1, 0), ((⟨#[112, 105, 99, 107]⟩ : ByteArray), 2, 0), ((⟨#[114, 111, 108, 108]⟩ : ByteArray), 2, 0), ((⟨#[108, 111, 97, 100]⟩ : ByteArray), 5, 6), ((⟨#[115, 116, 111, 114, 101]⟩ : ByteArray), 5, 6), ((⟨#[100, 101, 108, 101, 116, 101]⟩ : ByteArray), 5, 6), ((⟨#[102, 111, 114, 103, 101, 116]⟩ : ByteArray), 5, 6), ((⟨#[114, 101, 102]⟩ : ByteArray), 7, 0), ((⟨#[97, 116, 116, 114]⟩ : ByteArray), 4, 0), ((⟨#[115, 101, 116, 97, 116, 116, 114]⟩ : ByteArray), 4, 0), ((⟨#[100, 101, 108, 97, 116, 116, 114]⟩ : ByteArray), 4, 0), ((⟨#[105, 116, 101, 109]⟩ : ByteArray), 0, 0), ((⟨#[115, 101, 116, 105, 116, 101, 109]⟩ : ByteArray), 0, 0), ((⟨#[100, 101, 108, 105, 116, 101, 109]⟩ : ByteArray), 0, 0), ((⟨#[115, 108, 105, 99, 101]⟩ : ByteArray), 0, 0), ((⟨#[115, 101, 116, 115, 108, 105, 99, 101]⟩ : ByteArray), 0, 0), ((⟨#[100, 101, 108, 115, 108, 105, 99, 101]⟩ : ByteArray), 0, 0), ((⟨#[117, 110, 97, 114, 121]⟩ : ByteArray), 8, 0), ((⟨#[98, 105, 110, 97, 114, 121]⟩ : ByteArray), 9, 0), ((⟨#[97, 117, 103, 109, 101, 110, 116]⟩ : ByteArray), 9, 0), ((⟨#[99, 111, 109, 112, 97, 114, 101]⟩ : ByteArray), 10, 0), ((⟨#[106, 117, 109, 112]⟩ : ByteArray), 11, 0), ((⟨#[106, 117, 109, 112, 116, 114, 117, 101]⟩ : ByteArray), 11, 0), ((⟨#[106, 117, 109, 112, 102, 97, 108, 115, 101]⟩ : ByteArray), 11, 0), ((⟨#[107, 101, 101, 112, 116, 114, 117, 101]⟩ : ByteArray), 11, 0), ((⟨#[107, 101, 101, 112, 102, 97, 108, 115, 101]⟩ : ByteArray), 11, 0), ((⟨#[116, 117, 112, 108, 101]⟩ : ByteArray), 1, 0), ((⟨#[108, 105, 115, 116]⟩ : ByteArray), 1, 0), ((⟨#[115, 101, 116]⟩ : ByteArray), 1, 0), ((⟨#[100, 105, 99, 116]⟩ : ByteArray), 1, 0), ((⟨#[98, 117, 105, 108, 100]⟩ : ByteArray), 0, 0), ((⟨#[97, 100, 100]⟩ : ByteArray), 2, 0), ((⟨#[97, 100, 100, 97, 108, 108]⟩ : ByteArray), 2, 0), ((⟨#[97, 100, 100, 112, 97, 105, 114]⟩ : ByteArray), 2, 0), ((⟨#[97, 100, 100, 112, 97, 105, 114, 115]⟩ : ByteArray), 2, 0), ((⟨#[102, 105, 110, 105, 115, 104]⟩ : ByteArray), 13, 0), ((⟨#[97, 114, 103, 115]⟩ : ByteArray), 0, 0), ((⟨#[97, 114, 103]⟩ : ByteArray), 0, 0), ((⟨#[97, 114, 103, 115, 116, 97, 114]⟩ : ByteArray), 0, 0), ((⟨#[97, 114, 103, 110, 97, 109, 101, 100]⟩ : ByteArray), 4, 0), ((⟨#[97, 114, 103, 112, 97, 105, 114, 115]⟩ : ByteArray), 0, 0), ((⟨#[99, 97, 108, 108]⟩ : ByteArray), 0, 0), ((⟨#[99, 97, 108, 108, 119, 105, 116, 104]⟩ : ByteArray), 1, 0), ((⟨#[102, 117, 110, 99, 116, 105, 111, 110]⟩ : ByteArray), 12, 1), ((⟨#[99, 108, 97, 115, 115]⟩ : ByteArray), 12, 0), ((⟨#[105, 116, 101, 114]⟩ : ByteArray), 0, 0), ((⟨#[110, 101, 120, 116]⟩ : ByteArray), 11, 0), ((⟨#[108, 111, 111, 112]⟩ : ByteArray), 0, 0), ((⟨#[117, 110, 112, 97, 99, 107]⟩ : ByteArray), 1, 0), ((⟨#[117, 110, 112, 97, 99, 107, 97, 108, 108]⟩ : ByteArray), 1, 1), ((⟨#[102, 111, 114, 109, 97, 116]⟩ : ByteArray), 14, 4), ((⟨#[106, 111, 105, 110]⟩ : ByteArray), 1, 0), ((⟨#[105, 109, 112, 111, 114, 116]⟩ : ByteArray), 4, 0), ((⟨#[102, 114, 111, 109]⟩ : ByteArray), 4, 0), ((⟨#[119, 105, 116, 104]⟩ : ByteArray), 0, 0), ((⟨#[108, 101, 97, 118, 101]⟩ : ByteArray), 0, 0), ((⟨#[114, 97, 105, 115, 101]⟩ : ByteArray), 20, 0), ((⟨#[102, 97, 105, 108]⟩ : ByteArray), 19, 0), ((⟨#[109, 97, 116, 99, 104]⟩ : ByteArray), 15, 0), ((⟨#[104, 97, 110, 100, 108, 101]⟩ : ByteArray), 0, 0), ((⟨#[117, 110, 104, 97, 110, 100, 108, 101]⟩ : ByteArray), 0, 0), ((⟨#[109, 97, 116, 99, 104, 101, 115]⟩ : ByteArray), 0, 0), ((⟨#[97, 103, 97, 105, 110]⟩ : ByteArray), 0, 0), ((⟨#[112, 101, 110, 100]⟩ : ByteArray), 16, 0), ((⟨#[112, 101, 110, 100, 114, 97, 105, 115, 101]⟩ : ByteArray), 16, 0), ((⟨#[114, 111, 117, 116, 101]⟩ : ByteArray), 17, 0), ((⟨#[101, 110, 100]⟩ : ByteArray), 16, 0), ((⟨#[114, 101, 116, 117, 114, 110]⟩ : ByteArray), 0, 0), ((⟨#[121, 105, 101, 108, 100]⟩ : ByteArray), 0, 0), ((⟨#[100, 101, 108, 101, 103, 97, 116, 101]⟩ : ByteArray), 0, 0), ((⟨#[97, 119, 97, 105, 116]⟩ : ByteArray), 0, 0), ((⟨#[108, 105, 110, 101]⟩ : ByteArray), 18, 0), ((⟨#[115, 97, 102, 101]⟩ : ByteArray), 0, 0), ((⟨#[103, 114, 111, 117, 112]⟩ : ByteArray), 0, 0), ((⟨#[112, 97, 114, 116]⟩ : ByteArray), 0, 0), ((⟨#[114, 97, 105, 115, 101, 100]⟩ : ByteArray), 0, 0), ((⟨#[117, 110, 103, 114, 111, 117, 112]⟩ : ByteArray), 0, 0), ((⟨#[115, 117, 112, 101, 114]⟩ : ByteArray), 7, 0), ((⟨#[114, 101, 115, 116]⟩ : ByteArray), 11, 0)] (some ⟨s0.next, 0, none⟩) 80 49 false s0.next)] []) => ?_
    subst hH; subst hQ
    exact Rf.leaf fun _ => Ev.done (Rf.ret C2 ⟨_, _, _, rfl, C2.own _ m0⟩)
-- 6 "brindlewood/opcode.Names"
abbrev Inv6_1 (s0 : St) (gl0 : GlobOk s0) (A3 : Option Addr) (c4 : Nat) (e6 : Nat) (r1 : (List (ByteArray × Int × Int))) (t : ((List ByteArray) × Int)) (g : Regs) (s : St) : Prop := ∃ (A15 : Option Addr) (c16 : Nat) (e17 : Nat), g = (rg 17 [(1, (Value.slice A15 (t.1).length c16)), (4, (Value.slice A3 (r1).length c4)), (5, (Value.int .i64 ((r1).length : Nat))), (6, (Value.int .i64 t.2))]) ∧ Cx s0.next [] [] s0 s [] [(On.mk rS t.1 A15 c16 9 false e17), (On.mk (rP rS (rP (rI .i64) (rI .i64))) r1 A3 c4 49 false e6)] []
abbrev Ex6_1 (s0 : St) (gl0 : GlobOk s0) (A3 : Option Addr) (c4 : Nat) (e6 : Nat) (r1 : (List (ByteArray × Int × Int))) (t : ((List ByteArray) × Int)) (e : X) (g : Regs) (s : St) : Prop := ∃ (A82 : Option Addr) (c83 : Nat) (e84 : Nat), e = .exit 0 ∧ g = (rg 17 [(1, (Value.slice A82 (t.1).length c83)), (4, (Value.slice A3 (r1).length c4)), (5, (Value.int .i64 ((r1).length : Nat))), (6, (Value.int .i64 t.2)), (7, (Value.bool false))]) ∧ Cx s0.next [] [] s0 s [] [(On.mk rS t.1 A82 c83 9 false e84), (On.mk (rP rS (rP (rI .i64) (rI .i64))) r1 A3 c4 49 false e6)] []
theorem x6_1 (s0 : St) (gl0 : GlobOk s0) (A3 : Option Addr) (c4 : Nat) (e6 : Nat) (r1 : (List (ByteArray × Int × Int))) (t : ((List ByteArray) × Int)) (e : X) (g : Regs) (s : St) (h : Ex6_1 s0 gl0 A3 c4 e6 r1 t e g s) : e ≠ .normal := by
  obtain ⟨_, _, _, h, _⟩ := h
  rw [h]; intro hh; cases hh
def pb6_1 (n : Nat)  (r1 : (List (ByteArray × Int × Int))) (t : ((List ByteArray) × Int)) : Option (((List ByteArray) × Int) ⊕ ((List ByteArray) × Int)) :=
  (if (decide ((t.2 : Int) < ((r1).length : Nat))) then ((rd r1 t.2 (fun x39 => (apP 16 t.1 [x39.1] (fun y74 => ((some (.inl ((t.1 ++ [x39.1]), (IntKind.wrap .i64 (t.2 + 1))))))))))) else (((some (.inr (t.1, t.2))))))
theorem b6_1 (n : Nat) (s0 : St) (gl0 : GlobOk s0) (A3 : Option Addr) (c4 : Nat) (e6 : Nat) (r1 : (List (ByteArray × Int × Int))) (t : ((List ByteArray) × Int)) (g : Regs) (s36 : St) (K : Kont) (Q : Out → St → Prop) (h : Inv6_1 s0 gl0 A3 c4 e6 r1 t g s36) :
    Rf (pb6_1 n r1 t) (fun r => ∀ e g' s', LK (Inv6_1 s0 gl0 A3 c4 e6 r1) (Ex6_1 s0 gl0 A3 c4 e6 r1) r e g' s' → Ev (K e g' s') Q) (fun _ => Q) (kBody E 6 n [.b, .b, .a, .b, .a, .a] g s36 K) := by
  obtain ⟨y14, x18⟩ := t
  obtain ⟨A15, c16, e17, rfl, C37⟩ := h
  rw [e6_body0 n]
  unfold pb6_1
  refine Rf.gen fun H Q hH hQ => ?_
  try dsimp only
  refine Rf.ite ?_ ?_
  · refine Rf.elt (r := (rP rS (rP (rI .i64) (rI .i64)))) (C37.srB m1) rfl fun x39 i40 o41 c42 r43 h44 => ?_
    obtain ⟨c49, c50, rfl, r51, r52⟩ := rP_elim r43
    obtain rfl := rS_elim r51
    obtain ⟨c53, c54, rfl, r55, r56⟩ := rP_elim r52
    obtain rfl := rI_elim r55
    obtain rfl := rI_elim r56
    refine Rf.ldS (h44.at 0 rfl) ?_
    refine Rf.ldI (h44.at 1 rfl) ?_
    refine Rf.ldI (h44.at 2 rfl) ?_
    refine Rf.new C37 fun s60 (C61 : Cx s0.next [] [] s0 s60 [(s36.next, AObj.box 49 [(Value.string ByteArray.empty), (Value.int .i64 0), (Value.int .i64 0)])] [(On.mk rS y14 A15 c16 9 false e17), (On.mk (rP rS (rP (rI .i64) (rI .i64))) r1 A3 c4 49 false e6)] []) => ?_
    refine Rf.sto 0 C61 rfl (by simp) rfl fun s63 (C64 : Cx s0.next [] [] s0 s63 [(s36.next, AObj.box 49 [(Value.string x39.1), (Value.int .i64 x39.2.1), (Value.int .i64 x39.2.2)])] [(On.mk rS y14 A15 c16 9 false e17), (On.mk (rP rS (rP (rI .i64) (rI .i64))) r1 A3 c4 49 false e6)] []) => ?_
    refine Rf.ldS (C64.at m0 rfl) ?_
    refine Rf.newR (r := rS) (xs := [x39.1]) C64 rfl (many.cons (c := [(Value.string x39.1)]) rS_mk many.nil) fun s68 (C69 : Cx s0.next [] [] s0 s68 [(s36.next, AObj.box 49 [(Value.string x39.1), (Value.int .i64 x39.2.1), (Value.int .i64 x39.2.2)])] [(On.mk rS [x39.1] (some ⟨s63.next, 0, none⟩) 1 9 false s63.next), (On.mk rS y14 A15 c16 9 false e17), (On.mk (rP rS (rP (rI .i64) (rI .i64))) r1 A3 c4 49 false e6)] []) => ?_
    refine Rf.kapp 1 C69 rfl rfl (by decide) (by decide) (Ap.sr u23 rfl (C69.srB m0)) fun A71 c72 e73 s76 (C77 : Cx s0.next [] [] s0 s76 [(s36.next, AObj.box 49 [(Value.string x39.1), (Value.int .i64 x39.2.1), (Value.int .i64 x39.2.2)])] [(On.mk rS [x39.1] (some ⟨s63.next, 0, none⟩) 1 9 false s63.next), (On.mk rS (y14 ++ [x39.1]) A71 c72 9 false e73), (On.mk (rP rS (rP (rI .i64) (rI .i64))) r1 A3 c4 49 false e6)] []) => ?_
    have C78 : Cx s0.next [] [] s0 s76 [(s36.next, AObj.box 49 [(Value.string x39.1), (Value.int .i64 x39.2.1), (Value.int .i64 x39.2.2)])] [(On.mk rS (y14 ++ [x39.1]) A71 c72 9 false e73), (On.mk (rP rS (rP (rI .i64) (rI .i64))) r1 A3 c4 49 false e6)] [] := C77.sub (List.Sublist.refl _) (List.Sublist.cons _ (List.Sublist.cons_cons _ (List.Sublist.cons_cons _ List.Sublist.slnil))) (List.Sublist.refl _)
    subst hH; subst hQ
    exact Rf.leaf fun h => h _ _ _ ⟨rfl, _, _, _, rfl, (C78.sub (List.Sublist.cons _ List.Sublist.slnil) (List.Sublist.refl _) (List.Sublist.refl _))⟩
  · subst hH; subst hQ
    exact Rf.leaf fun h => h _ _ _ ⟨_, _, _, rfl, rfl, (C37.sub (List.Sublist.refl _) (List.Sublist.refl _) (List.Sublist.refl _))⟩
abbrev P6 (N : Nat) (X : List Nat) (r : (List ByteArray)) (v : Value) (s : St) : Prop := ∃ (A0 : Option Addr) (c0 : Nat) (e0 : Nat), v = (Value.slice A0 (r).length c0) ∧ (On.mk rS r A0 c0 9 false e0).holds N X s
def p6 : Nat → Option (List ByteArray)
  | 0 => none
  | n + 1 => (((p17 n).bind fun r1 => ((loopP (pb6_1 n r1) n (([] : List ByteArray), 0)).bind fun t86 => (some (t86.1 : (List ByteArray))))))
theorem t6 (k : Nat) (s0 : St) (gl0 : GlobOk s0) :
    Rf (p6 k) (fun _ => True) (fun r => RtC s0.next [] [] s0 (P6 s0.next [] r)) (acall E k 6 [] s0) := by
  cases k with
  | zero => exact Rf.none
  | succ n =>
    rw [e6 n]
    rw [p6]
    refine Rf.gen fun H Q hH hQ => ?_
    have C0 : Cx s0.next [] [] s0 s0 [] [] [] := Cx.start s0
    refine Rf.call0 C0 (t17 n s0 (C0.gl rfl gl0)) ?_
    rintro r1 _ s2 ⟨A3, c4, e6, rfl, h5⟩ h9
    have C10 : Cx s0.next [] [] s0 s2 [] [(On.mk (rP rS (rP (rI .i64) (rI .i64))) r1 A3 c4 49 false e6)] [] := h9 [(On.mk (rP rS (rP (rI .i64) (rI .i64))) r1 A3 c4 49 false e6)] (by simpa using h5) (List.pairwise_singleton _ _)
    refine (Rf.asSl ?_)
    have C11 : Cx s0.next [] [] s0 s2 [] [(On.mk rS ([] : List ByteArray) none 0 9 false 0), (On.mk (rP rS (rP (rI .i64) (rI .i64))) r1 A3 c4 49 false e6)] [] := C10.addNil rS 9
    refine Rf.loop (Inv := Inv6_1 s0 gl0 A3 c4 e6 r1) (Ex := Ex6_1 s0 gl0 A3 c4 e6 r1) (x6_1 s0 gl0 A3 c4 e6 r1) (fun t g s K Q h => b6_1 n s0 gl0 A3 c4 e6 r1 t g s K Q h) n _ _ _ ⟨_, _, _, rfl, (C11.sub (List.Sublist.refl _) (List.Sublist.refl _) (List.Sublist.refl _))⟩ ?_
    intro t86 e g s104 h
    obtain ⟨A82, c83, e84, rfl, rfl, C105⟩ := h
    rw [e6_after0_exit0 n]
    subst hH; subst hQ
    exact Rf.leaf fun _ => Ev.done (Rf.ret C105 ⟨_, _, _, rfl, C105.own _ m0⟩)
-- 7 "brindlewood/opcode.Operands"
abbrev P7 (N : Nat) (X : List Nat) (r : Int) (v : Value) (s : St) : Prop := v = (Value.int .i64 r)
def p7 : Nat → Int → Option Int
  | 0, _ => none
  | n + 1, p0 => ((p17 n).bind fun r1 => ((p18 n p0 ((r1).length : Nat)).bind fun r11 => (if (!r11) then (((some (0 : Int)))) else ((rd r1 p0 (fun x16 => (p19 n (x16.1, x16.2.1, x16.2.2)).bind fun r37 => (some (r37 : Int))))))))
theorem t7 (k : Nat) (p0 : Int) (s0 : St) (gl0 : GlobOk s0) :
    Rf (p7 k p0) (fun _ => True) (fun r => RtC s0.next [] [] s0 (P7 s0.next [] r)) (acall E k 7 [(Value.int .i64 p0)] s0) := by
  cases k with
  | zero => exact Rf.none
  | succ n =>
    rw [e7 n]
    rw [p7]
    refine Rf.gen fun H Q hH hQ => ?_
    have C0 : Cx s0.next [] [] s0 s0 [] [] [] := Cx.start s0
    refine Rf.call0 C0 (t17 n s0 (C0.gl rfl gl0)) ?_
    rintro r1 _ s2 ⟨A3, c4, e6, rfl, h5⟩ h9
    have C10 : Cx s0.next [] [] s0 s2 [] [(On.mk (rP rS (rP (rI .i64) (rI .i64))) r1 A3 c4 49 false e6)] [] := h9 [(On.mk (rP rS (rP (rI .i64) (rI .i64))) r1 A3 c4 49 false e6)] (by simpa using h5) (List.pairwise_singleton _ _)
    refine (Rf.asSl ?_)
    refine Rf.call0 C10 (t18 n p0 ((r1).length : Nat) s2 (C10.gl rfl gl0)) ?_
    rintro r11 _ s12 rfl h14
    have C15 : Cx s0.next [] [] s0 s12 [] [(On.mk (rP rS (rP (rI .i64) (rI .i64))) r1 A3 c4 49 false e6)] [] := h14 [] (by simp) List.Pairwise.nil
    refine (Rf.asB ?_)
    refine Rf.ite ?_ ?_
    · subst hH; subst hQ
      exact Rf.leaf fun _ => Ev.done (Rf.ret C15 rfl)
    · refine Rf.elt (r := (rP rS (rP (rI .i64) (rI .i64)))) (C15.srB m0) rfl fun x16 i17 o18 c19 r20 h21 => ?_
      obtain ⟨c26, c27, rfl, r28, r29⟩ := rP_elim r20
      obtain rfl := rS_elim r28
      obtain ⟨c30, c31, rfl, r32, r33⟩ := rP_elim r29
      obtain rfl := rI_elim r32
      obtain rfl := rI_elim r33
      refine Rf.ldS (h21.at 0 rfl) ?_
      refine Rf.ldI (h21.at 1 rfl) ?_
      refine Rf.ldI (h21.at 2 rfl) ?_
      refine Rf.call0 C15 (t19 n (x16.1, x16.2.1, x16.2.2) s12 (C15.gl rfl gl0)) ?_
      rintro r37 _ s38 rfl h40
      have C41 : Cx s0.next [] [] s0 s38 [] [(On.mk (rP rS (rP (rI .i64) (rI .i64))) r1 A3 c4 49 false e6)] [] := h40 [] (by simp) List.Pairwise.nil
      refine (Rf.asI ?_)
      subst hH; subst hQ
      exact Rf.leaf fun _ => Ev.done (Rf.ret C41 rfl)
-- 9 "brindlewood/opcode.Encode"
abbrev Inv9_2 (s0 : St) (p0 : (List (Int × Int × Int))) (A0 : Option Addr) (c0 : Nat) (gl0 : GlobOk s0) (h0 : Sr (rP (rI .i64) (rP (rI .i64) (rI .i64))) s0 A0 c0 p0) (A16 : Option Addr) (c17 : Nat) (e19 : Nat) (i32 : Nat) (r14 : (List (ByteArray × Int × Int))) (x31 : Int) (A264 : Option Addr) (c265 : Nat) (y268 : (List Int)) (t : ((List Int) × Int)) (g : Regs) (s : St) : Prop := ∃ (A274 : Option Addr) (c275 : Nat) (e276 : Nat), g = (rg 100 [(3, (Value.pointer (some ⟨i32, 0, none⟩))), (4, (Value.slice A274 (t.1).length c275)), (5, (Value.slice A16 (r14).length c17)), (16, (Value.slice A0 (p0).length c0)), (17, (Value.int .i64 ((p0).length : Nat))), (18, (Value.int .i64 x31)), (87, (Value.slice A264 (y268).length c265)), (88, (Value.int .i64 ((y268).length : Nat))), (89, (Value.int .i64 t.2))]) ∧ Cx s0.next [] [] s0 s [(i32, AObj.box 32 [(Value.int .i64 0), (Value.int .i64 0)])] [(On.mk (rI .u8) t.1 A274 c275 5 false e276), (On.mk (rP rS (rP (rI .i64) (rI .i64))) r14 A16 c17 49 false e19)] [(Fa.sr (rI .i64) A264 c265 y268)]
abbrev Ex9_2 (s0 : St) (p0 : (List (Int × Int × Int))) (A0 : Option Addr) (c0 : Nat) (gl0 : GlobOk s0) (h0 : Sr (rP (rI .i64) (rP (rI .i64) (rI .i64))) s0 A0 c0 p0) (A16 : Option Addr) (c17 : Nat) (e19 : Nat) (i32 : Nat) (r14 : (List (ByteArray × Int × Int))) (x31 : Int) (A264 : Option Addr) (c265 : Nat) (y268 : (List Int)) (t : ((List Int) × Int)) (e : X) (g : Regs) (s : St) : Prop := ∃ (A401 : Option Addr) (c402 : Nat) (e403 : Nat), e = .exit 2 ∧ g = (rg 100 [(3, (Value.pointer (some ⟨i32, 0, none⟩))), (4, (Value.slice A401 (t.1).length c402)), (5, (Value.slice A16 (r14).length c17)), (16, (Value.slice A0 (p0).length c0)), (17, (Value.int .i64 ((p0).length : Nat))), (18, (Value.int .i64 x31)), (87, (Value.slice A264 (y268).length c265)), (88, (Value.int .i64 ((y268).length : Nat))), (89, (Value.int .i64 t.2)), (90, (Value.bool false))]) ∧ Cx s0.next [] [] s0 s [(i32, AObj.box 32 [(Value.int .i64 0), (Value.int .i64 0)])] [(On.mk (rI .u8) t.1 A401 c402 5 false e403), (On.mk (rP rS (rP (rI .i64) (rI .i64))) r14 A16 c17 49 false e19)] [(Fa.sr (rI .i64) A264 c265 y268)]
theorem x9_2 (s0 : St) (p0 : (List (Int × Int × Int))) (A0 : Option Addr) (c0 : Nat) (gl0 : GlobOk s0) (h0 : Sr (rP (rI .i64) (rP (rI .i64) (rI .i64))) s0 A0 c0 p0) (A16 : Option Addr) (c17 : Nat) (e19 : Nat) (i32 : Nat) (r14 : (List (ByteArray × Int × Int))) (x31 : Int) (A264 : Option Addr) (c265 : Nat) (y268 : (List Int)) (t : ((List Int) × Int)) (e : X) (g : Regs) (s : St) (h : Ex9_2 s0 p0 A0 c0 gl0 h0 A16 c17 e19 i32 r14 x31 A264 c265 y268 t e g s) : e ≠ .normal := by
  obtain ⟨_, _, _, h, _⟩ := h
  rw [h]; intro hh; cases hh
def pb9_2 (n : Nat)  (y268 : (List Int)) (t : ((List Int) × Int)) : Option (((List Int) × Int) ⊕ ((List Int) × Int)) :=
  (if (decide ((t.2 : Int) < ((y268).length : Nat))) then ((rd y268 t.2 (fun x382 => ((p21 n t.1 x382).bind fun r389 => ((some (.inl (r389, (IntKind.wrap .i64 (t.2 + 1)))))))))) else (((some (.inr (t.1, t.2))))))
theorem b9_2 (n : Nat) (s0 : St) (p0 : (List (Int × Int × Int))) (A0 : Option Addr) (c0 : Nat) (gl0 : GlobOk s0) (h0 : Sr (rP (rI .i64) (rP (rI .i64) (rI .i64))) s0 A0 c0 p0) (A16 : Option Addr) (c17 : Nat) (e19 : Nat) (i32 : Nat) (r14 : (List (ByteArray × Int × Int))) (x31 : Int) (A264 : Option Addr) (c265 : Nat) (y268 : (List Int)) (t : ((List Int) × Int)) (g : Regs) (s379 : St) (K : Kont) (Q : Out → St → Prop) (h : Inv9_2 s0 p0 A0 c0 gl0 h0 A16 c17 e19 i32 r14 x31 A264 c265 y268 t g s379) :
    Rf (pb9_2 n y268 t) (fun r => ∀ e g' s', LK (Inv9_2 s0 p0 A0 c0 gl0 h0 A16 c17 e19 i32 r14 x31 A264 c265 y268) (Ex9_2 s0 p0 A0 c0 gl0 h0 A16 c17 e19 i32 r14 x31 A264 c265 y268) r e g' s' → Ev (K e g' s') Q) (fun _ => Q) (kBody E 9 n [.b, .b, .b, .b, .a, .b, .a, .a, .b, .b, .a, .a, .b, .b, .b, .b, .b, .b, .a, .a] g s379 K) := by
  obtain ⟨y273, x278⟩ := t
  obtain ⟨A274, c275, e276, rfl, C380⟩ := h
  rw [e9_body1 n]
  unfold pb9_2
  refine Rf.gen fun H Q hH hQ => ?_
  try dsimp only
  refine Rf.ite ?_ ?_
  · refine Rf.asSl ?_
    refine Rf.elt (r := (rI .i64)) (C380.srG m0) rfl fun x382 i383 o384 c385 r386 h387 => ?_
    obtain rfl := rI_elim r386
    refine Rf.ldI (h387.at 0 rfl) ?_
    refine Rf.callO 0 C380 rfl (t21 n y273 x382 s379 (C380.gl rfl gl0) (C380.give m0 rfl)) ?_
    rintro r389 _ s390 ⟨A391, c392, e394, rfl, h393⟩ h397
    have C398 : Cx s0.next [] [] s0 s390 [(i32, AObj.box 32 [(Value.int .i64 0), (Value.int .i64 0)])] [(On.mk (rI .u8) r389 A391 c392 5 false e394), (On.mk (rP rS (rP (rI .i64) (rI .i64))) r14 A16 c17 49 false e19)] [(Fa.sr (rI .i64) A264 c265 y268)] := h397 _ h393
    refine (Rf.asSl ?_)
    subst hH; subst hQ
    exact Rf.leaf fun h => h _ _ _ ⟨rfl, _, _, _, rfl, (C398.sub (List.Sublist.refl _) (List.Sublist.refl _) (List.Sublist.refl _))⟩
  · subst hH; subst hQ
    exact Rf.leaf fun h => h _ _ _ ⟨_, _, _, rfl, rfl, (C380.sub (List.Sublist.refl _) (List.Sublist.refl _) (List.Sublist.refl _))⟩
abbrev Inv9_1 (s0 : St) (p0 : (List (Int × Int × Int))) (A0 : Option Addr) (c0 : Nat) (gl0 : GlobOk s0) (h0 : Sr (rP (rI .i64) (rP (rI .i64) (rI .i64))) s0 A0 c0 p0) (A16 : Option Addr) (c17 : Nat) (e19 : Nat) (i32 : Nat) (r14 : (List (ByteArray × Int × Int))) (t : ((List Int) × Int)) (g : Regs) (s : St) : Prop := ∃ (A28 : Option Addr) (c29 : Nat) (e30 : Nat), g = (rg 100 [(3, (Value.pointer (some ⟨i32, 0, none⟩))), (4, (Value.slice A28 (t.1).length c29)), (5, (Value.slice A16 (r14).length c17)), (16, (Value.slice A0 (p0).length c0)), (17, (Value.int .i64 ((p0).length : Nat))), (18, (Value.int .i64 t.2))]) ∧ Cx s0.next [] [] s0 s [(i32, AObj.box 32 [(Value.int .i64 0), (Value.int .i64 0)])] [(On.mk (rI .u8) t.1 A28 c29 5 false e30), (On.mk (rP rS (rP (rI .i64) (rI .i64))) r14 A16 c17 49 false e19)] []
abbrev Ex9_1 (s0 : St) (p0 : (List (Int × Int × Int))) (A0 : Option Addr) (c0 : Nat) (gl0 : GlobOk s0) (h0 : Sr (rP (rI .i64) (rP (rI .i64) (rI .i64))) s0 A0 c0 p0) (A16 : Option Addr) (c17 : Nat) (e19 : Nat) (i32 : Nat) (r14 : (List (ByteArray × Int × Int))) (t : (((List Int) × Int) ⊕ (Int × Int))) (e : X) (g : Regs) (s : St) : Prop := match t with
  | (.inl t) => ∃ (A511 : Option Addr) (c512 : Nat) (e513 : Nat), e = .exit 0 ∧ g = (rg 100 [(3, (Value.pointer (some ⟨i32, 0, none⟩))), (4, (Value.slice A511 (t.1).length c512)), (5, (Value.slice A16 (r14).length c17)), (16, (Value.slice A0 (p0).length c0)), (17, (Value.int .i64 ((p0).length : Nat))), (18, (Value.int .i64 t.2)), (19, (Value.bool false))]) ∧ Cx s0.next [] [] s0 s [(i32, AObj.box 32 [(Value.int .i64 0), (Value.int .i64 0)])] [(On.mk (rI .u8) t.1 A511 c512 5 false e513), (On.mk (rP rS (rP (rI .i64) (rI .i64))) r14 A16 c17 49 false e19)] []
  | (.inr t) => e = .ret ∧ g = (rg 100 [(2, (Value.slice none 0 0)), (3, (Value.pointer (some ⟨i32, 0, none⟩)))]) ∧ Cx s0.next [] [] s0 s [(i32, AObj.box 32 [(Value.int .i64 t.1), (Value.int .i64 t.2)])] [] []
theorem x9_1 (s0 : St) (p0 : (List (Int × Int × Int))) (A0 : Option Addr) (c0 : Nat) (gl0 : GlobOk s0) (h0 : Sr (rP (rI .i64) (rP (rI .i64) (rI .i64))) s0 A0 c0 p0) (A16 : Option Addr) (c17 : Nat) (e19 : Nat) (i32 : Nat) (r14 : (List (ByteArray × Int × Int))) (t : (((List Int) × Int) ⊕ (Int × Int))) (e : X) (g : Regs) (s : St) (h : Ex9_1 s0 p0 A0 c0 gl0 h0 A16 c17 e19 i32 r14 t e g s) : e ≠ .normal := by
  rcases t with t | t
  · obtain ⟨_, _, _, h, _⟩ := h
    rw [h]; intro hh; cases hh
  · obtain ⟨h, _⟩ := h
    rw [h]; intro hh; cases hh
def pb9_1 (n : Nat) (p0 : (List (Int × Int × Int))) (r14 : (List (ByteArray × Int × Int))) (t : ((List Int) × Int)) : Option (((List Int) × Int) ⊕ (((List Int) × Int) ⊕ (Int × Int))) :=
  (if (decide ((t.2 : Int) < ((p0).length : Nat))) then ((rd p0 t.2 (fun x136 => ((p18 n x136.1 ((r14).length : Nat)).bind fun r165 => (if (!r165) then ((p20 n 5 t.2).bind fun r170 => ((((some (.inr (.inr (r170.1, r170.2)))))))) else ((rd r14 x136.1 (fun x181 => (p19 n (x181.1, x181.2.1, x181.2.2)).bind fun r202 => (pj (fun (b229 : Bool) => if b229 then ((p20 n 4 t.2).bind fun r232 => ((((some (.inr (.inr (r232.1, r232.2)))))))) else ((apP 1 t.1 [(IntKind.wrap .u8 x136.1)] (fun y249 => (slP [x136.2.1, x136.2.2] 0 r202 (fun y268 => ((loopP (pb9_2 n y268) n ((t.1 ++ [(IntKind.wrap .u8 x136.1)]), 0)).bind fun t406 => (some (.inl (t406.1, (IntKind.wrap .i64 (t.2 + 1)))))))))))) (fun J228 => if (decide ((x136.2.1 : Int) < 0)) then ((J228 true)) else (if (decide ((x136.2.2 : Int) < 0)) then ((J228 true)) else (if (decide ((x136.2.1 : Int) > 16000)) then ((J228 true)) else (if (decide ((x136.2.2 : Int) > 16000)) then ((J228 true)) else (if (decide ((r202 : Int) < 2)) then (if ((x136.2.2 : Int) != 0) then ((J228 true)) else (if (decide ((r202 : Int) < 1)) then ((J228 ((x136.2.1 : Int) != 0))) else ((J228 false)))) else (if (decide ((r202 : Int) < 1)) then ((J228 ((x136.2.1 : Int) != 0))) else ((J228 false))))))))))))))))) else (((some (.inr (.inl (t.1, t.2)))))))
theorem b9_1 (n : Nat) (s0 : St) (p0 : (List (Int × Int × Int))) (A0 : Option Addr) (c0 : Nat) (gl0 : GlobOk s0) (h0 : Sr (rP (rI .i64) (rP (rI .i64) (rI .i64))) s0 A0 c0 p0) (A16 : Option Addr) (c17 : Nat) (e19 : Nat) (i32 : Nat) (r14 : (List (ByteArray × Int × Int))) (t : ((List Int) × Int)) (g : Regs) (s133 : St) (K : Kont) (Q : Out → St → Prop) (h : Inv9_1 s0 p0 A0 c0 gl0 h0 A16 c17 e19 i32 r14 t g s133) :
    Rf (pb9_1 n p0 r14 t) (fun r => ∀ e g' s', LK (Inv9_1 s0 p0 A0 c0 gl0 h0 A16 c17 e19 i32 r14) (Ex9_1 s0 p0 A0 c0 gl0 h0 A16 c17 e19 i32 r14) r e g' s' → Ev (K e g' s') Q) (fun _ => Q) (kBody E 9 n [.b, .b, .b, .b, .a, .b, .a, .a] g s133 K) := by
  obtain ⟨y27, x31⟩ := t
  obtain ⟨A28, c29, e30, rfl, C134⟩ := h
  rw [e9_body0 n]
  unfold pb9_1
  refine Rf.gen fun H Q hH hQ => ?_
  try dsimp only
  refine Rf.ite ?_ ?_
  · refine Rf.elt (r := (rP (rI .i64) (rP (rI .i64) (rI .i64)))) (C134.sr0 rfl h0) rfl fun x136 i137 o138 c139 r140 h141 => ?_
    obtain ⟨c146, c147, rfl, r148, r149⟩ := rP_elim r140
    obtain rfl := rI_elim r148
    obtain ⟨c150, c151, rfl, r152, r153⟩ := rP_elim r149
    obtain rfl := rI_elim r152
    obtain rfl := rI_elim r153
    refine Rf.ldI (h141.at 0 rfl) ?_
    refine Rf.ldI (h141.at 1 rfl) ?_
    refine Rf.ldI (h141.at 2 rfl) ?_
    refine Rf.new C134 fun s157 (C158 : Cx s0.next [] [] s0 s157 [(s133.next, AObj.box 40 [(Value.int .i64 0), (Value.int .i64 0), (Value.int .i64 0)]), (i32, AObj.box 32 [(Value.int .i64 0), (Value.int .i64 0)])] [(On.mk (rI .u8) y27 A28 c29 5 false e30), (On.mk (rP rS (rP (rI .i64) (rI .i64))) r14 A16 c17 49 false e19)] []) => ?_
    refine Rf.sto 0 C158 rfl (by simp) rfl fun s160 (C161 : Cx s0.next [] [] s0 s160 [(s133.next, AObj.box 40 [(Value.int .i64 x136.1), (Value.int .i64 x136.2.1), (Value.int .i64 x136.2.2)]), (i32, AObj.box 32 [(Value.int .i64 0), (Value.int .i64 0)])] [(On.mk (rI .u8) y27 A28 c29 5 false e30), (On.mk (rP rS (rP (rI .i64) (rI .i64))) r14 A16 c17 49 false e19)] []) => ?_
    refine Rf.ldI (C161.at m0 rfl) ?_
    refine Rf.call0 C161 (t18 n x136.1 ((r14).length : Nat) s160 (C161.gl rfl gl0)) ?_
    rintro r165 _ s166 rfl h168
    have C169 : Cx s0.next [] [] s0 s166 [(s133.next, AObj.box 40 [(Value.int .i64 x136.1), (Value.int .i64 x136.2.1), (Value.int .i64 x136.2.2)]), (i32, AObj.box 32 [(Value.int .i64 0), (Value.int .i64 0)])] [(On.mk (rI .u8) y27 A28 c29 5 false e30), (On.mk (rP rS (rP (rI .i64) (rI .i64))) r14 A16 c17 49 false e19)] [] := h168 [] (by simp) List.Pairwise.nil
    refine (Rf.asB ?_)
    refine Rf.ite ?_ ?_
    · refine Rf.call0 C169 (t20 n 5 x31 s166 (C169.gl rfl gl0)) ?_
      rintro r170 _ s171 rfl h174
      have C175 : Cx s0.next [] [] s0 s171 [(s133.next, AObj.box 40 [(Value.int .i64 x136.1), (Value.int .i64 x136.2.1), (Value.int .i64 x136.2.2)]), (i32, AObj.box 32 [(Value.int .i64 0), (Value.int .i64 0)])] [(On.mk (rI .u8) y27 A28 c29 5 false e30), (On.mk (rP rS (rP (rI .i64) (rI .i64))) r14 A16 c17 49 false e19)] [] := h174 [] (by simp) List.Pairwise.nil
      refine (Rf.asAgg (Rf.unc (Rf.asI (Rf.unc (Rf.asI (Rf.unn ?_))))))
      refine Rf.sto 1 C175 rfl (by simp) rfl fun s176 (C177 : Cx s0.next [] [] s0 s176 [(s133.next, AObj.box 40 [(Value.int .i64 x136.1), (Value.int .i64 x136.2.1), (Value.int .i64 x136.2.2)]), (i32, AObj.box 32 [(Value.int .i64 r170.1), (Value.int .i64 r170.2)])] [(On.mk (rI .u8) y27 A28 c29 5 false e30), (On.mk (rP rS (rP (rI .i64) (rI .i64))) r14 A16 c17 49 false e19)] []) => ?_
      subst hH; subst hQ
      exact Rf.leaf fun h => h _ _ _ ⟨rfl, rfl, (C177.sub (List.Sublist.cons _ (List.Sublist.cons_cons _ List.Sublist.slnil)) (List.Sublist.cons _ (List.Sublist.cons _ List.Sublist.slnil)) (List.Sublist.refl _))⟩
    · refine Rf.ldI (C169.at m0 rfl) ?_
      refine Rf.elt (r := (rP rS (rP (rI .i64) (rI .i64)))) (C169.srB m1) rfl fun x181 i182 o183 c184 r185 h186 => ?_
      obtain ⟨c191, c192, rfl, r193, r194⟩ := rP_elim r185
      obtain rfl := rS_elim r193
      obtain ⟨c195, c196, rfl, r197, r198⟩ := rP_elim r194
      obtain rfl := rI_elim r197
      obtain rfl := rI_elim r198
      refine Rf.ldS (h186.at 0 rfl) ?_
      refine Rf.ldI (h186.at 1 rfl) ?_
      refine Rf.ldI (h186.at 2 rfl) ?_
      refine Rf.call0 C169 (t19 n (x181.1, x181.2.1, x181.2.2) s166 (C169.gl rfl gl0)) ?_
      rintro r202 _ s203 rfl h205
      have C206 : Cx s0.next [] [] s0 s203 [(s133.next, AObj.box 40 [(Value.int .i64 x136.1), (Value.int .i64 x136.2.1), (Value.int .i64 x136.2.2)]), (i32, AObj.box 32 [(Value.int .i64 0), (Value.int .i64 0)])] [(On.mk (rI .u8) y27 A28 c29 5 false e30), (On.mk (rP rS (rP (rI .i64) (rI .i64))) r14 A16 c17 49 false e19)] [] := h205 [] (by simp) List.Pairwise.nil
      refine (Rf.asI ?_)
      refine Rf.pj fun J228 J228' hJ228 hJ228' => ?_
      have J228h : ∀ (b229 : Bool) (_ : Cx s0.next [] [] s0 s203 [(s133.next, AObj.box 40 [(Value.int .i64 x136.1), (Value.int .i64 x136.2.1), (Value.int .i64 x136.2.2)]), (i32, AObj.box 32 [(Value.int .i64 0), (Value.int .i64 0)])] [(On.mk (rI .u8) y27 A28 c29 5 false e30), (On.mk (rP rS (rP (rI .i64) (rI .i64))) r14 A16 c17 49 false e19)] []), Rf (J228 b229) H Q (J228' b229) := by
        subst hJ228
        subst hJ228'
        intro b229 C231
        refine Rf.ite ?_ ?_
        · refine Rf.call0 C231 (t20 n 4 x31 s203 (C231.gl rfl gl0)) ?_
          rintro r232 _ s233 rfl h236
          have C237 : Cx s0.next [] [] s0 s233 [(s133.next, AObj.box 40 [(Value.int .i64 x136.1), (Value.int .i64 x136.2.1), (Value.int .i64 x136.2.2)]), (i32, AObj.box 32 [(Value.int .i64 0), (Value.int .i64 0)])] [(On.mk (rI .u8) y27 A28 c29 5 false e30), (On.mk (rP rS (rP (rI .i64) (rI .i64))) r14 A16 c17 49 false e19)] [] := h236 [] (by simp) List.Pairwise.nil
          refine (Rf.asAgg (Rf.unc (Rf.asI (Rf.unc (Rf.asI (Rf.unn ?_))))))
          refine Rf.sto 1 C237 rfl (by simp) rfl fun s238 (C239 : Cx s0.next [] [] s0 s238 [(s133.next, AObj.box 40 [(Value.int .i64 x136.1), (Value.int .i64 x136.2.1), (Value.int .i64 x136.2.2)]), (i32, AObj.box 32 [(Value.int .i64 r232.1), (Value.int .i64 r232.2)])] [(On.mk (rI .u8) y27 A28 c29 5 false e30), (On.mk (rP rS (rP (rI .i64) (rI .i64))) r14 A16 c17 49 false e19)] []) => ?_
          subst hH; subst hQ
          exact Rf.leaf fun h => h _ _ _ ⟨rfl, rfl, (C239.sub (List.Sublist.cons _ (List.Sublist.cons_cons _ List.Sublist.slnil)) (List.Sublist.cons _ (List.Sublist.cons _ List.Sublist.slnil)) (List.Sublist.refl _))⟩
        · refine Rf.ldI (C231.at m0 rfl) ?_
          refine Rf.newR (r := (rI .u8)) (xs := [(IntKind.wrap .u8 x136.1)]) C231 rfl (many.cons (c := [(Value.int .u8 (IntKind.wrap .u8 x136.1))]) rI_mk many.nil) fun s243 (C244 : Cx s0.next [] [] s0 s243 [(s133.next, AObj.box 40 [(Value.int .i64 x136.1), (Value.int .i64 x136.2.1), (Value.int .i64 x136.2.2)]), (i32, AObj.box 32 [(Value.int .i64 0), (Value.int .i64 0)])] [(On.mk (rI .u8) [(IntKind.wrap .u8 x136.1)] (some ⟨s203.next, 0, none⟩) 1 5 false s203.next), (On.mk (rI .u8) y27 A28 c29 5 false e30), (On.mk (rP rS (rP (rI .i64) (rI .i64))) r14 A16 c17 49 false e19)] []) => ?_
          refine Rf.kapp 1 C244 rfl rfl (by decide) (by decide) (Ap.sr u30 rfl (C244.srB m0)) fun A246 c247 e248 s251 (C252 : Cx s0.next [] [] s0 s251 [(s133.next, AObj.box 40 [(Value.int .i64 x136.1), (Value.int .i64 x136.2.1), (Value.int .i64 x136.2.2)]), (i32, AObj.box 32 [(Value.int .i64 0), (Value.int .i64 0)])] [(On.mk (rI .u8) [(IntKind.wrap .u8 x136.1)] (some ⟨s203.next, 0, none⟩) 1 5 false s203.next), (On.mk (rI .u8) (y27 ++ [(IntKind.wrap .u8 x136.1)]) A246 c247 5 false e248), (On.mk (rP rS (rP (rI .i64) (rI .i64))) r14 A16 c17 49 false e19)] []) => ?_
          have C253 : Cx s0.next [] [] s0 s251 [(s133.next, AObj.box 40 [(Value.int .i64 x136.1), (Value.int .i64 x136.2.1), (Value.int .i64 x136.2.2)]), (i32, AObj.box 32 [(Value.int .i64 0), (Value.int .i64 0)])] [(On.mk (rI .u8) (y27 ++ [(IntKind.wrap .u8 x136.1)]) A246 c247 5 false e248), (On.mk (rP rS (rP (rI .i64) (rI .i64))) r14 A16 c17 49 false e19)] [] := C252.sub (List.Sublist.refl _) (List.Sublist.cons _ (List.Sublist.cons_cons _ (List.Sublist.cons_cons _ List.Sublist.slnil))) (List.Sublist.refl _)
          refine Rf.ldI (C253.at m0 rfl) ?_
          refine Rf.ldI (C253.at m0 rfl) ?_
          refine Rf.newR (r := (rI .i64)) (xs := [x136.2.1, x136.2.2]) C253 rfl (many.cons (c := [(Value.int .i64 x136.2.1)]) rI_mk (many.cons (c := [(Value.int .i64 x136.2.2)]) rI_mk many.nil)) fun s261 (C262 : Cx s0.next [] [] s0 s261 [(s133.next, AObj.box 40 [(Value.int .i64 x136.1), (Value.int .i64 x136.2.1), (Value.int .i64 x136.2.2)]), (i32, AObj.box 32 [(Value.int .i64 0), (Value.int .i64 0)])] [(On.mk (rI .i64) [x136.2.1, x136.2.2] (some ⟨s251.next, 0, none⟩) 2 3 false s251.next), (On.mk (rI .u8) (y27 ++ [(IntKind.wrap .u8 x136.1)]) A246 c247 5 false e248), (On.mk (rP rS (rP (rI .i64) (rI .i64))) r14 A16 c17 49 false e19)] []) => ?_
          refine Rf.ksl (r := (rI .i64)) u53 (by kernel_rfl) (C262.srB m0) rfl rfl fun y268 A264 c265 h266 => ?_
          have C269 := C262.add (Fa.sr (rI .i64) A264 c265 y268) h266
          refine Rf.asSl ?_
          refine Rf.loop (Inv := Inv9_2 s0 p0 A0 c0 gl0 h0 A16 c17 e19 i32 r14 x31 A264 c265 y268) (Ex := Ex9_2 s0 p0 A0 c0 gl0 h0 A16 c17 e19 i32 r14 x31 A264 c265 y268) (x9_2 s0 p0 A0 c0 gl0 h0 A16 c17 e19 i32 r14 x31 A264 c265 y268) (fun t g s K Q h => b9_2 n s0 p0 A0 c0 gl0 h0 A16 c17 e19 i32 r14 x31 A264 c265 y268 t g s K Q h) n _ _ _ ⟨_, _, _, rfl, (C269.sub (List.Sublist.cons _ (List.Sublist.cons_cons _ List.Sublist.slnil)) (List.Sublist.cons _ (List.Sublist.cons_cons _ (List.Sublist.cons_cons _ List.Sublist.slnil))) (List.Sublist.refl _))⟩ ?_
          intro t406 e g s507 h
          obtain ⟨A401, c402, e403, rfl, rfl, C508⟩ := h
          rw [e9_after1_exit2 n]
          subst hH; subst hQ
          exact Rf.leaf fun h => h _ _ _ ⟨rfl, _, _, _, rfl, (C508.sub (List.Sublist.refl _) (List.Sublist.refl _) (List.Sublist.cons _ List.Sublist.slnil))⟩
      clear hJ228 hJ228'
      refine Rf.ldI (C206.at m0 rfl) ?_
      refine Rf.ite ?_ ?_
      · exact J228h true (C206.sub (List.Sublist.refl _) (List.Sublist.refl _) (List.Sublist.refl _))
      · refine Rf.ldI (C206.at m0 rfl) ?_
        refine Rf.ite ?_ ?_
        · exact J228h true (C206.sub (List.Sublist.refl _) (List.Sublist.refl _) (List.Sublist.refl _))
        · refine Rf.ldI (C206.at m0 rfl) ?_
          refine Rf.ite ?_ ?_
          · exact J228h true (C206.sub (List.Sublist.refl _) (List.Sublist.refl _) (List.Sublist.refl _))
          · refine Rf.ldI (C206.at m0 rfl) ?_
            refine Rf.ite ?_ ?_
            · exact J228h true (C206.sub (List.Sublist.refl _) (List.Sublist.refl _) (List.Sublist.refl _))
            · refine Rf.ite ?_ ?_
              · refine Rf.ldI (C206.at m0 rfl) ?_
                refine Rf.ite ?_ ?_
                · exact J228h true (C206.sub (List.Sublist.refl _) (List.Sublist.refl _) (List.Sublist.refl _))
                · refine Rf.ite ?_ ?_
                  · refine Rf.ldI (C206.at m0 rfl) ?_
                    exact J228h ((x136.2.1 : Int) != 0) (C206.sub (List.Sublist.refl _) (List.Sublist.refl _) (List.Sublist.refl _))
                  · exact J228h false (C206.sub (List.Sublist.refl _) (List.Sublist.refl _) (List.Sublist.refl _))
              · refine Rf.ite ?_ ?_
                · refine Rf.ldI (C206.at m0 rfl) ?_
                  exact J228h ((x136.2.1 : Int) != 0) (C206.sub (List.Sublist.refl _) (List.Sublist.refl _) (List.Sublist.refl _))
                · exact J228h false (C206.sub (List.Sublist.refl _) (List.Sublist.refl _) (List.Sublist.refl _))
  · subst hH; subst hQ
    exact Rf.leaf fun h => h _ _ _ ⟨_, _, _, rfl, rfl, (C134.sub (List.Sublist.refl _) (List.Sublist.refl _) (List.Sublist.refl _))⟩
abbrev P9 (N : Nat) (X : List Nat) (r : ((List Int) × (Int × Int))) (v : Value) (s : St) : Prop := ∃ (A0 : Option Addr) (c0 : Nat) (e0 : Nat), v = (Value.tuple #[(Value.slice A0 (r.1).length c0), (Value.agg #[(Value.int .i64 r.2.1), (Value.int .i64 r.2.2)])]) ∧ (On.mk (rI .u8) r.1 A0 c0 5 false e0).holds N X s
def p9 : Nat → (List (Int × Int × Int)) → Option ((List Int) × (Int × Int))
  | 0, _ => none
  | n + 1, p0 => ((if (decide ((((p0).length : Nat) : Int) > 60000)) then ((p20 n 2 (-1)).bind fun r4 => ((some ((([] : (List Int)), (r4.1, r4.2)) : ((List Int) × (Int × Int)))))) else ((((p17 n).bind fun r14 => (((loopP (pb9_1 n p0 r14) n (([] : List Int), 0)).bind fun t729 => match t729 with | (.inl t517) => ((some ((t517.1, (0, 0)) : ((List Int) × (Int × Int))))) | (.inr t624) => (some ((([] : (List Int)), (t624.1, t624.2)) : ((List Int) × (Int × Int)))))))))))
theorem t9 (k : Nat) (p0 : (List (Int × Int × Int))) (s0 : St) {A0 : Option Addr} {c0 : Nat} (gl0 : GlobOk s0) (h0 : Sr (rP (rI .i64) (rP (rI .i64) (rI .i64))) s0 A0 c0 p0) :
    Rf (p9 k p0) (fun _ => True) (fun r => RtC s0.next [] [] s0 (P9 s0.next [] r)) (acall E k 9 [(Value.slice A0 (p0).length c0)] s0) := by
  cases k with
  | zero => exact Rf.none
  | succ n =>
    rw [e9 n]
    rw [p9]
    refine Rf.gen fun H Q hH hQ => ?_
    have C0 : Cx s0.next [] [] s0 s0 [] [] [] := Cx.start s0
    refine Rf.new C0 fun s1 (C2 : Cx s0.next [] [] s0 s1 [(s0.next, AObj.box 32 [(Value.int .i64 0), (Value.int .i64 0)])] [] []) => ?_
    refine Rf.ite ?_ ?_
    · refine Rf.call0 C2 (t20 n 2 (-1) s1 (C2.gl rfl gl0)) ?_
      rintro r4 _ s5 rfl h8
      have C9 : Cx s0.next [] [] s0 s5 [(s0.next, AObj.box 32 [(Value.int .i64 0), (Value.int .i64 0)])] [] [] := h8 [] (by simp) List.Pairwise.nil
      refine (Rf.asAgg (Rf.unc (Rf.asI (Rf.unc (Rf.asI (Rf.unn ?_))))))
      refine Rf.sto 0 C9 rfl (by simp) rfl fun s10 (C11 : Cx s0.next [] [] s0 s10 [(s0.next, AObj.box 32 [(Value.int .i64 r4.1), (Value.int .i64 r4.2)])] [] []) => ?_
      refine Rf.ldI (C11.at m0 rfl) ?_
      refine Rf.ldI (C11.at m0 rfl) ?_
      subst hH; subst hQ
      exact Rf.leaf fun _ => Ev.done (Rf.ret C11 ⟨none, 0, 0, rfl, .inl ⟨rfl, rfl, rfl⟩⟩)
    · refine Rf.call0 C2 (t17 n s1 (C2.gl rfl gl0)) ?_
      rintro r14 _ s15 ⟨A16, c17, e19, rfl, h18⟩ h22
      have C23 : Cx s0.next [] [] s0 s15 [(s0.next, AObj.box 32 [(Value.int .i64 0), (Value.int .i64 0)])] [(On.mk (rP rS (rP (rI .i64) (rI .i64))) r14 A16 c17 49 false e19)] [] := h22 [(On.mk (rP rS (rP (rI .i64) (rI .i64))) r14 A16 c17 49 false e19)] (by simpa using h18) (List.pairwise_singleton _ _)
      refine (Rf.asSl ?_)
      have C24 : Cx s0.next [] [] s0 s15 [(s0.next, AObj.box 32 [(Value.int .i64 0), (Value.int .i64 0)])] [(On.mk (rI .u8) ([] : List Int) none 0 5 false 0), (On.mk (rP rS (rP (rI .i64) (rI .i64))) r14 A16 c17 49 false e19)] [] := C23.addNil (rI .u8) 5
      refine Rf.loop (Inv := Inv9_1 s0 p0 A0 c0 gl0 h0 A16 c17 e19 s0.next r14) (Ex := Ex9_1 s0 p0 A0 c0 gl0 h0 A16 c17 e19 s0.next r14) (x9_1 s0 p0 A0 c0 gl0 h0 A16 c17 e19 s0.next r14) (fun t g s K Q h => b9_1 n s0 p0 A0 c0 gl0 h0 A16 c17 e19 s0.next r14 t g s K Q h) n _ _ _ ⟨_, _, _, rfl, (C24.sub (List.Sublist.refl _) (List.Sublist.refl _) (List.Sublist.refl _))⟩ ?_
      intro t e g s h
      rcases t with t517 | t624
      · generalize s = s618 at h ⊢
        obtain ⟨A511, c512, e513, rfl, rfl, C619⟩ := h
        rw [e9_after0_exit0 n]
        refine Rf.sto 0 C619 rfl (by simp) rfl fun s620 (C621 : Cx s0.next [] [] s0 s620 [(s0.next, AObj.box 32 [(Value.int .i64 0), (Value.int .i64 0)])] [(On.mk (rI .u8) t517.1 A511 c512 5 false e513), (On.mk (rP rS (rP (rI .i64) (rI .i64))) r14 A16 c17 49 false e19)] []) => ?_
        refine Rf.ldI (C621.at m0 rfl) ?_
        refine Rf.ldI (C621.at m0 rfl) ?_
        subst hH; subst hQ
        exact Rf.leaf fun _ => Ev.done (Rf.ret C621 ⟨_, _, _, rfl, C621.own _ m0⟩)
      · generalize s = s725 at h ⊢
        obtain ⟨rfl, rfl, C726⟩ := h
        rw [e9_after0_ret n]
        refine Rf.ldI (C726.at m0 rfl) ?_
        refine Rf.ldI (C726.at m0 rfl) ?_
        subst hH; subst hQ
        exact Rf.leaf fun _ => Ev.done (Rf.ret C726 ⟨none, 0, 0, rfl, .inl ⟨rfl, rfl, rfl⟩⟩)
-- 10 "brindlewood/brindlewoodref7.Encoded"
abbrev Inv10_2 (s0 : St) (p0 : (List (Int × Int × Int))) (A0 : Option Addr) (c0 : Nat) (gl0 : GlobOk s0) (h0 : Sr (rP (rI .i64) (rP (rI .i64) (rI .i64))) s0 A0 c0 p0) (i42 : Nat) (x41 : Int) (A206 : Option Addr) (e207 : Nat) (i205 : Nat) (x129 : (Int × Int × Int)) (t : ((List ByteArray) × (List Int) × Int)) (g : Regs) (s : St) : Prop := ∃ (A196 : Option Addr) (c197 : Nat) (A201 : Option Addr) (c202 : Nat) (e203 : Nat), g = (rg 83 [(3, (Value.pointer (some ⟨i42, 0, none⟩))), (5, (Value.slice A196 (t.1).length c197)), (6, (Value.slice A201 (t.2.1).length c202)), (7, (Value.int .i64 x41)), (8, (Value.pointer (some ⟨i205, 0, none⟩))), (20, (Value.slice A0 (p0).length c0)), (21, (Value.int .i64 ((p0).length : Nat))), (22, (Value.int .i64 x41)), (46, (Value.slice A206 ([x129.2.1, x129.2.2]).length 2)), (47, (Value.int .i64 (([x129.2.1, x129.2.2]).length : Nat))), (48, (Value.int .i64 t.2.2))]) ∧ Cx s0.next [] [] s0 s [(i205, AObj.box 40 [(Value.int .i64 x129.1), (Value.int .i64 x129.2.1), (Value.int .i64 x129.2.2)]), (i42, AObj.box 32 [(Value.int .i64 0), (Value.int .i64 0)])] [(On.mk (rI .i64) [x129.2.1, x129.2.2] A206 2 3 false e207), (On.mk (rI .u8) t.2.1 A201 c202 5 false e203)] [(Fa.sr rS A196 c197 t.1)]
abbrev Ex10_2 (s0 : St) (p0 : (List (Int × Int × Int))) (A0 : Option Addr) (c0 : Nat) (gl0 : GlobOk s0) (h0 : Sr (rP (rI .i64) (rP (rI .i64) (rI .i64))) s0 A0 c0 p0) (i42 : Nat) (x41 : Int) (A206 : Option Addr) (e207 : Nat) (i205 : Nat) (x129 : (Int × Int × Int)) (t : (((List ByteArray) × (List Int) × Int) ⊕ (Int × Int))) (e : X) (g : Regs) (s : St) : Prop := match t with
  | (.inl t) => ∃ (A361 : Option Addr) (c362 : Nat) (A366 : Option Addr) (c367 : Nat) (e368 : Nat), e = .exit 2 ∧ g = (rg 83 [(3, (Value.pointer (some ⟨i42, 0, none⟩))), (5, (Value.slice A361 (t.1).length c362)), (6, (Value.slice A366 (t.2.1).length c367)), (7, (Value.int .i64 x41)), (8, (Value.pointer (some ⟨i205, 0, none⟩))), (20, (Value.slice A0 (p0).length c0)), (21, (Value.int .i64 ((p0).length : Nat))), (22, (Value.int .i64 x41)), (46, (Value.slice A206 ([x129.2.1, x129.2.2]).length 2)), (47, (Value.int .i64 (([x129.2.1, x129.2.2]).length : Nat))), (48, (Value.int .i64 t.2.2)), (49, (Value.bool false))]) ∧ Cx s0.next [] [] s0 s [(i205, AObj.box 40 [(Value.int .i64 x129.1), (Value.int .i64 x129.2.1), (Value.int .i64 x129.2.2)]), (i42, AObj.box 32 [(Value.int .i64 0), (Value.int .i64 0)])] [(On.mk (rI .i64) [x129.2.1, x129.2.2] A206 2 3 false e207), (On.mk (rI .u8) t.2.1 A366 c367 5 false e368)] [(Fa.sr rS A361 c362 t.1)]
  | (.inr t) => e = .ret ∧ g = (rg 83 [(2, (Value.slice none 0 0)), (3, (Value.pointer (some ⟨i42, 0, none⟩)))]) ∧ Cx s0.next [] [] s0 s [(i42, AObj.box 32 [(Value.int .i64 t.1), (Value.int .i64 t.2)])] [] []
theorem x10_2 (s0 : St) (p0 : (List (Int × Int × Int))) (A0 : Option Addr) (c0 : Nat) (gl0 : GlobOk s0) (h0 : Sr (rP (rI .i64) (rP (rI .i64) (rI .i64))) s0 A0 c0 p0) (i42 : Nat) (x41 : Int) (A206 : Option Addr) (e207 : Nat) (i205 : Nat) (x129 : (Int × Int × Int)) (t : (((List ByteArray) × (List Int) × Int) ⊕ (Int × Int))) (e : X) (g : Regs) (s : St) (h : Ex10_2 s0 p0 A0 c0 gl0 h0 i42 x41 A206 e207 i205 x129 t e g s) : e ≠ .normal := by
  rcases t with t | t
  · obtain ⟨_, _, _, _, _, h, _⟩ := h
    rw [h]; intro hh; cases hh
  · obtain ⟨h, _⟩ := h
    rw [h]; intro hh; cases hh
def pb10_2 (n : Nat)  (x41 : Int) (x129 : (Int × Int × Int)) (t : ((List ByteArray) × (List Int) × Int)) : Option (((List ByteArray) × (List Int) × Int) ⊕ (((List ByteArray) × (List Int) × Int) ⊕ (Int × Int))) :=
  (if (decide ((t.2.2 : Int) < (([x129.2.1, x129.2.2]).length : Nat))) then ((pj (fun (y351 : (List Int)) => (some (.inl (t.1, y351, (IntKind.wrap .i64 (t.2.2 + 1)))))) (fun J348 => rd [x129.2.1, x129.2.2] t.2.2 (fun x294 => (rd t.1 x129.1 (fun x304 => (pj (fun (b318 : Bool) => if b318 then ((p22 n 4 x41).bind fun r322 => ((((some (.inr (.inr (r322.1, r322.2)))))))) else (((if (decide ((t.2.2 : Int) < (x304.size : Nat))) then ((p24 n x294).bind fun r330 => apP 1 t.2.1 r330 (fun y343 => (J348 (t.2.1 ++ r330)))) else ((J348 t.2.1)))))) (fun J316 => (p23 n x294 0 16000).bind fun r311 => if (!r311) then ((J316 true)) else (if (!(decide ((t.2.2 : Int) < (x304.size : Nat)))) then ((J316 ((x294 : Int) != 0))) else ((J316 false))))))))))) else (((some (.inr (.inl (t.1, t.2.1, t.2.2)))))))
theorem b10_2 (n : Nat) (s0 : St) (p0 : (List (Int × Int × Int))) (A0 : Option Addr) (c0 : Nat) (gl0 : GlobOk s0) (h0 : Sr (rP (rI .i64) (rP (rI .i64) (rI .i64))) s0 A0 c0 p0) (i42 : Nat) (x41 : Int) (A206 : Option Addr) (e207 : Nat) (i205 : Nat) (x129 : (Int × Int × Int)) (t : ((List ByteArray) × (List Int) × Int)) (g : Regs) (s291 : St) (K : Kont) (Q : Out → St → Prop) (h : Inv10_2 s0 p0 A0 c0 gl0 h0 i42 x41 A206 e207 i205 x129 t g s291) :
    Rf (pb10_2 n x41 x129 t) (fun r => ∀ e g' s', LK (Inv10_2 s0 p0 A0 c0 gl0 h0 i42 x41 A206 e207 i205 x129) (Ex10_2 s0 p0 A0 c0 gl0 h0 i42 x41 A206 e207 i205 x129) r e g' s' → Ev (K e g' s') Q) (fun _ => Q) (kBody E 10 n [.b, .b, .b, .b, .a, .b, .a, .a, .b, .b, .a, .a, .b, .b, .b, .b, .a, .a] g s291 K) := by
  obtain ⟨y198, y200, x204⟩ := t
  obtain ⟨A196, c197, A201, c202, e203, rfl, C292⟩ := h
  rw [e10_body1 n]
  unfold pb10_2
  refine Rf.gen fun H Q hH hQ => ?_
  try dsimp only
  refine Rf.ite ?_ ?_
  · refine Rf.pj fun J348 J348' hJ348 hJ348' => ?_
    have J348h : ∀ (e356 : Value) (e357 : Value) (A352 : Option Addr) (c353 : Nat) (e354 : Nat) (y351 : (List Int)) (s358 : St) (_ : Cx s0.next [] [] s0 s358 [(i205, AObj.box 40 [(Value.int .i64 x129.1), (Value.int .i64 x129.2.1), (Value.int .i64 x129.2.2)]), (i42, AObj.box 32 [(Value.int .i64 0), (Value.int .i64 0)])] [(On.mk (rI .i64) [x129.2.1, x129.2.2] A206 2 3 false e207), (On.mk (rI .u8) y351 A352 c353 5 false e354)] [(Fa.sr rS A196 c197 y198)]), Rf (J348 y351) H Q (J348' (Value.slice A352 (y351).length c353) e356 e357 s358) := by
      subst hJ348
      subst hJ348'
      intro e356 e357 A352 c353 e354 y351 s358 C359
      subst hH; subst hQ
      exact Rf.leaf fun h => h _ _ _ ⟨rfl, _, _, _, _, _, rfl, (C359.sub (List.Sublist.refl _) (List.Sublist.refl _) (List.Sublist.refl _))⟩
    clear hJ348 hJ348'
    refine Rf.elt (r := (rI .i64)) (C292.srB m0) rfl fun x294 i295 o296 c297 r298 h299 => ?_
    obtain rfl := rI_elim r298
    refine Rf.ldI (h299.at 0 rfl) ?_
    refine Rf.ldI (C292.at m0 rfl) ?_
    refine Rf.elt (r := rS) (C292.srG m0) rfl fun x304 i305 o306 c307 r308 h309 => ?_
    obtain rfl := rS_elim r308
    refine Rf.ldS (h309.at 0 rfl) ?_
    refine Rf.pj fun J316 J316' hJ316 hJ316' => ?_
    have J316h : ∀ (b318 : Bool) (s320 : St) (_ : Cx s0.next [] [] s0 s320 [(i205, AObj.box 40 [(Value.int .i64 x129.1), (Value.int .i64 x129.2.1), (Value.int .i64 x129.2.2)]), (i42, AObj.box 32 [(Value.int .i64 0), (Value.int .i64 0)])] [(On.mk (rI .i64) [x129.2.1, x129.2.2] A206 2 3 false e207), (On.mk (rI .u8) y200 A201 c202 5 false e203)] [(Fa.sr rS A196 c197 y198)]), Rf (J316 b318) H Q (J316' b318 s320) := by
      subst hJ316
      subst hJ316'
      intro b318 s320 C321
      refine Rf.ite ?_ ?_
      · refine Rf.call0 C321 (t22 n 4 x41 s320 (C321.gl rfl gl0)) ?_
        rintro r322 _ s323 rfl h326
        have C327 : Cx s0.next [] [] s0 s323 [(i205, AObj.box 40 [(Value.int .i64 x129.1), (Value.int .i64 x129.2.1), (Value.int .i64 x129.2.2)]), (i42, AObj.box 32 [(Value.int .i64 0), (Value.int .i64 0)])] [(On.mk (rI .i64) [x129.2.1, x129.2.2] A206 2 3 false e207), (On.mk (rI .u8) y200 A201 c202 5 false e203)] [(Fa.sr rS A196 c197 y198)] := h326 [] (by simp) List.Pairwise.nil
        refine (Rf.asAgg (Rf.unc (Rf.asI (Rf.unc (Rf.asI (Rf.unn ?_))))))
        refine Rf.sto 1 C327 rfl (by simp) rfl fun s328 (C329 : Cx s0.next [] [] s0 s328 [(i205, AObj.box 40 [(Value.int .i64 x129.1), (Value.int .i64 x129.2.1), (Value.int .i64 x129.2.2)]), (i42, AObj.box 32 [(Value.int .i64 r322.1), (Value.int .i64 r322.2)])] [(On.mk (rI .i64) [x129.2.1, x129.2.2] A206 2 3 false e207), (On.mk (rI .u8) y200 A201 c202 5 false e203)] [(Fa.sr rS A196 c197 y198)]) => ?_
        subst hH; subst hQ
        exact Rf.leaf fun h => h _ _ _ ⟨rfl, rfl, (C329.sub (List.Sublist.cons _ (List.Sublist.cons_cons _ List.Sublist.slnil)) (List.Sublist.cons _ (List.Sublist.cons _ List.Sublist.slnil)) (List.Sublist.cons _ List.Sublist.slnil))⟩
      · refine Rf.ite ?_ ?_
        · refine Rf.call0 C321 (t24 n x294 s320 (C321.gl rfl gl0)) ?_
          rintro r330 _ s331 ⟨A332, c333, e335, rfl, h334⟩ h338
          have C339 : Cx s0.next [] [] s0 s331 [(i205, AObj.box 40 [(Value.int .i64 x129.1), (Value.int .i64 x129.2.1), (Value.int .i64 x129.2.2)]), (i42, AObj.box 32 [(Value.int .i64 0), (Value.int .i64 0)])] [(On.mk (rI .u8) r330 A332 c333 5 false e335), (On.mk (rI .i64) [x129.2.1, x129.2.2] A206 2 3 false e207), (On.mk (rI .u8) y200 A201 c202 5 false e203)] [(Fa.sr rS A196 c197 y198)] := h338 [(On.mk (rI .u8) r330 A332 c333 5 false e335)] (by simpa using h334) (List.pairwise_singleton _ _)
          refine (Rf.asSl ?_)
          refine Rf.kapp 2 C339 rfl rfl (by decide) (by decide) (Ap.sr u30 rfl (C339.srB m0)) fun A340 c341 e342 s345 (C346 : Cx s0.next [] [] s0 s345 [(i205, AObj.box 40 [(Value.int .i64 x129.1), (Value.int .i64 x129.2.1), (Value.int .i64 x129.2.2)]), (i42, AObj.box 32 [(Value.int .i64 0), (Value.int .i64 0)])] [(On.mk (rI .u8) r330 A332 c333 5 false e335), (On.mk (rI .i64) [x129.2.1, x129.2.2] A206 2 3 false e207), (On.mk (rI .u8) (y200 ++ r330) A340 c341 5 false e342)] [(Fa.sr rS A196 c197 y198)]) => ?_
          exact J348h _ _ A340 c341 e342 (y200 ++ r330) _ (C346.sub (List.Sublist.refl _) (List.Sublist.cons _ (List.Sublist.cons_cons _ (List.Sublist.cons_cons _ List.Sublist.slnil))) (List.Sublist.refl _))
        · exact J348h _ _ A201 c202 e203 y200 _ (C321.sub (List.Sublist.refl _) (List.Sublist.refl _) (List.Sublist.refl _))
    clear hJ316 hJ316'
    refine Rf.call0 C292 (t23 n x294 0 16000 s291 (C292.gl rfl gl0)) ?_
    rintro r311 _ s312 rfl h314
    have C315 : Cx s0.next [] [] s0 s312 [(i205, AObj.box 40 [(Value.int .i64 x129.1), (Value.int .i64 x129.2.1), (Value.int .i64 x129.2.2)]), (i42, AObj.box 32 [(Value.int .i64 0), (Value.int .i64 0)])] [(On.mk (rI .i64) [x129.2.1, x129.2.2] A206 2 3 false e207), (On.mk (rI .u8) y200 A201 c202 5 false e203)] [(Fa.sr rS A196 c197 y198)] := h314 [] (by simp) List.Pairwise.nil
    refine (Rf.asB ?_)
    refine Rf.ite ?_ ?_
    · exact J316h true _ (C315.sub (List.Sublist.refl _) (List.Sublist.refl _) (List.Sublist.refl _))
    · refine Rf.ite ?_ ?_
      · exact J316h ((x294 : Int) != 0) _ (C315.sub (List.Sublist.refl _) (List.Sublist.refl _) (List.Sublist.refl _))
      · exact J316h false _ (C315.sub (List.Sublist.refl _) (List.Sublist.refl _) (List.Sublist.refl _))
  · subst hH; subst hQ
    exact Rf.leaf fun h => h _ _ _ ⟨_, _, _, _, _, rfl, rfl, (C292.sub (List.Sublist.refl _) (List.Sublist.refl _) (List.Sublist.refl _))⟩
abbrev Inv10_1 (s0 : St) (p0 : (List (Int × Int × Int))) (A0 : Option Addr) (c0 : Nat) (gl0 : GlobOk s0) (h0 : Sr (rP (rI .i64) (rP (rI .i64) (rI .i64))) s0 A0 c0 p0) (i42 : Nat) (t : ((List ByteArray) × (List Int) × Int)) (g : Regs) (s : St) : Prop := ∃ (A31 : Option Addr) (c32 : Nat) (A38 : Option Addr) (c39 : Nat) (e40 : Nat), g = (rg 83 [(3, (Value.pointer (some ⟨i42, 0, none⟩))), (5, (Value.slice A31 (t.1).length c32)), (6, (Value.slice A38 (t.2.1).length c39)), (20, (Value.slice A0 (p0).length c0)), (21, (Value.int .i64 ((p0).length : Nat))), (22, (Value.int .i64 t.2.2))]) ∧ Cx s0.next [] [] s0 s [(i42, AObj.box 32 [(Value.int .i64 0), (Value.int .i64 0)])] [(On.mk (rI .u8) t.2.1 A38 c39 5 false e40)] [(Fa.sr rS A31 c32 t.1)]
abbrev Ex10_1 (s0 : St) (p0 : (List (Int × Int × Int))) (A0 : Option Addr) (c0 : Nat) (gl0 : GlobOk s0) (h0 : Sr (rP (rI .i64) (rP (rI .i64) (rI .i64))) s0 A0 c0 p0) (i42 : Nat) (t : (((List ByteArray) × (List Int) × Int) ⊕ (Int × Int))) (e : X) (g : Regs) (s : St) : Prop := match t with
  | (.inl t) => ∃ (A546 : Option Addr) (c547 : Nat) (A551 : Option Addr) (c552 : Nat) (e553 : Nat), e = .exit 0 ∧ g = (rg 83 [(3, (Value.pointer (some ⟨i42, 0, none⟩))), (5, (Value.slice A546 (t.1).length c547)), (6, (Value.slice A551 (t.2.1).length c552)), (20, (Value.slice A0 (p0).length c0)), (21, (Value.int .i64 ((p0).length : Nat))), (22, (Value.int .i64 t.2.2)), (23, (Value.bool false))]) ∧ Cx s0.next [] [] s0 s [(i42, AObj.box 32 [(Value.int .i64 0), (Value.int .i64 0)])] [(On.mk (rI .u8) t.2.1 A551 c552 5 false e553)] [(Fa.sr rS A546 c547 t.1)]
  | (.inr t) => e = .ret ∧ g = (rg 83 [(2, (Value.slice none 0 0)), (3, (Value.pointer (some ⟨i42, 0, none⟩)))]) ∧ Cx s0.next [] [] s0 s [(i42, AObj.box 32 [(Value.int .i64 t.1), (Value.int .i64 t.2)])] [] []
theorem x10_1 (s0 : St) (p0 : (List (Int × Int × Int))) (A0 : Option Addr) (c0 : Nat) (gl0 : GlobOk s0) (h0 : Sr (rP (rI .i64) (rP (rI .i64) (rI .i64))) s0 A0 c0 p0) (i42 : Nat) (t : (((List ByteArray) × (List Int) × Int) ⊕ (Int × Int))) (e : X) (g : Regs) (s : St) (h : Ex10_1 s0 p0 A0 c0 gl0 h0 i42 t e g s) : e ≠ .normal := by
  rcases t with t | t
  · obtain ⟨_, _, _, _, _, h, _⟩ := h
    rw [h]; intro hh; cases hh
  · obtain ⟨h, _⟩ := h
    rw [h]; intro hh; cases hh
def pb10_1 (n : Nat) (p0 : (List (Int × Int × Int))) (t : ((List ByteArray) × (List Int) × Int)) : Option (((List ByteArray) × (List Int) × Int) ⊕ (((List ByteArray) × (List Int) × Int) ⊕ (Int × Int))) :=
  (if (decide ((t.2.2 : Int) < ((p0).length : Nat))) then ((rd p0 t.2.2 (fun x129 => ((p23 n x129.1 0 (IntKind.wrap .i64 (((t.1).length : Nat) - 1))).bind fun r158 => (if (!r158) then ((p22 n 5 t.2.2).bind fun r163 => ((((some (.inr (.inr (r163.1, r163.2)))))))) else ((apP 1 t.2.1 [(IntKind.wrap .u8 x129.1)] (fun y180 => (((loopP (pb10_2 n t.2.2 x129) n (t.1, (t.2.1 ++ [(IntKind.wrap .u8 x129.1)]), 0)).bind fun t544 => match t544 with | (.inl t372) => ((some (.inl (t372.1, t372.2.1, (IntKind.wrap .i64 (t.2.2 + 1)))))) | (.inr t458) => ((some (.inr (.inr (t458.1, t458.2))))))))))))))) else (((some (.inr (.inl (t.1, t.2.1, t.2.2)))))))
theorem b10_1 (n : Nat) (s0 : St) (p0 : (List (Int × Int × Int))) (A0 : Option Addr) (c0 : Nat) (gl0 : GlobOk s0) (h0 : Sr (rP (rI .i64) (rP (rI .i64) (rI .i64))) s0 A0 c0 p0) (i42 : Nat) (t : ((List ByteArray) × (List Int) × Int)) (g : Regs) (s126 : St) (K : Kont) (Q : Out → St → Prop) (h : Inv10_1 s0 p0 A0 c0 gl0 h0 i42 t g s126) :
    Rf (pb10_1 n p0 t) (fun r => ∀ e g' s', LK (Inv10_1 s0 p0 A0 c0 gl0 h0 i42) (Ex10_1 s0 p0 A0 c0 gl0 h0 i42) r e g' s' → Ev (K e g' s') Q) (fun _ => Q) (kBody E 10 n [.b, .b, .b, .b, .a, .b, .a, .a] g s126 K) := by
  obtain ⟨y33, y37, x41⟩ := t
  obtain ⟨A31, c32, A38, c39, e40, rfl, C127⟩ := h
  rw [e10_body0 n]
  unfold pb10_1
  refine Rf.gen fun H Q hH hQ => ?_
  try dsimp only
  refine Rf.ite ?_ ?_
  · refine Rf.elt (r := (rP (rI .i64) (rP (rI .i64) (rI .i64)))) (C127.sr0 rfl h0) rfl fun x129 i130 o131 c132 r133 h134 => ?_
    obtain ⟨c139, c140, rfl, r141, r142⟩ := rP_elim r133
    obtain rfl := rI_elim r141
    obtain ⟨c143, c144, rfl, r145, r146⟩ := rP_elim r142
    obtain rfl := rI_elim r145
    obtain rfl := rI_elim r146
    refine Rf.ldI (h134.at 0 rfl) ?_
    refine Rf.ldI (h134.at 1 rfl) ?_
    refine Rf.ldI (h134.at 2 rfl) ?_
    refine Rf.new C127 fun s150 (C151 : Cx s0.next [] [] s0 s150 [(s126.next, AObj.box 40 [(Value.int .i64 0), (Value.int .i64 0), (Value.int .i64 0)]), (i42, AObj.box 32 [(Value.int .i64 0), (Value.int .i64 0)])] [(On.mk (rI .u8) y37 A38 c39 5 false e40)] [(Fa.sr rS A31 c32 y33)]) => ?_
    refine Rf.sto 0 C151 rfl (by simp) rfl fun s153 (C154 : Cx s0.next [] [] s0 s153 [(s126.next, AObj.box 40 [(Value.int .i64 x129.1), (Value.int .i64 x129.2.1), (Value.int .i64 x129.2.2)]), (i42, AObj.box 32 [(Value.int .i64 0), (Value.int .i64 0)])] [(On.mk (rI .u8) y37 A38 c39 5 false e40)] [(Fa.sr rS A31 c32 y33)]) => ?_
    refine Rf.ldI (C154.at m0 rfl) ?_
    refine Rf.call0 C154 (t23 n x129.1 0 (IntKind.wrap .i64 (((y33).length : Nat) - 1)) s153 (C154.gl rfl gl0)) ?_
    rintro r158 _ s159 rfl h161
    have C162 : Cx s0.next [] [] s0 s159 [(s126.next, AObj.box 40 [(Value.int .i64 x129.1), (Value.int .i64 x129.2.1), (Value.int .i64 x129.2.2)]), (i42, AObj.box 32 [(Value.int .i64 0), (Value.int .i64 0)])] [(On.mk (rI .u8) y37 A38 c39 5 false e40)] [(Fa.sr rS A31 c32 y33)] := h161 [] (by simp) List.Pairwise.nil
    refine (Rf.asB ?_)
    refine Rf.ite ?_ ?_
    · refine Rf.call0 C162 (t22 n 5 x41 s159 (C162.gl rfl gl0)) ?_
      rintro r163 _ s164 rfl h167
      have C168 : Cx s0.next [] [] s0 s164 [(s126.next, AObj.box 40 [(Value.int .i64 x129.1), (Value.int .i64 x129.2.1), (Value.int .i64 x129.2.2)]), (i42, AObj.box 32 [(Value.int .i64 0), (Value.int .i64 0)])] [(On.mk (rI .u8) y37 A38 c39 5 false e40)] [(Fa.sr rS A31 c32 y33)] := h167 [] (by simp) List.Pairwise.nil
      refine (Rf.asAgg (Rf.unc (Rf.asI (Rf.unc (Rf.asI (Rf.unn ?_))))))
      refine Rf.sto 1 C168 rfl (by simp) rfl fun s169 (C170 : Cx s0.next [] [] s0 s169 [(s126.next, AObj.box 40 [(Value.int .i64 x129.1), (Value.int .i64 x129.2.1), (Value.int .i64 x129.2.2)]), (i42, AObj.box 32 [(Value.int .i64 r163.1), (Value.int .i64 r163.2)])] [(On.mk (rI .u8) y37 A38 c39 5 false e40)] [(Fa.sr rS A31 c32 y33)]) => ?_
      subst hH; subst hQ
      exact Rf.leaf fun h => h _ _ _ ⟨rfl, rfl, (C170.sub (List.Sublist.cons _ (List.Sublist.cons_cons _ List.Sublist.slnil)) (List.Sublist.cons _ List.Sublist.slnil) (List.Sublist.cons _ List.Sublist.slnil))⟩
    · refine Rf.ldI (C162.at m0 rfl) ?_
      refine Rf.newR (r := (rI .u8)) (xs := [(IntKind.wrap .u8 x129.1)]) C162 rfl (many.cons (c := [(Value.int .u8 (IntKind.wrap .u8 x129.1))]) rI_mk many.nil) fun s174 (C175 : Cx s0.next [] [] s0 s174 [(s126.next, AObj.box 40 [(Value.int .i64 x129.1), (Value.int .i64 x129.2.1), (Value.int .i64 x129.2.2)]), (i42, AObj.box 32 [(Value.int .i64 0), (Value.int .i64 0)])] [(On.mk (rI .u8) [(IntKind.wrap .u8 x129.1)] (some ⟨s159.next, 0, none⟩) 1 5 false s159.next), (On.mk (rI .u8) y37 A38 c39 5 false e40)] [(Fa.sr rS A31 c32 y33)]) => ?_
      refine Rf.kapp 1 C175 rfl rfl (by decide) (by decide) (Ap.sr u30 rfl (C175.srB m0)) fun A177 c178 e179 s182 (C183 : Cx s0.next [] [] s0 s182 [(s126.next, AObj.box 40 [(Value.int .i64 x129.1), (Value.int .i64 x129.2.1), (Value.int .i64 x129.2.2)]), (i42, AObj.box 32 [(Value.int .i64 0), (Value.int .i64 0)])] [(On.mk (rI .u8) [(IntKind.wrap .u8 x129.1)] (some ⟨s159.next, 0, none⟩) 1 5 false s159.next), (On.mk (rI .u8) (y37 ++ [(IntKind.wrap .u8 x129.1)]) A177 c178 5 false e179)] [(Fa.sr rS A31 c32 y33)]) => ?_
      have C184 : Cx s0.next [] [] s0 s182 [(s126.next, AObj.box 40 [(Value.int .i64 x129.1), (Value.int .i64 x129.2.1), (Value.int .i64 x129.2.2)]), (i42, AObj.box 32 [(Value.int .i64 0), (Value.int .i64 0)])] [(On.mk (rI .u8) (y37 ++ [(IntKind.wrap .u8 x129.1)]) A177 c178 5 false e179)] [(Fa.sr rS A31 c32 y33)] := C183.sub (List.Sublist.refl _) (List.Sublist.cons _ (List.Sublist.cons_cons _ List.Sublist.slnil)) (List.Sublist.refl _)
      refine Rf.ldI (C184.at m0 rfl) ?_
      refine Rf.ldI (C184.at m0 rfl) ?_
      refine Rf.newR (r := (rI .i64)) (xs := [x129.2.1, x129.2.2]) C184 rfl (many.cons (c := [(Value.int .i64 x129.2.1)]) rI_mk (many.cons (c := [(Value.int .i64 x129.2.2)]) rI_mk many.nil)) fun s192 (C193 : Cx s0.next [] [] s0 s192 [(s126.next, AObj.box 40 [(Value.int .i64 x129.1), (Value.int .i64 x129.2.1), (Value.int .i64 x129.2.2)]), (i42, AObj.box 32 [(Value.int .i64 0), (Value.int .i64 0)])] [(On.mk (rI .i64) [x129.2.1, x129.2.2] (some ⟨s182.next, 0, none⟩) 2 3 false s182.next), (On.mk (rI .u8) (y37 ++ [(IntKind.wrap .u8 x129.1)]) A177 c178 5 false e179)] [(Fa.sr rS A31 c32 y33)]) => ?_
      refine Rf.loop (Inv := Inv10_2 s0 p0 A0 c0 gl0 h0 i42 x41 (some ⟨s182.next, 0, none⟩) s182.next s126.next x129) (Ex := Ex10_2 s0 p0 A0 c0 gl0 h0 i42 x41 (some ⟨s182.next, 0, none⟩) s182.next s126.next x129) (x10_2 s0 p0 A0 c0 gl0 h0 i42 x41 (some ⟨s182.next, 0, none⟩) s182.next s126.next x129) (fun t g s K Q h => b10_2 n s0 p0 A0 c0 gl0 h0 i42 x41 (some ⟨s182.next, 0, none⟩) s182.next s126.next x129 t g s K Q h) n _ _ _ ⟨_, _, _, _, _, rfl, (C193.sub (List.Sublist.refl _) (List.Sublist.refl _) (List.Sublist.refl _))⟩ ?_
      intro t e g s h
      rcases t with t372 | t458
      · generalize s = s456 at h ⊢
        obtain ⟨A361, c362, A366, c367, e368, rfl, rfl, C457⟩ := h
        rw [e10_after1_exit2 n]
        subst hH; subst hQ
        exact Rf.leaf fun h => h _ _ _ ⟨rfl, _, _, _, _, _, rfl, (C457.sub (List.Sublist.cons _ (List.Sublist.cons_cons _ List.Sublist.slnil)) (List.Sublist.cons _ (List.Sublist.cons_cons _ List.Sublist.slnil)) (List.Sublist.refl _))⟩
      · generalize s = s542 at h ⊢
        obtain ⟨rfl, rfl, C543⟩ := h
        rw [e10_after1_ret n]
        subst hH; subst hQ
        exact Rf.leaf fun h => h _ _ _ ⟨rfl, rfl, (C543.sub (List.Sublist.refl _) (List.Sublist.refl _) (List.Sublist.refl _))⟩
  · subst hH; subst hQ
    exact Rf.leaf fun h => h _ _ _ ⟨_, _, _, _, _, rfl, rfl, (C127.sub (List.Sublist.refl _) (List.Sublist.refl _) (List.Sublist.refl _))⟩
abbrev P10 (N : Nat) (X : List Nat) (r : ((List Int) × (Int × Int))) (v : Value) (s : St) : Prop := ∃ (A0 : Option Addr) (c0 : Nat) (e0 : Nat), v = (Value.tuple #[(Value.slice A0 (r.1).length c0), (Value.agg #[(Value.int .i64 r.2.1), (Value.int .i64 r.2.2)])]) ∧ (On.mk (rI .u8) r.1 A0 c0 5 false e0).holds N X s
def p10 : Nat → (List (Int × Int × Int)) → Option ((List Int) × (Int × Int))
  | 0, _ => none
  | n + 1, p0 => ((if (decide ((((p0).length : Nat) : Int) > 60000)) then ((p22 n 2 (-1)).bind fun r4 => ((some ((([] : (List Int)), (r4.1, r4.2)) : ((List Int) × (Int × Int)))))) else (((p4 n).bind fun r14 => ((((loopP (pb10_1 n p0) n (r14.2, ([] : List Int), 0)).bind fun t735 => match t735 with | (.inl t557) => ((some ((t557.2.1, (0, 0)) : ((List Int) × (Int × Int))))) | (.inr t647) => (some ((([] : (List Int)), (t647.1, t647.2)) : ((List Int) × (Int × Int)))))))))))
theorem t10 (k : Nat) (p0 : (List (Int × Int × Int))) (s0 : St) {A0 : Option Addr} {c0 : Nat} (gl0 : GlobOk s0) (h0 : Sr (rP (rI .i64) (rP (rI .i64) (rI .i64))) s0 A0 c0 p0) :
    Rf (p10 k p0) (fun _ => True) (fun r => RtC s0.next [] [] s0 (P10 s0.next [] r)) (acall E k 10 [(Value.slice A0 (p0).length c0)] s0) := by
  cases k with
  | zero => exact Rf.none
  | succ n =>
    rw [e10 n]
    rw [p10]
    refine Rf.gen fun H Q hH hQ => ?_
    have C0 : Cx s0.next [] [] s0 s0 [] [] [] := Cx.start s0
    refine Rf.new C0 fun s1 (C2 : Cx s0.next [] [] s0 s1 [(s0.next, AObj.box 32 [(Value.int .i64 0), (Value.int .i64 0)])] [] []) => ?_
    refine Rf.ite ?_ ?_
    · refine Rf.call0 C2 (t22 n 2 (-1) s1 (C2.gl rfl gl0)) ?_
      rintro r4 _ s5 rfl h8
      have C9 : Cx s0.next [] [] s0 s5 [(s0.next, AObj.box 32 [(Value.int .i64 0), (Value.int .i64 0)])] [] [] := h8 [] (by simp) List.Pairwise.nil
      refine (Rf.asAgg (Rf.unc (Rf.asI (Rf.unc (Rf.asI (Rf.unn ?_))))))
      refine Rf.sto 0 C9 rfl (by simp) rfl fun s10 (C11 : Cx s0.next [] [] s0 s10 [(s0.next, AObj.box 32 [(Value.int .i64 r4.1), (Value.int .i64 r4.2)])] [] []) => ?_
      refine Rf.ldI (C11.at m0 rfl) ?_
      refine Rf.ldI (C11.at m0 rfl) ?_
      subst hH; subst hQ
      exact Rf.leaf fun _ => Ev.done (Rf.ret C11 ⟨none, 0, 0, rfl, .inl ⟨rfl, rfl, rfl⟩⟩)
    · refine Rf.call0 C2 (t4 n s1 (C2.gl rfl gl0)) ?_
      rintro r14 _ s15 ⟨A16, c17, e19, A21, c22, rfl, h18, h23⟩ h27
      have C28 : Cx s0.next [] [] s0 s15 [(s0.next, AObj.box 32 [(Value.int .i64 0), (Value.int .i64 0)])] [(On.mk rS r14.1 A16 c17 9 false e19)] [] := h27 [(On.mk rS r14.1 A16 c17 9 false e19)] (by simpa using h18) (List.pairwise_singleton _ _)
      have C29 := C28.add (Fa.sr rS A21 c22 r14.2) h23
      refine (Rf.asTup (Rf.unc (Rf.asSl (Rf.unc (Rf.asSl (Rf.unn ?_))))))
      have C34 : Cx s0.next [] [] s0 s15 [(s0.next, AObj.box 32 [(Value.int .i64 0), (Value.int .i64 0)])] [(On.mk (rI .u8) ([] : List Int) none 0 5 false 0), (On.mk rS r14.1 A16 c17 9 false e19)] [(Fa.sr rS A21 c22 r14.2)] := C29.addNil (rI .u8) 5
      refine Rf.loop (Inv := Inv10_1 s0 p0 A0 c0 gl0 h0 s0.next) (Ex := Ex10_1 s0 p0 A0 c0 gl0 h0 s0.next) (x10_1 s0 p0 A0 c0 gl0 h0 s0.next) (fun t g s K Q h => b10_1 n s0 p0 A0 c0 gl0 h0 s0.next t g s K Q h) n _ _ _ ⟨_, _, _, _, _, rfl, (C34.sub (List.Sublist.refl _) (List.Sublist.cons_cons _ (List.Sublist.cons _ List.Sublist.slnil)) (List.Sublist.refl _))⟩ ?_
      intro t e g s h
      rcases t with t557 | t647
      · generalize s = s641 at h ⊢
        obtain ⟨A546, c547, A551, c552, e553, rfl, rfl, C642⟩ := h
        rw [e10_after0_exit0 n]
        refine Rf.sto 0 C642 rfl (by simp) rfl fun s643 (C644 : Cx s0.next [] [] s0 s643 [(s0.next, AObj.box 32 [(Value.int .i64 0), (Value.int .i64 0)])] [(On.mk (rI .u8) t557.2.1 A551 c552 5 false e553)] [(Fa.sr rS A546 c547 t557.1)]) => ?_
        refine Rf.ldI (C644.at m0 rfl) ?_
        refine Rf.ldI (C644.at m0 rfl) ?_
        subst hH; subst hQ
        exact Rf.leaf fun _ => Ev.done (Rf.ret C644 ⟨_, _, _, rfl, C644.own _ m0⟩)
      · generalize s = s731 at h ⊢
        obtain ⟨rfl, rfl, C732⟩ := h
        rw [e10_after0_ret n]
        refine Rf.ldI (C732.at m0 rfl) ?_
        refine Rf.ldI (C732.at m0 rfl) ?_
        subst hH; subst hQ
        exact Rf.leaf fun _ => Ev.done (Rf.ret C732 ⟨none, 0, 0, rfl, .inl ⟨rfl, rfl, rfl⟩⟩)
-- 12 "brindlewood/opcode.Decode"
abbrev Inv12_3 (s0 : St) (p0 : (List Int)) (A0 : Option Addr) (c0 : Nat) (gl0 : GlobOk s0) (h0 : Sr (rI .u8) s0 A0 c0 p0) (A6 : Option Addr) (c7 : Nat) (e9 : Nat) (r4 : (List (ByteArray × Int × Int))) (A18 : Option Addr) (c19 : Nat) (e20 : Nat) (i22 : Nat) (x21 : Int) (y17 : (List (Int × Int × Int))) (i196 : Nat) (r187 : Int) (x126 : Int) (x193 : Int) (x194 : Int) (x195 : Int) (t : (Int × Int × Int)) (g : Regs) (s : St) : Prop := ∃ (w406 : Value), g = (rg 100 [(0, (Value.slice A0 (p0).length c0)), (3, (Value.pointer (some ⟨i22, 0, none⟩))), (4, (Value.slice A18 (y17).length c19)), (5, (Value.slice A6 (r4).length c7)), (6, (Value.int .i64 t.1)), (7, (Value.pointer (some ⟨i196, 0, none⟩))), (8, (Value.int .i64 x21)), (9, (Value.int .i64 x195)), (10, (Value.int .i64 t.2.1)), (11, (Value.int .i64 t.2.2)), (44, (Value.int .i64 r187)), (45, (Value.int .i64 x195)), (84, w406)]) ∧ Cx s0.next [] [] s0 s [(i196, AObj.box 40 [(Value.int .i64 (IntKind.wrap .i64 x126)), (Value.int .i64 x193), (Value.int .i64 x194)]), (i22, AObj.box 32 [(Value.int .i64 0), (Value.int .i64 0)])] [(On.mk (rP (rI .i64) (rP (rI .i64) (rI .i64))) y17 A18 c19 40 false e20), (On.mk (rP rS (rP (rI .i64) (rI .i64))) r4 A6 c7 49 false e9)] []
abbrev Ex12_3 (s0 : St) (p0 : (List Int)) (A0 : Option Addr) (c0 : Nat) (gl0 : GlobOk s0) (h0 : Sr (rI .u8) s0 A0 c0 p0) (A6 : Option Addr) (c7 : Nat) (e9 : Nat) (r4 : (List (ByteArray × Int × Int))) (A18 : Option Addr) (c19 : Nat) (e20 : Nat) (i22 : Nat) (x21 : Int) (y17 : (List (Int × Int × Int))) (i196 : Nat) (r187 : Int) (x126 : Int) (x193 : Int) (x194 : Int) (x195 : Int) (t : ((Int × Int) ⊕ (Int × Int))) (e : X) (g : Regs) (s : St) : Prop := match t with
  | (.inl t) => e = .ret ∧ g = (rg 100 [(2, (Value.slice none 0 0)), (3, (Value.pointer (some ⟨i22, 0, none⟩)))]) ∧ Cx s0.next [] [] s0 s [(i22, AObj.box 32 [(Value.int .i64 t.1), (Value.int .i64 t.2)])] [] []
  | (.inr t) => e = .exit 4 ∧ g = (rg 100 [(0, (Value.slice A0 (p0).length c0)), (3, (Value.pointer (some ⟨i22, 0, none⟩))), (4, (Value.slice A18 (y17).length c19)), (5, (Value.slice A6 (r4).length c7)), (6, (Value.int .i64 t.1)), (7, (Value.pointer (some ⟨i196, 0, none⟩))), (8, (Value.int .i64 x21)), (9, (Value.int .i64 x195)), (10, (Value.int .i64 t.2)), (44, (Value.int .i64 r187)), (45, (Value.int .i64 x195)), (78, (Value.bool false))]) ∧ Cx s0.next [] [] s0 s [(i196, AObj.box 40 [(Value.int .i64 (IntKind.wrap .i64 x126)), (Value.int .i64 x193), (Value.int .i64 x194)]), (i22, AObj.box 32 [(Value.int .i64 0), (Value.int .i64 0)])] [(On.mk (rP (rI .i64) (rP (rI .i64) (rI .i64))) y17 A18 c19 40 false e20), (On.mk (rP rS (rP (rI .i64) (rI .i64))) r4 A6 c7 49 false e9)] []
theorem x12_3 (s0 : St) (p0 : (List Int)) (A0 : Option Addr) (c0 : Nat) (gl0 : GlobOk s0) (h0 : Sr (rI .u8) s0 A0 c0 p0) (A6 : Option Addr) (c7 : Nat) (e9 : Nat) (r4 : (List (ByteArray × Int × Int))) (A18 : Option Addr) (c19 : Nat) (e20 : Nat) (i22 : Nat) (x21 : Int) (y17 : (List (Int × Int × Int))) (i196 : Nat) (r187 : Int) (x126 : Int) (x193 : Int) (x194 : Int) (x195 : Int) (t : ((Int × Int) ⊕ (Int × Int))) (e : X) (g : Regs) (s : St) (h : Ex12_3 s0 p0 A0 c0 gl0 h0 A6 c7 e9 r4 A18 c19 e20 i22 x21 y17 i196 r187 x126 x193 x194 x195 t e g s) : e ≠ .normal := by
  rcases t with t | t
  · obtain ⟨h, _⟩ := h
    rw [h]; intro hh; cases hh
  · obtain ⟨h, _⟩ := h
    rw [h]; intro hh; cases hh
def pb12_3 (n : Nat) (p0 : (List Int)) (x21 : Int) (t : (Int × Int × Int)) : Option ((Int × Int × Int) ⊕ ((Int × Int) ⊕ (Int × Int))) :=
  (if (decide ((t.1 : Int) ≥ ((p0).length : Nat))) then ((p20 n 15 x21).bind fun r407 => (((some (.inr (.inl (r407.1, r407.2))))))) else ((rd p0 t.1 (fun x415 => ((shlP .i64 (IntKind.wrap .i64 (((BitVec.ofInt (IntKind.bits .i64) (IntKind.wrap .i64 x415) &&& BitVec.ofInt (IntKind.bits .i64) 127).toNat : Nat))) t.2.2 (fun x422 => ((if (decide (((IntKind.wrap .i64 x415) : Int) < 128)) then (pj (fun (b424 : Bool) => if b424 then ((p20 n 16 x21).bind fun r427 => ((((some (.inr (.inl (r427.1, r427.2)))))))) else ((((some (.inr (.inr ((IntKind.wrap .i64 (t.1 + 1)), (IntKind.wrap .i64 (((BitVec.ofInt (IntKind.bits .i64) t.2.1 ||| BitVec.ofInt (IntKind.bits .i64) x422).toNat : Nat))))))))))) (fun J423 => if (((IntKind.wrap .i64 x415) : Int) == 0) then (if (decide ((t.2.2 : Int) > 0)) then ((J423 true)) else ((J423 (decide (((IntKind.wrap .i64 (((BitVec.ofInt (IntKind.bits .i64) t.2.1 ||| BitVec.ofInt (IntKind.bits .i64) x422).toNat : Nat))) : Int) > 16000))))) else ((J423 (decide (((IntKind.wrap .i64 (((BitVec.ofInt (IntKind.bits .i64) t.2.1 ||| BitVec.ofInt (IntKind.bits .i64) x422).toNat : Nat))) : Int) > 16000)))))) else ((((if (decide (((IntKind.wrap .i64 (t.2.2 + 7)) : Int) > 14)) then ((p20 n 16 x21).bind fun r435 => ((some (.inr (.inl (r435.1, r435.2)))))) else ((some (.inl ((IntKind.wrap .i64 (t.1 + 1)), (IntKind.wrap .i64 (((BitVec.ofInt (IntKind.bits .i64) t.2.1 ||| BitVec.ofInt (IntKind.bits .i64) x422).toNat : Nat))), (IntKind.wrap .i64 (t.2.2 + 7)))))))))))))))))))
theorem b12_3 (n : Nat) (s0 : St) (p0 : (List Int)) (A0 : Option Addr) (c0 : Nat) (gl0 : GlobOk s0) (h0 : Sr (rI .u8) s0 A0 c0 p0) (A6 : Option Addr) (c7 : Nat) (e9 : Nat) (r4 : (List (ByteArray × Int × Int))) (A18 : Option Addr) (c19 : Nat) (e20 : Nat) (i22 : Nat) (x21 : Int) (y17 : (List (Int × Int × Int))) (i196 : Nat) (r187 : Int) (x126 : Int) (x193 : Int) (x194 : Int) (x195 : Int) (t : (Int × Int × Int)) (g : Regs) (s403 : St) (K : Kont) (Q : Out → St → Prop) (h : Inv12_3 s0 p0 A0 c0 gl0 h0 A6 c7 e9 r4 A18 c19 e20 i22 x21 y17 i196 r187 x126 x193 x194 x195 t g s403) :
    Rf (pb12_3 n p0 x21 t) (fun r => ∀ e g' s', LK (Inv12_3 s0 p0 A0 c0 gl0 h0 A6 c7 e9 r4 A18 c19 e20 i22 x21 y17 i196 r187 x126 x193 x194 x195) (Ex12_3 s0 p0 A0 c0 gl0 h0 A6 c7 e9 r4 A18 c19 e20 i22 x21 y17 i196 r187 x126 x193 x194 x195) r e g' s' → Ev (K e g' s') Q) (fun _ => Q) (kBody E 12 n [.b, .b, .b, .b, .a, .a, .a, .b, .a, .b, .b, .b, .b, .b, .a, .b, .a, .a, .b, .b, .a, .a, .b, .b, .a, .a, .a] g s403 K) := by
  obtain ⟨x300, x301, x302⟩ := t
  obtain ⟨w406, rfl, C404⟩ := h
  rw [e12_body2 n]
  unfold pb12_3
  refine Rf.gen fun H Q hH hQ => ?_
  try dsimp only
  refine Rf.ite ?_ ?_
  · refine Rf.call0 C404 (t20 n 15 x21 s403 (C404.gl rfl gl0)) ?_
    rintro r407 _ s408 rfl h411
    have C412 : Cx s0.next [] [] s0 s408 [(i196, AObj.box 40 [(Value.int .i64 (IntKind.wrap .i64 x126)), (Value.int .i64 x193), (Value.int .i64 x194)]), (i22, AObj.box 32 [(Value.int .i64 0), (Value.int .i64 0)])] [(On.mk (rP (rI .i64) (rP (rI .i64) (rI .i64))) y17 A18 c19 40 false e20), (On.mk (rP rS (rP (rI .i64) (rI .i64))) r4 A6 c7 49 false e9)] [] := h411 [] (by simp) List.Pairwise.nil
    refine (Rf.asAgg (Rf.unc (Rf.asI (Rf.unc (Rf.asI (Rf.unn ?_))))))
    refine Rf.sto 1 C412 rfl (by simp) rfl fun s413 (C414 : Cx s0.next [] [] s0 s413 [(i196, AObj.box 40 [(Value.int .i64 (IntKind.wrap .i64 x126)), (Value.int .i64 x193), (Value.int .i64 x194)]), (i22, AObj.box 32 [(Value.int .i64 r407.1), (Value.int .i64 r407.2)])] [(On.mk (rP (rI .i64) (rP (rI .i64) (rI .i64))) y17 A18 c19 40 false e20), (On.mk (rP rS (rP (rI .i64) (rI .i64))) r4 A6 c7 49 false e9)] []) => ?_
    subst hH; subst hQ
    exact Rf.leaf fun h => h _ _ _ ⟨rfl, rfl, (C414.sub (List.Sublist.cons _ (List.Sublist.cons_cons _ List.Sublist.slnil)) (List.Sublist.cons _ (List.Sublist.cons _ List.Sublist.slnil)) (List.Sublist.refl _))⟩
  · refine Rf.elt (r := (rI .u8)) (C404.sr0 rfl h0) rfl fun x415 i416 o417 c418 r419 h420 => ?_
    obtain rfl := rI_elim r419
    refine Rf.ldI (h420.at 0 rfl) ?_
    refine Rf.shlI fun x422 => ?_
    refine Rf.ite ?_ ?_
    · refine Rf.pj fun J423 J423' hJ423 hJ423' => ?_
      have J423h : ∀ (b424 : Bool) (_ : Cx s0.next [] [] s0 s403 [(i196, AObj.box 40 [(Value.int .i64 (IntKind.wrap .i64 x126)), (Value.int .i64 x193), (Value.int .i64 x194)]), (i22, AObj.box 32 [(Value.int .i64 0), (Value.int .i64 0)])] [(On.mk (rP (rI .i64) (rP (rI .i64) (rI .i64))) y17 A18 c19 40 false e20), (On.mk (rP rS (rP (rI .i64) (rI .i64))) r4 A6 c7 49 false e9)] []), Rf (J423 b424) H Q (J423' b424) := by
        subst hJ423
        subst hJ423'
        intro b424 C426
        refine Rf.ite ?_ ?_
        · refine Rf.call0 C426 (t20 n 16 x21 s403 (C426.gl rfl gl0)) ?_
          rintro r427 _ s428 rfl h431
          have C432 : Cx s0.next [] [] s0 s428 [(i196, AObj.box 40 [(Value.int .i64 (IntKind.wrap .i64 x126)), (Value.int .i64 x193), (Value.int .i64 x194)]), (i22, AObj.box 32 [(Value.int .i64 0), (Value.int .i64 0)])] [(On.mk (rP (rI .i64) (rP (rI .i64) (rI .i64))) y17 A18 c19 40 false e20), (On.mk (rP rS (rP (rI .i64) (rI .i64))) r4 A6 c7 49 false e9)] [] := h431 [] (by simp) List.Pairwise.nil
          refine (Rf.asAgg (Rf.unc (Rf.asI (Rf.unc (Rf.asI (Rf.unn ?_))))))
          refine Rf.sto 1 C432 rfl (by simp) rfl fun s433 (C434 : Cx s0.next [] [] s0 s433 [(i196, AObj.box 40 [(Value.int .i64 (IntKind.wrap .i64 x126)), (Value.int .i64 x193), (Value.int .i64 x194)]), (i22, AObj.box 32 [(Value.int .i64 r427.1), (Value.int .i64 r427.2)])] [(On.mk (rP (rI .i64) (rP (rI .i64) (rI .i64))) y17 A18 c19 40 false e20), (On.mk (rP rS (rP (rI .i64) (rI .i64))) r4 A6 c7 49 false e9)] []) => ?_
          subst hH; subst hQ
          exact Rf.leaf fun h => h _ _ _ ⟨rfl, rfl, (C434.sub (List.Sublist.cons _ (List.Sublist.cons_cons _ List.Sublist.slnil)) (List.Sublist.cons _ (List.Sublist.cons _ List.Sublist.slnil)) (List.Sublist.refl _))⟩
        · subst hH; subst hQ
          exact Rf.leaf fun h => h _ _ _ ⟨rfl, rfl, (C426.sub (List.Sublist.refl _) (List.Sublist.refl _) (List.Sublist.refl _))⟩
      clear hJ423 hJ423'
      refine Rf.ite ?_ ?_
      · refine Rf.ite ?_ ?_
        · exact J423h true (C404.sub (List.Sublist.refl _) (List.Sublist.refl _) (List.Sublist.refl _))
        · exact J423h (decide (((IntKind.wrap .i64 (((BitVec.ofInt (IntKind.bits .i64) x301 ||| BitVec.ofInt (IntKind.bits .i64) x422).toNat : Nat))) : Int) > 16000)) (C404.sub (List.Sublist.refl _) (List.Sublist.refl _) (List.Sublist.refl _))
      · exact J423h (decide (((IntKind.wrap .i64 (((BitVec.ofInt (IntKind.bits .i64) x301 ||| BitVec.ofInt (IntKind.bits .i64) x422).toNat : Nat))) : Int) > 16000)) (C404.sub (List.Sublist.refl _) (List.Sublist.refl _) (List.Sublist.refl _))
    · refine Rf.ite ?_ ?_
      · refine Rf.call0 C404 (t20 n 16 x21 s403 (C404.gl rfl gl0)) ?_
        rintro r435 _ s436 rfl h439
        have C440 : Cx s0.next [] [] s0 s436 [(i196, AObj.box 40 [(Value.int .i64 (IntKind.wrap .i64 x126)), (Value.int .i64 x193), (Value.int .i64 x194)]), (i22, AObj.box 32 [(Value.int .i64 0), (Value.int .i64 0)])] [(On.mk (rP (rI .i64) (rP (rI .i64) (rI .i64))) y17 A18 c19 40 false e20), (On.mk (rP rS (rP (rI .i64) (rI .i64))) r4 A6 c7 49 false e9)] [] := h439 [] (by simp) List.Pairwise.nil
        refine (Rf.asAgg (Rf.unc (Rf.asI (Rf.unc (Rf.asI (Rf.unn ?_))))))
        refine Rf.sto 1 C440 rfl (by simp) rfl fun s441 (C442 : Cx s0.next [] [] s0 s441 [(i196, AObj.box 40 [(Value.int .i64 (IntKind.wrap .i64 x126)), (Value.int .i64 x193), (Value.int .i64 x194)]), (i22, AObj.box 32 [(Value.int .i64 r435.1), (Value.int .i64 r435.2)])] [(On.mk (rP (rI .i64) (rP (rI .i64) (rI .i64))) y17 A18 c19 40 false e20), (On.mk (rP rS (rP (rI .i64) (rI .i64))) r4 A6 c7 49 false e9)] []) => ?_
        subst hH; subst hQ
        exact Rf.leaf fun h => h _ _ _ ⟨rfl, rfl, (C442.sub (List.Sublist.cons _ (List.Sublist.cons_cons _ List.Sublist.slnil)) (List.Sublist.cons _ (List.Sublist.cons _ List.Sublist.slnil)) (List.Sublist.refl _))⟩
      · subst hH; subst hQ
        exact Rf.leaf fun h => h _ _ _ ⟨rfl, _, rfl, (C404.sub (List.Sublist.refl _) (List.Sublist.refl _) (List.Sublist.refl _))⟩
abbrev Inv12_2 (s0 : St) (p0 : (List Int)) (A0 : Option Addr) (c0 : Nat) (gl0 : GlobOk s0) (h0 : Sr (rI .u8) s0 A0 c0 p0) (A6 : Option Addr) (c7 : Nat) (e9 : Nat) (r4 : (List (ByteArray × Int × Int))) (A18 : Option Addr) (c19 : Nat) (e20 : Nat) (i22 : Nat) (x21 : Int) (y17 : (List (Int × Int × Int))) (i196 : Nat) (r187 : Int) (x126 : Int) (t : (Int × Int × Int × Int)) (g : Regs) (s : St) : Prop := g = (rg 100 [(0, (Value.slice A0 (p0).length c0)), (3, (Value.pointer (some ⟨i22, 0, none⟩))), (4, (Value.slice A18 (y17).length c19)), (5, (Value.slice A6 (r4).length c7)), (6, (Value.int .i64 t.1)), (7, (Value.pointer (some ⟨i196, 0, none⟩))), (8, (Value.int .i64 x21)), (44, (Value.int .i64 r187)), (45, (Value.int .i64 t.2.2.2))]) ∧ Cx s0.next [] [] s0 s [(i196, AObj.box 40 [(Value.int .i64 (IntKind.wrap .i64 x126)), (Value.int .i64 t.2.1), (Value.int .i64 t.2.2.1)]), (i22, AObj.box 32 [(Value.int .i64 0), (Value.int .i64 0)])] [(On.mk (rP (rI .i64) (rP (rI .i64) (rI .i64))) y17 A18 c19 40 false e20), (On.mk (rP rS (rP (rI .i64) (rI .i64))) r4 A6 c7 49 false e9)] []
abbrev Ex12_2 (s0 : St) (p0 : (List Int)) (A0 : Option Addr) (c0 : Nat) (gl0 : GlobOk s0) (h0 : Sr (rI .u8) s0 A0 c0 p0) (A6 : Option Addr) (c7 : Nat) (e9 : Nat) (r4 : (List (ByteArray × Int × Int))) (A18 : Option Addr) (c19 : Nat) (e20 : Nat) (i22 : Nat) (x21 : Int) (y17 : (List (Int × Int × Int))) (i196 : Nat) (r187 : Int) (x126 : Int) (t : ((Int × Int × Int × Int) ⊕ (Int × Int))) (e : X) (g : Regs) (s : St) : Prop := match t with
  | (.inl t) => e = .exit 2 ∧ g = (rg 100 [(0, (Value.slice A0 (p0).length c0)), (3, (Value.pointer (some ⟨i22, 0, none⟩))), (4, (Value.slice A18 (y17).length c19)), (5, (Value.slice A6 (r4).length c7)), (6, (Value.int .i64 t.1)), (7, (Value.pointer (some ⟨i196, 0, none⟩))), (8, (Value.int .i64 x21)), (44, (Value.int .i64 r187)), (45, (Value.int .i64 t.2.2.2)), (46, (Value.bool false))]) ∧ Cx s0.next [] [] s0 s [(i196, AObj.box 40 [(Value.int .i64 (IntKind.wrap .i64 x126)), (Value.int .i64 t.2.1), (Value.int .i64 t.2.2.1)]), (i22, AObj.box 32 [(Value.int .i64 0), (Value.int .i64 0)])] [(On.mk (rP (rI .i64) (rP (rI .i64) (rI .i64))) y17 A18 c19 40 false e20), (On.mk (rP rS (rP (rI .i64) (rI .i64))) r4 A6 c7 49 false e9)] []
  | (.inr t) => e = .ret ∧ g = (rg 100 [(2, (Value.slice none 0 0)), (3, (Value.pointer (some ⟨i22, 0, none⟩)))]) ∧ Cx s0.next [] [] s0 s [(i22, AObj.box 32 [(Value.int .i64 t.1), (Value.int .i64 t.2)])] [] []
theorem x12_2 (s0 : St) (p0 : (List Int)) (A0 : Option Addr) (c0 : Nat) (gl0 : GlobOk s0) (h0 : Sr (rI .u8) s0 A0 c0 p0) (A6 : Option Addr) (c7 : Nat) (e9 : Nat) (r4 : (List (ByteArray × Int × Int))) (A18 : Option Addr) (c19 : Nat) (e20 : Nat) (i22 : Nat) (x21 : Int) (y17 : (List (Int × Int × Int))) (i196 : Nat) (r187 : Int) (x126 : Int) (t : ((Int × Int × Int × Int) ⊕ (Int × Int))) (e : X) (g : Regs) (s : St) (h : Ex12_2 s0 p0 A0 c0 gl0 h0 A6 c7 e9 r4 A18 c19 e20 i22 x21 y17 i196 r187 x126 t e g s) : e ≠ .normal := by
  rcases t with t | t
  · obtain ⟨h, _⟩ := h
    rw [h]; intro hh; cases hh
  · obtain ⟨h, _⟩ := h
    rw [h]; intro hh; cases hh
def pb12_2 (n : Nat) (p0 : (List Int)) (x21 : Int) (r187 : Int) (t : (Int × Int × Int × Int)) : Option ((Int × Int × Int × Int) ⊕ ((Int × Int × Int × Int) ⊕ (Int × Int))) :=
  (if (decide ((t.2.2.2 : Int) < r187)) then (((((loopP (pb12_3 n p0 x21) n (t.1, 0, 0)).bind fun t661 => match t661 with | (.inl t447) => ((some (.inr (.inr (t447.1, t447.2))))) | (.inr t550) => ((if ((t.2.2.2 : Int) == 0) then ((some (.inl (t550.1, t550.2, t.2.2.1, (IntKind.wrap .i64 (t.2.2.2 + 1)))))) else ((some (.inl (t550.1, t.2.1, t550.2, (IntKind.wrap .i64 (t.2.2.2 + 1)))))))))))) else (((some (.inr (.inl (t.1, t.2.1, t.2.2.1, t.2.2.2)))))))
theorem b12_2 (n : Nat) (s0 : St) (p0 : (List Int)) (A0 : Option Addr) (c0 : Nat) (gl0 : GlobOk s0) (h0 : Sr (rI .u8) s0 A0 c0 p0) (A6 : Option Addr) (c7 : Nat) (e9 : Nat) (r4 : (List (ByteArray × Int × Int))) (A18 : Option Addr) (c19 : Nat) (e20 : Nat) (i22 : Nat) (x21 : Int) (y17 : (List (Int × Int × Int))) (i196 : Nat) (r187 : Int) (x126 : Int) (t : (Int × Int × Int × Int)) (g : Regs) (s297 : St) (K : Kont) (Q : Out → St → Prop) (h : Inv12_2 s0 p0 A0 c0 gl0 h0 A6 c7 e9 r4 A18 c19 e20 i22 x21 y17 i196 r187 x126 t g s297) :
    Rf (pb12_2 n p0 x21 r187 t) (fun r => ∀ e g' s', LK (Inv12_2 s0 p0 A0 c0 gl0 h0 A6 c7 e9 r4 A18 c19 e20 i22 x21 y17 i196 r187 x126) (Ex12_2 s0 p0 A0 c0 gl0 h0 A6 c7 e9 r4 A18 c19 e20 i22 x21 y17 i196 r187 x126) r e g' s' → Ev (K e g' s') Q) (fun _ => Q) (kBody E 12 n [.b, .b, .b, .b, .a, .a, .a, .b, .a, .b, .b, .b, .b, .b, .a, .b, .a, .a] g s297 K) := by
  obtain ⟨x192, x193, x194, x195⟩ := t
  obtain ⟨rfl, C298⟩ := h
  rw [e12_body1 n]
  unfold pb12_2
  refine Rf.gen fun H Q hH hQ => ?_
  try dsimp only
  refine Rf.ite ?_ ?_
  · refine Rf.loop (Inv := Inv12_3 s0 p0 A0 c0 gl0 h0 A6 c7 e9 r4 A18 c19 e20 i22 x21 y17 i196 r187 x126 x193 x194 x195) (Ex := Ex12_3 s0 p0 A0 c0 gl0 h0 A6 c7 e9 r4 A18 c19 e20 i22 x21 y17 i196 r187 x126 x193 x194 x195) (x12_3 s0 p0 A0 c0 gl0 h0 A6 c7 e9 r4 A18 c19 e20 i22 x21 y17 i196 r187 x126 x193 x194 x195) (fun t g s K Q h => b12_3 n s0 p0 A0 c0 gl0 h0 A6 c7 e9 r4 A18 c19 e20 i22 x21 y17 i196 r187 x126 x193 x194 x195 t g s K Q h) n _ _ _ ⟨_, rfl, (C298.sub (List.Sublist.refl _) (List.Sublist.refl _) (List.Sublist.refl _))⟩ ?_
    intro t e g s h
    rcases t with t447 | t550
    · generalize s = s548 at h ⊢
      obtain ⟨rfl, rfl, C549⟩ := h
      rw [e12_after2_ret n]
      subst hH; subst hQ
      exact Rf.leaf fun h => h _ _ _ ⟨rfl, rfl, (C549.sub (List.Sublist.refl _) (List.Sublist.refl _) (List.Sublist.refl _))⟩
    · generalize s = s651 at h ⊢
      obtain ⟨rfl, rfl, C652⟩ := h
      rw [e12_after2_exit4 n]
      refine Rf.ite ?_ ?_
      · refine Rf.sto 0 C652 rfl (by simp) rfl fun s655 (C656 : Cx s0.next [] [] s0 s655 [(i196, AObj.box 40 [(Value.int .i64 (IntKind.wrap .i64 x126)), (Value.int .i64 t550.2), (Value.int .i64 x194)]), (i22, AObj.box 32 [(Value.int .i64 0), (Value.int .i64 0)])] [(On.mk (rP (rI .i64) (rP (rI .i64) (rI .i64))) y17 A18 c19 40 false e20), (On.mk (rP rS (rP (rI .i64) (rI .i64))) r4 A6 c7 49 false e9)] []) => ?_
        subst hH; subst hQ
        exact Rf.leaf fun h => h _ _ _ ⟨rfl, rfl, (C656.sub (List.Sublist.refl _) (List.Sublist.refl _) (List.Sublist.refl _))⟩
      · refine Rf.sto 0 C652 rfl (by simp) rfl fun s659 (C660 : Cx s0.next [] [] s0 s659 [(i196, AObj.box 40 [(Value.int .i64 (IntKind.wrap .i64 x126)), (Value.int .i64 x193), (Value.int .i64 t550.2)]), (i22, AObj.box 32 [(Value.int .i64 0), (Value.int .i64 0)])] [(On.mk (rP (rI .i64) (rP (rI .i64) (rI .i64))) y17 A18 c19 40 false e20), (On.mk (rP rS (rP (rI .i64) (rI .i64))) r4 A6 c7 49 false e9)] []) => ?_
        subst hH; subst hQ
        exact Rf.leaf fun h => h _ _ _ ⟨rfl, rfl, (C660.sub (List.Sublist.refl _) (List.Sublist.refl _) (List.Sublist.refl _))⟩
  · subst hH; subst hQ
    exact Rf.leaf fun h => h _ _ _ ⟨rfl, rfl, (C298.sub (List.Sublist.refl _) (List.Sublist.refl _) (List.Sublist.refl _))⟩
abbrev Inv12_1 (s0 : St) (p0 : (List Int)) (A0 : Option Addr) (c0 : Nat) (gl0 : GlobOk s0) (h0 : Sr (rI .u8) s0 A0 c0 p0) (A6 : Option Addr) (c7 : Nat) (e9 : Nat) (r4 : (List (ByteArray × Int × Int))) (i22 : Nat) (t : ((List (Int × Int × Int)) × Int)) (g : Regs) (s : St) : Prop := ∃ (A18 : Option Addr) (c19 : Nat) (e20 : Nat), g = (rg 100 [(0, (Value.slice A0 (p0).length c0)), (3, (Value.pointer (some ⟨i22, 0, none⟩))), (4, (Value.slice A18 (t.1).length c19)), (5, (Value.slice A6 (r4).length c7)), (6, (Value.int .i64 t.2))]) ∧ Cx s0.next [] [] s0 s [(i22, AObj.box 32 [(Value.int .i64 0), (Value.int .i64 0)])] [(On.mk (rP (rI .i64) (rP (rI .i64) (rI .i64))) t.1 A18 c19 40 false e20), (On.mk (rP rS (rP (rI .i64) (rI .i64))) r4 A6 c7 49 false e9)] []
abbrev Ex12_1 (s0 : St) (p0 : (List Int)) (A0 : Option Addr) (c0 : Nat) (gl0 : GlobOk s0) (h0 : Sr (rI .u8) s0 A0 c0 p0) (A6 : Option Addr) (c7 : Nat) (e9 : Nat) (r4 : (List (ByteArray × Int × Int))) (i22 : Nat) (t : (((List (Int × Int × Int)) × Int) ⊕ (Int × Int))) (e : X) (g : Regs) (s : St) : Prop := match t with
  | (.inl t) => ∃ (A892 : Option Addr) (c893 : Nat) (e894 : Nat), e = .exit 0 ∧ g = (rg 100 [(0, (Value.slice A0 (p0).length c0)), (3, (Value.pointer (some ⟨i22, 0, none⟩))), (4, (Value.slice A892 (t.1).length c893)), (5, (Value.slice A6 (r4).length c7)), (6, (Value.int .i64 t.2)), (17, (Value.bool false))]) ∧ Cx s0.next [] [] s0 s [(i22, AObj.box 32 [(Value.int .i64 0), (Value.int .i64 0)])] [(On.mk (rP (rI .i64) (rP (rI .i64) (rI .i64))) t.1 A892 c893 40 false e894), (On.mk (rP rS (rP (rI .i64) (rI .i64))) r4 A6 c7 49 false e9)] []
  | (.inr t) => e = .ret ∧ g = (rg 100 [(2, (Value.slice none 0 0)), (3, (Value.pointer (some ⟨i22, 0, none⟩)))]) ∧ Cx s0.next [] [] s0 s [(i22, AObj.box 32 [(Value.int .i64 t.1), (Value.int .i64 t.2)])] [] []
theorem x12_1 (s0 : St) (p0 : (List Int)) (A0 : Option Addr) (c0 : Nat) (gl0 : GlobOk s0) (h0 : Sr (rI .u8) s0 A0 c0 p0) (A6 : Option Addr) (c7 : Nat) (e9 : Nat) (r4 : (List (ByteArray × Int × Int))) (i22 : Nat) (t : (((List (Int × Int × Int)) × Int) ⊕ (Int × Int))) (e : X) (g : Regs) (s : St) (h : Ex12_1 s0 p0 A0 c0 gl0 h0 A6 c7 e9 r4 i22 t e g s) : e ≠ .normal := by
  rcases t with t | t
  · obtain ⟨_, _, _, h, _⟩ := h
    rw [h]; intro hh; cases hh
  · obtain ⟨h, _⟩ := h
    rw [h]; intro hh; cases hh
def pb12_1 (n : Nat) (p0 : (List Int)) (r4 : (List (ByteArray × Int × Int))) (t : ((List (Int × Int × Int)) × Int)) : Option (((List (Int × Int × Int)) × Int) ⊕ (((List (Int × Int × Int)) × Int) ⊕ (Int × Int))) :=
  (if (decide ((t.2 : Int) < ((p0).length : Nat))) then ((rd p0 t.2 (fun x126 => ((p18 n (IntKind.wrap .i64 x126) ((r4).length : Nat)).bind fun r141 => (if (!r141) then ((p20 n 5 t.2).bind fun r146 => (((some (.inr (.inr (r146.1, r146.2))))))) else (((if ((((t.1).length : Nat) : Int) == 60000) then ((p20 n 2 (-1)).bind fun r155 => (((some (.inr (.inr (r155.1, r155.2))))))) else ((((rd r4 (IntKind.wrap .i64 x126) (fun x166 => (p19 n (x166.1, x166.2.1, x166.2.2)).bind fun r187 => ((loopP (pb12_2 n p0 t.2 r187) n ((IntKind.wrap .i64 (t.2 + 1)), 0, 0, 0)).bind fun t889 => match t889 with | (.inl t668) => (apP 24 t.1 [((IntKind.wrap .i64 x126), t668.2.1, t668.2.2.1)] (fun y780 => (some (.inl ((t.1 ++ [((IntKind.wrap .i64 x126), t668.2.1, t668.2.2.1)]), t668.1))))) | (.inr t786) => ((some (.inr (.inr (t786.1, t786.2))))))))))))))))))) else (((some (.inr (.inl (t.1, t.2)))))))
theorem b12_1 (n : Nat) (s0 : St) (p0 : (List Int)) (A0 : Option Addr) (c0 : Nat) (gl0 : GlobOk s0) (h0 : Sr (rI .u8) s0 A0 c0 p0) (A6 : Option Addr) (c7 : Nat) (e9 : Nat) (r4 : (List (ByteArray × Int × Int))) (i22 : Nat) (t : ((List (Int × Int × Int)) × Int)) (g : Regs) (s123 : St) (K : Kont) (Q : Out → St → Prop) (h : Inv12_1 s0 p0 A0 c0 gl0 h0 A6 c7 e9 r4 i22 t g s123) :
    Rf (pb12_1 n p0 r4 t) (fun r => ∀ e g' s', LK (Inv12_1 s0 p0 A0 c0 gl0 h0 A6 c7 e9 r4 i22) (Ex12_1 s0 p0 A0 c0 gl0 h0 A6 c7 e9 r4 i22) r e g' s' → Ev (K e g' s') Q) (fun _ => Q) (kBody E 12 n [.b, .b, .b, .b, .a, .a, .a] g s123 K) := by
  obtain ⟨y17, x21⟩ := t
  obtain ⟨A18, c19, e20, rfl, C124⟩ := h
  rw [e12_body0 n]
  unfold pb12_1
  refine Rf.gen fun H Q hH hQ => ?_
  try dsimp only
  refine Rf.ite ?_ ?_
  · refine Rf.elt (r := (rI .u8)) (C124.sr0 rfl h0) rfl fun x126 i127 o128 c129 r130 h131 => ?_
    obtain rfl := rI_elim r130
    refine Rf.ldI (h131.at 0 rfl) ?_
    refine Rf.new C124 fun s133 (C134 : Cx s0.next [] [] s0 s133 [(s123.next, AObj.box 40 [(Value.int .i64 0), (Value.int .i64 0), (Value.int .i64 0)]), (i22, AObj.box 32 [(Value.int .i64 0), (Value.int .i64 0)])] [(On.mk (rP (rI .i64) (rP (rI .i64) (rI .i64))) y17 A18 c19 40 false e20), (On.mk (rP rS (rP (rI .i64) (rI .i64))) r4 A6 c7 49 false e9)] []) => ?_
    refine Rf.sto 0 C134 rfl (by simp) rfl fun s136 (C137 : Cx s0.next [] [] s0 s136 [(s123.next, AObj.box 40 [(Value.int .i64 (IntKind.wrap .i64 x126)), (Value.int .i64 0), (Value.int .i64 0)]), (i22, AObj.box 32 [(Value.int .i64 0), (Value.int .i64 0)])] [(On.mk (rP (rI .i64) (rP (rI .i64) (rI .i64))) y17 A18 c19 40 false e20), (On.mk (rP rS (rP (rI .i64) (rI .i64))) r4 A6 c7 49 false e9)] []) => ?_
    refine Rf.ldI (C137.at m0 rfl) ?_
    refine Rf.call0 C137 (t18 n (IntKind.wrap .i64 x126) ((r4).length : Nat) s136 (C137.gl rfl gl0)) ?_
    rintro r141 _ s142 rfl h144
    have C145 : Cx s0.next [] [] s0 s142 [(s123.next, AObj.box 40 [(Value.int .i64 (IntKind.wrap .i64 x126)), (Value.int .i64 0), (Value.int .i64 0)]), (i22, AObj.box 32 [(Value.int .i64 0), (Value.int .i64 0)])] [(On.mk (rP (rI .i64) (rP (rI .i64) (rI .i64))) y17 A18 c19 40 false e20), (On.mk (rP rS (rP (rI .i64) (rI .i64))) r4 A6 c7 49 false e9)] [] := h144 [] (by simp) List.Pairwise.nil
    refine (Rf.asB ?_)
    refine Rf.ite ?_ ?_
    · refine Rf.call0 C145 (t20 n 5 x21 s142 (C145.gl rfl gl0)) ?_
      rintro r146 _ s147 rfl h150
      have C151 : Cx s0.next [] [] s0 s147 [(s123.next, AObj.box 40 [(Value.int .i64 (IntKind.wrap .i64 x126)), (Value.int .i64 0), (Value.int .i64 0)]), (i22, AObj.box 32 [(Value.int .i64 0), (Value.int .i64 0)])] [(On.mk (rP (rI .i64) (rP (rI .i64) (rI .i64))) y17 A18 c19 40 false e20), (On.mk (rP rS (rP (rI .i64) (rI .i64))) r4 A6 c7 49 false e9)] [] := h150 [] (by simp) List.Pairwise.nil
      refine (Rf.asAgg (Rf.unc (Rf.asI (Rf.unc (Rf.asI (Rf.unn ?_))))))
      refine Rf.sto 1 C151 rfl (by simp) rfl fun s152 (C153 : Cx s0.next [] [] s0 s152 [(s123.next, AObj.box 40 [(Value.int .i64 (IntKind.wrap .i64 x126)), (Value.int .i64 0), (Value.int .i64 0)]), (i22, AObj.box 32 [(Value.int .i64 r146.1), (Value.int .i64 r146.2)])] [(On.mk (rP (rI .i64) (rP (rI .i64) (rI .i64))) y17 A18 c19 40 false e20), (On.mk (rP rS (rP (rI .i64) (rI .i64))) r4 A6 c7 49 false e9)] []) => ?_
      subst hH; subst hQ
      exact Rf.leaf fun h => h _ _ _ ⟨rfl, rfl, (C153.sub (List.Sublist.cons _ (List.Sublist.cons_cons _ List.Sublist.slnil)) (List.Sublist.cons _ (List.Sublist.cons _ List.Sublist.slnil)) (List.Sublist.refl _))⟩
    · refine Rf.asSl ?_
      refine Rf.ite ?_ ?_
      · refine Rf.call0 C145 (t20 n 2 (-1) s142 (C145.gl rfl gl0)) ?_
        rintro r155 _ s156 rfl h159
        have C160 : Cx s0.next [] [] s0 s156 [(s123.next, AObj.box 40 [(Value.int .i64 (IntKind.wrap .i64 x126)), (Value.int .i64 0), (Value.int .i64 0)]), (i22, AObj.box 32 [(Value.int .i64 0), (Value.int .i64 0)])] [(On.mk (rP (rI .i64) (rP (rI .i64) (rI .i64))) y17 A18 c19 40 false e20), (On.mk (rP rS (rP (rI .i64) (rI .i64))) r4 A6 c7 49 false e9)] [] := h159 [] (by simp) List.Pairwise.nil
        refine (Rf.asAgg (Rf.unc (Rf.asI (Rf.unc (Rf.asI (Rf.unn ?_))))))
        refine Rf.sto 1 C160 rfl (by simp) rfl fun s161 (C162 : Cx s0.next [] [] s0 s161 [(s123.next, AObj.box 40 [(Value.int .i64 (IntKind.wrap .i64 x126)), (Value.int .i64 0), (Value.int .i64 0)]), (i22, AObj.box 32 [(Value.int .i64 r155.1), (Value.int .i64 r155.2)])] [(On.mk (rP (rI .i64) (rP (rI .i64) (rI .i64))) y17 A18 c19 40 false e20), (On.mk (rP rS (rP (rI .i64) (rI .i64))) r4 A6 c7 49 false e9)] []) => ?_
        subst hH; subst hQ
        exact Rf.leaf fun h => h _ _ _ ⟨rfl, rfl, (C162.sub (List.Sublist.cons _ (List.Sublist.cons_cons _ List.Sublist.slnil)) (List.Sublist.cons _ (List.Sublist.cons _ List.Sublist.slnil)) (List.Sublist.refl _))⟩
      · refine Rf.ldI (C145.at m0 rfl) ?_
        refine Rf.elt (r := (rP rS (rP (rI .i64) (rI .i64)))) (C145.srB m1) rfl fun x166 i167 o168 c169 r170 h171 => ?_
        obtain ⟨c176, c177, rfl, r178, r179⟩ := rP_elim r170
        obtain rfl := rS_elim r178
        obtain ⟨c180, c181, rfl, r182, r183⟩ := rP_elim r179
        obtain rfl := rI_elim r182
        obtain rfl := rI_elim r183
        refine Rf.ldS (h171.at 0 rfl) ?_
        refine Rf.ldI (h171.at 1 rfl) ?_
        refine Rf.ldI (h171.at 2 rfl) ?_
        refine Rf.call0 C145 (t19 n (x166.1, x166.2.1, x166.2.2) s142 (C145.gl rfl gl0)) ?_
        rintro r187 _ s188 rfl h190
        have C191 : Cx s0.next [] [] s0 s188 [(s123.next, AObj.box 40 [(Value.int .i64 (IntKind.wrap .i64 x126)), (Value.int .i64 0), (Value.int .i64 0)]), (i22, AObj.box 32 [(Value.int .i64 0), (Value.int .i64 0)])] [(On.mk (rP (rI .i64) (rP (rI .i64) (rI .i64))) y17 A18 c19 40 false e20), (On.mk (rP rS (rP (rI .i64) (rI .i64))) r4 A6 c7 49 false e9)] [] := h190 [] (by simp) List.Pairwise.nil
        refine (Rf.asI ?_)
        refine Rf.loop (Inv := Inv12_2 s0 p0 A0 c0 gl0 h0 A6 c7 e9 r4 A18 c19 e20 i22 x21 y17 s123.next r187 x126) (Ex := Ex12_2 s0 p0 A0 c0 gl0 h0 A6 c7 e9 r4 A18 c19 e20 i22 x21 y17 s123.next r187 x126) (x12_2 s0 p0 A0 c0 gl0 h0 A6 c7 e9 r4 A18 c19 e20 i22 x21 y17 s123.next r187 x126) (fun t g s K Q h => b12_2 n s0 p0 A0 c0 gl0 h0 A6 c7 e9 r4 A18 c19 e20 i22 x21 y17 s123.next r187 x126 t g s K Q h) n _ _ _ ⟨rfl, (C191.sub (List.Sublist.refl _) (List.Sublist.refl _) (List.Sublist.refl _))⟩ ?_
        intro t e g s h
        rcases t with t668 | t786
        · generalize s = s769 at h ⊢
          obtain ⟨rfl, rfl, C770⟩ := h
          rw [e12_after1_exit2 n]
          refine Rf.ldI (C770.at m0 rfl) ?_
          refine Rf.ldI (C770.at m0 rfl) ?_
          refine Rf.ldI (C770.at m0 rfl) ?_
          refine Rf.newR (r := (rP (rI .i64) (rP (rI .i64) (rI .i64)))) (xs := [((IntKind.wrap .i64 x126), t668.2.1, t668.2.2.1)]) C770 rfl (many.cons (c := [(Value.int .i64 (IntKind.wrap .i64 x126)), (Value.int .i64 t668.2.1), (Value.int .i64 t668.2.2.1)]) (rP_mk rI_mk (rP_mk rI_mk rI_mk)) many.nil) fun s774 (C775 : Cx s0.next [] [] s0 s774 [(s123.next, AObj.box 40 [(Value.int .i64 (IntKind.wrap .i64 x126)), (Value.int .i64 t668.2.1), (Value.int .i64 t668.2.2.1)]), (i22, AObj.box 32 [(Value.int .i64 0), (Value.int .i64 0)])] [(On.mk (rP (rI .i64) (rP (rI .i64) (rI .i64))) [((IntKind.wrap .i64 x126), t668.2.1, t668.2.2.1)] (some ⟨s769.next, 0, none⟩) 1 40 false s769.next), (On.mk (rP (rI .i64) (rP (rI .i64) (rI .i64))) y17 A18 c19 40 false e20), (On.mk (rP rS (rP (rI .i64) (rI .i64))) r4 A6 c7 49 false e9)] []) => ?_
          refine Rf.kapp 1 C775 rfl rfl (by decide) (by decide) (Ap.sr u22 rfl (C775.srB m0)) fun A777 c778 e779 s782 (C783 : Cx s0.next [] [] s0 s782 [(s123.next, AObj.box 40 [(Value.int .i64 (IntKind.wrap .i64 x126)), (Value.int .i64 t668.2.1), (Value.int .i64 t668.2.2.1)]), (i22, AObj.box 32 [(Value.int .i64 0), (Value.int .i64 0)])] [(On.mk (rP (rI .i64) (rP (rI .i64) (rI .i64))) [((IntKind.wrap .i64 x126), t668.2.1, t668.2.2.1)] (some ⟨s769.next, 0, none⟩) 1 40 false s769.next), (On.mk (rP (rI .i64) (rP (rI .i64) (rI .i64))) (y17 ++ [((IntKind.wrap .i64 x126), t668.2.1, t668.2.2.1)]) A777 c778 40 false e779), (On.mk (rP rS (rP (rI .i64) (rI .i64))) r4 A6 c7 49 false e9)] []) => ?_
          have C784 : Cx s0.next [] [] s0 s782 [(s123.next, AObj.box 40 [(Value.int .i64 (IntKind.wrap .i64 x126)), (Value.int .i64 t668.2.1), (Value.int .i64 t668.2.2.1)]), (i22, AObj.box 32 [(Value.int .i64 0), (Value.int .i64 0)])] [(On.mk (rP (rI .i64) (rP (rI .i64) (rI .i64))) (y17 ++ [((IntKind.wrap .i64 x126), t668.2.1, t668.2.2.1)]) A777 c778 40 false e779), (On.mk (rP rS (rP (rI .i64) (rI .i64))) r4 A6 c7 49 false e9)] [] := C783.sub (List.Sublist.refl _) (List.Sublist.cons _ (List.Sublist.cons_cons _ (List.Sublist.cons_cons _ List.Sublist.slnil))) (List.Sublist.refl _)
          subst hH; subst hQ
          exact Rf.leaf fun h => h _ _ _ ⟨rfl, _, _, _, rfl, (C784.sub (List.Sublist.cons _ (List.Sublist.cons_cons _ List.Sublist.slnil)) (List.Sublist.refl _) (List.Sublist.refl _))⟩
        · generalize s = s887 at h ⊢
          obtain ⟨rfl, rfl, C888⟩ := h
          rw [e12_after1_ret n]
          subst hH; subst hQ
          exact Rf.leaf fun h => h _ _ _ ⟨rfl, rfl, (C888.sub (List.Sublist.refl _) (List.Sublist.refl _) (List.Sublist.refl _))⟩
  · subst hH; subst hQ
    exact Rf.leaf fun h => h _ _ _ ⟨_, _, _, rfl, rfl, (C124.sub (List.Sublist.refl _) (List.Sublist.refl _) (List.Sublist.refl _))⟩
abbrev P12 (N : Nat) (X : List Nat) (r : ((List (Int × Int × Int)) × (Int × Int))) (v : Value) (s : St) : Prop := ∃ (A0 : Option Addr) (c0 : Nat) (e0 : Nat), v = (Value.tuple #[(Value.slice A0 (r.1).length c0), (Value.agg #[(Value.int .i64 r.2.1), (Value.int .i64 r.2.2)])]) ∧ (On.mk (rP (rI .i64) (rP (rI .i64) (rI .i64))) r.1 A0 c0 40 false e0).holds N X s
def p12 : Nat → (List Int) → Option ((List (Int × Int × Int)) × (Int × Int))
  | 0, _ => none
  | n + 1, p0 => (((p17 n).bind fun r4 => (((loopP (pb12_1 n p0 r4) n (([] : List (Int × Int × Int)), 0)).bind fun t1110 => match t1110 with | (.inl t898) => ((some ((t898.1, (0, 0)) : ((List (Int × Int × Int)) × (Int × Int))))) | (.inr t1005) => (some ((([] : (List (Int × Int × Int))), (t1005.1, t1005.2)) : ((List (Int × Int × Int)) × (Int × Int))))))))
theorem t12 (k : Nat) (p0 : (List Int)) (s0 : St) {A0 : Option Addr} {c0 : Nat} (gl0 : GlobOk s0) (h0 : Sr (rI .u8) s0 A0 c0 p0) :
    Rf (p12 k p0) (fun _ => True) (fun r => RtC s0.next [] [] s0 (P12 s0.next [] r)) (acall E k 12 [(Value.slice A0 (p0).length c0)] s0) := by
  cases k with
  | zero => exact Rf.none
  | succ n =>
    rw [e12 n]
    rw [p12]
    refine Rf.gen fun H Q hH hQ => ?_
    have C0 : Cx s0.next [] [] s0 s0 [] [] [] := Cx.start s0
    refine Rf.new C0 fun s1 (C2 : Cx s0.next [] [] s0 s1 [(s0.next, AObj.box 32 [(Value.int .i64 0), (Value.int .i64 0)])] [] []) => ?_
    refine Rf.call0 C2 (t17 n s1 (C2.gl rfl gl0)) ?_
    rintro r4 _ s5 ⟨A6, c7, e9, rfl, h8⟩ h12
    have C13 : Cx s0.next [] [] s0 s5 [(s0.next, AObj.box 32 [(Value.int .i64 0), (Value.int .i64 0)])] [(On.mk (rP rS (rP (rI .i64) (rI .i64))) r4 A6 c7 49 false e9)] [] := h12 [(On.mk (rP rS (rP (rI .i64) (rI .i64))) r4 A6 c7 49 false e9)] (by simpa using h8) (List.pairwise_singleton _ _)
    refine (Rf.asSl ?_)
    have C14 : Cx s0.next [] [] s0 s5 [(s0.next, AObj.box 32 [(Value.int .i64 0), (Value.int .i64 0)])] [(On.mk (rP (rI .i64) (rP (rI .i64) (rI .i64))) ([] : List (Int × Int × Int)) none 0 40 false 0), (On.mk (rP rS (rP (rI .i64) (rI .i64))) r4 A6 c7 49 false e9)] [] := C13.addNil (rP (rI .i64) (rP (rI .i64) (rI .i64))) 40
    refine Rf.loop (Inv := Inv12_1 s0 p0 A0 c0 gl0 h0 A6 c7 e9 r4 s0.next) (Ex := Ex12_1 s0 p0 A0 c0 gl0 h0 A6 c7 e9 r4 s0.next) (x12_1 s0 p0 A0 c0 gl0 h0 A6 c7 e9 r4 s0.next) (fun t g s K Q h => b12_1 n s0 p0 A0 c0 gl0 h0 A6 c7 e9 r4 s0.next t g s K Q h) n _ _ _ ⟨_, _, _, rfl, (C14.sub (List.Sublist.refl _) (List.Sublist.refl _) (List.Sublist.refl _))⟩ ?_
    intro t e g s h
    rcases t with t898 | t1005
    · generalize s = s999 at h ⊢
      obtain ⟨A892, c893, e894, rfl, rfl, C1000⟩ := h
      rw [e12_after0_exit0 n]
      refine Rf.sto 0 C1000 rfl (by simp) rfl fun s1001 (C1002 : Cx s0.next [] [] s0 s1001 [(s0.next, AObj.box 32 [(Value.int .i64 0), (Value.int .i64 0)])] [(On.mk (rP (rI .i64) (rP (rI .i64) (rI .i64))) t898.1 A892 c893 40 false e894), (On.mk (rP rS (rP (rI .i64) (rI .i64))) r4 A6 c7 49 false e9)] []) => ?_
      refine Rf.ldI (C1002.at m0 rfl) ?_
      refine Rf.ldI (C1002.at m0 rfl) ?_
      subst hH; subst hQ
      exact Rf.leaf fun _ => Ev.done (Rf.ret C1002 ⟨_, _, _, rfl, C1002.own _ m0⟩)
    · generalize s = s1106 at h ⊢
      obtain ⟨rfl, rfl, C1107⟩ := h
      rw [e12_after0_ret n]
      refine Rf.ldI (C1107.at m0 rfl) ?_
      refine Rf.ldI (C1107.at m0 rfl) ?_
      subst hH; subst hQ
      exact Rf.leaf fun _ => Ev.done (Rf.ret C1107 ⟨none, 0, 0, rfl, .inl ⟨rfl, rfl, rfl⟩⟩)
-- 3 "brindlewood/brindlewoodlaw8.OpcodeEncodeMatchesSpec"
abbrev P3 (N : Nat) (X : List Nat) (r : Bool) (v : Value) (s : St) : Prop := v = (Value.bool r)
def p3 : Nat → (List (Int × Int × Int)) → Int → Option Bool
  | 0, _, _ => none
  | n + 1, p0, p1 => ((p4 n).bind fun r1 => (pj (fun (b43 : Bool) => if b43 then (((some (false : Bool)))) else (((p9 n p0).bind fun r47 => ((p10 n p0).bind fun r64 => (pj (fun (b91 : Bool) => if b91 then (((some (false : Bool)))) else (((if ((r47.2.1 : Int) != 0) then (((some (true : Bool)))) else (((p12 n r47.1).bind fun r98 => (pj (fun (b124 : Bool) => some (b124 : Bool)) (fun J123 => if ((r98.2.1 : Int) == 0) then ((p13 n p0 r98.1).bind fun r118 => (J123 r118)) else ((J123 false)))))))))) (fun J90 => if (!(((r47.2.1 : Int) == r64.2.1) && (((r47.2.2 : Int) == r64.2.2) && true))) then ((J90 true)) else ((p11 n r47.1 r64.1).bind fun r85 => (J90 (!r85))))))))) (fun J42 => (p6 n).bind fun r17 => (p5 n r17 r1.1).bind fun r27 => if (!r27) then ((J42 true)) else ((p7 n p1).bind fun r32 => (p8 n r1.2 p1).bind fun r37 => (J42 ((r32 : Int) != r37))))))
theorem t3 (k : Nat) (p0 : (List (Int × Int × Int))) (p1 : Int) (s0 : St) {A0 : Option Addr} {c0 : Nat} (gl0 : GlobOk s0) (h0 : Sr (rP (rI .i64) (rP (rI .i64) (rI .i64))) s0 A0 c0 p0) :
    Rf (p3 k p0 p1) (fun _ => True) (fun r => RtC s0.next [] [] s0 (P3 s0.next [] r)) (acall E k 3 [(Value.slice A0 (p0).length c0), (Value.int .i64 p1)] s0) := by
  cases k with
  | zero => exact Rf.none
  | succ n =>
    rw [e3 n]
    rw [p3]
    refine Rf.gen fun H Q hH hQ => ?_
    have C0 : Cx s0.next [] [] s0 s0 [] [] [] := Cx.start s0
    refine Rf.call0 C0 (t4 n s0 (C0.gl rfl gl0)) ?_
    rintro r1 _ s2 ⟨A3, c4, e6, A8, c9, rfl, h5, h10⟩ h14
    have C15 : Cx s0.next [] [] s0 s2 [] [(On.mk rS r1.1 A3 c4 9 false e6)] [] := h14 [(On.mk rS r1.1 A3 c4 9 false e6)] (by simpa using h5) (List.pairwise_singleton _ _)
    have C16 := C15.add (Fa.sr rS A8 c9 r1.2) h10
    refine (Rf.asTup (Rf.unc (Rf.asSl (Rf.unc (Rf.asSl (Rf.unn ?_))))))
    refine Rf.pj fun J42 J42' hJ42 hJ42' => ?_
    have J42h : ∀ (b43 : Bool) (s45 : St) (_ : Cx s0.next [] [] s0 s45 [] [] []), Rf (J42 b43) H Q (J42' b43 s45) := by
      subst hJ42
      subst hJ42'
      intro b43 s45 C46
      refine Rf.ite ?_ ?_
      · subst hH; subst hQ
        exact Rf.leaf fun _ => Ev.done (Rf.ret C46 rfl)
      · refine Rf.call0 C46 (t9 n p0 s45 (C46.gl rfl gl0) (C46.sr0 rfl h0)) ?_
        rintro r47 _ s48 ⟨A49, c50, e52, rfl, h51⟩ h57
        have C58 : Cx s0.next [] [] s0 s48 [] [(On.mk (rI .u8) r47.1 A49 c50 5 false e52)] [] := h57 [(On.mk (rI .u8) r47.1 A49 c50 5 false e52)] (by simpa using h51) (List.pairwise_singleton _ _)
        refine (Rf.asTup (Rf.unc (Rf.asSl (Rf.unc (Rf.asAgg (Rf.unc (Rf.asI (Rf.unc (Rf.asI (Rf.unn (Rf.unn ?_)))))))))))
        refine Rf.new C58 fun s59 (C60 : Cx s0.next [] [] s0 s59 [(s48.next, AObj.box 32 [(Value.int .i64 0), (Value.int .i64 0)])] [(On.mk (rI .u8) r47.1 A49 c50 5 false e52)] []) => ?_
        refine Rf.sto 0 C60 rfl (by simp) rfl fun s62 (C63 : Cx s0.next [] [] s0 s62 [(s48.next, AObj.box 32 [(Value.int .i64 r47.2.1), (Value.int .i64 r47.2.2)])] [(On.mk (rI .u8) r47.1 A49 c50 5 false e52)] []) => ?_
        refine Rf.call0 C63 (t10 n p0 s62 (C63.gl rfl gl0) (C63.sr0 rfl h0)) ?_
        rintro r64 _ s65 ⟨A66, c67, e69, rfl, h68⟩ h74
        have C75 : Cx s0.next [] [] s0 s65 [(s48.next, AObj.box 32 [(Value.int .i64 r47.2.1), (Value.int .i64 r47.2.2)])] [(On.mk (rI .u8) r64.1 A66 c67 5 false e69), (On.mk (rI .u8) r47.1 A49 c50 5 false e52)] [] := h74 [(On.mk (rI .u8) r64.1 A66 c67 5 false e69)] (by simpa using h68) (List.pairwise_singleton _ _)
        refine (Rf.asTup (Rf.unc (Rf.asSl (Rf.unc (Rf.asAgg (Rf.unc (Rf.asI (Rf.unc (Rf.asI (Rf.unn (Rf.unn ?_)))))))))))
        refine Rf.new C75 fun s76 (C77 : Cx s0.next [] [] s0 s76 [(s65.next, AObj.box 32 [(Value.int .i64 0), (Value.int .i64 0)]), (s48.next, AObj.box 32 [(Value.int .i64 r47.2.1), (Value.int .i64 r47.2.2)])] [(On.mk (rI .u8) r64.1 A66 c67 5 false e69), (On.mk (rI .u8) r47.1 A49 c50 5 false e52)] []) => ?_
        refine Rf.sto 0 C77 rfl (by simp) rfl fun s79 (C80 : Cx s0.next [] [] s0 s79 [(s65.next, AObj.box 32 [(Value.int .i64 r64.2.1), (Value.int .i64 r64.2.2)]), (s48.next, AObj.box 32 [(Value.int .i64 r47.2.1), (Value.int .i64 r47.2.2)])] [(On.mk (rI .u8) r64.1 A66 c67 5 false e69), (On.mk (rI .u8) r47.1 A49 c50 5 false e52)] []) => ?_
        refine Rf.pj fun J90 J90' hJ90 hJ90' => ?_
        have J90h : ∀ (b91 : Bool) (s93 : St) (_ : Cx s0.next [] [] s0 s93 [(s48.next, AObj.box 32 [(Value.int .i64 r47.2.1), (Value.int .i64 r47.2.2)])] [(On.mk (rI .u8) r47.1 A49 c50 5 false e52)] []), Rf (J90 b91) H Q (J90' b91 s93) := by
          subst hJ90
          subst hJ90'
          intro b91 s93 C94
          refine Rf.ite ?_ ?_
          · subst hH; subst hQ
            exact Rf.leaf fun _ => Ev.done (Rf.ret C94 rfl)
          · refine Rf.ldI (C94.at m0 rfl) ?_
            refine Rf.ite ?_ ?_
            · subst hH; subst hQ
              exact Rf.leaf fun _ => Ev.done (Rf.ret C94 rfl)
            · refine Rf.call0 C94 (t12 n r47.1 s93 (C94.gl rfl gl0) (C94.srB m0)) ?_
              rintro r98 _ s99 ⟨A100, c101, e103, rfl, h102⟩ h108
              have C109 : Cx s0.next [] [] s0 s99 [(s48.next, AObj.box 32 [(Value.int .i64 r47.2.1), (Value.int .i64 r47.2.2)])] [(On.mk (rP (rI .i64) (rP (rI .i64) (rI .i64))) r98.1 A100 c101 40 false e103), (On.mk (rI .u8) r47.1 A49 c50 5 false e52)] [] := h108 [(On.mk (rP (rI .i64) (rP (rI .i64) (rI .i64))) r98.1 A100 c101 40 false e103)] (by simpa using h102) (List.pairwise_singleton _ _)
              refine (Rf.asTup (Rf.unc (Rf.asSl (Rf.unc (Rf.asAgg (Rf.unc (Rf.asI (Rf.unc (Rf.asI (Rf.unn (Rf.unn ?_)))))))))))
              refine Rf.new C109 fun s110 (C111 : Cx s0.next [] [] s0 s110 [(s99.next, AObj.box 32 [(Value.int .i64 0), (Value.int .i64 0)]), (s48.next, AObj.box 32 [(Value.int .i64 r47.2.1), (Value.int .i64 r47.2.2)])] [(On.mk (rP (rI .i64) (rP (rI .i64) (rI .i64))) r98.1 A100 c101 40 false e103), (On.mk (rI .u8) r47.1 A49 c50 5 false e52)] []) => ?_
              refine Rf.sto 0 C111 rfl (by simp) rfl fun s113 (C114 : Cx s0.next [] [] s0 s113 [(s99.next, AObj.box 32 [(Value.int .i64 r98.2.1), (Value.int .i64 r98.2.2)]), (s48.next, AObj.box 32 [(Value.int .i64 r47.2.1), (Value.int .i64 r47.2.2)])] [(On.mk (rP (rI .i64) (rP (rI .i64) (rI .i64))) r98.1 A100 c101 40 false e103), (On.mk (rI .u8) r47.1 A49 c50 5 false e52)] []) => ?_
              refine Rf.pj fun J123 J123' hJ123 hJ123' => ?_
              have J123h : ∀ (b124 : Bool) (s126 : St) (_ : Cx s0.next [] [] s0 s126 [] [] []), Rf (J123 b124) H Q (J123' b124 s126) := by
                subst hJ123
                subst hJ123'
                intro b124 s126 C127
                subst hH; subst hQ
                exact Rf.leaf fun _ => Ev.done (Rf.ret C127 rfl)
              clear hJ123 hJ123'
              refine Rf.ldI (C114.at m0 rfl) ?_
              refine Rf.ite ?_ ?_
              · refine Rf.call0 C114 (t13 n p0 r98.1 s113 (C114.gl rfl gl0) (C114.sr0 rfl h0) (C114.srB m0)) ?_
                rintro r118 _ s119 rfl h121
                have C122 : Cx s0.next [] [] s0 s119 [(s99.next, AObj.box 32 [(Value.int .i64 r98.2.1), (Value.int .i64 r98.2.2)]), (s48.next, AObj.box 32 [(Value.int .i64 r47.2.1), (Value.int .i64 r47.2.2)])] [(On.mk (rP (rI .i64) (rP (rI .i64) (rI .i64))) r98.1 A100 c101 40 false e103), (On.mk (rI .u8) r47.1 A49 c50 5 false e52)] [] := h121 [] (by simp) List.Pairwise.nil
                refine (Rf.asB ?_)
                exact J123h r118 _ (C122.sub (List.Sublist.cons _ (List.Sublist.cons _ List.Sublist.slnil)) (List.Sublist.cons _ (List.Sublist.cons _ List.Sublist.slnil)) (List.Sublist.refl _))
              · exact J123h false _ (C114.sub (List.Sublist.cons _ (List.Sublist.cons _ List.Sublist.slnil)) (List.Sublist.cons _ (List.Sublist.cons _ List.Sublist.slnil)) (List.Sublist.refl _))
        clear hJ90 hJ90'
        refine Rf.ldI (C80.at m1 rfl) ?_
        refine Rf.ldI (C80.at m1 rfl) ?_
        refine Rf.ldI (C80.at m0 rfl) ?_
        refine Rf.ldI (C80.at m0 rfl) ?_
        refine Rf.ite ?_ ?_
        · exact J90h true _ (C80.sub (List.Sublist.cons _ (List.Sublist.cons_cons _ List.Sublist.slnil)) (List.Sublist.cons _ (List.Sublist.cons_cons _ List.Sublist.slnil)) (List.Sublist.refl _))
        · refine Rf.call0 C80 (t11 n r47.1 r64.1 s79 (C80.gl rfl gl0) (C80.srB m1) (C80.srB m0)) ?_
          rintro r85 _ s86 rfl h88
          have C89 : Cx s0.next [] [] s0 s86 [(s65.next, AObj.box 32 [(Value.int .i64 r64.2.1), (Value.int .i64 r64.2.2)]), (s48.next, AObj.box 32 [(Value.int .i64 r47.2.1), (Value.int .i64 r47.2.2)])] [(On.mk (rI .u8) r64.1 A66 c67 5 false e69), (On.mk (rI .u8) r47.1 A49 c50 5 false e52)] [] := h88 [] (by simp) List.Pairwise.nil
          refine (Rf.asB ?_)
          exact J90h (!r85) _ (C89.sub (List.Sublist.cons _ (List.Sublist.cons_cons _ List.Sublist.slnil)) (List.Sublist.cons _ (List.Sublist.cons_cons _ List.Sublist.slnil)) (List.Sublist.refl _))
    clear hJ42 hJ42'
    refine Rf.call0 C16 (t6 n s2 (C16.gl rfl gl0)) ?_
    rintro r17 _ s18 ⟨A19, c20, e22, rfl, h21⟩ h25
    have C26 : Cx s0.next [] [] s0 s18 [] [(On.mk rS r17 A19 c20 9 false e22), (On.mk rS r1.1 A3 c4 9 false e6)] [(Fa.sr rS A8 c9 r1.2)] := h25 [(On.mk rS r17 A19 c20 9 false e22)] (by simpa using h21) (List.pairwise_singleton _ _)
    refine (Rf.asSl ?_)
    refine Rf.call0 C26 (t5 n r17 r1.1 s18 (C26.gl rfl gl0) (C26.srB m0) (C26.srB m1)) ?_
    rintro r27 _ s28 rfl h30
    have C31 : Cx s0.next [] [] s0 s28 [] [(On.mk rS r17 A19 c20 9 false e22), (On.mk rS r1.1 A3 c4 9 false e6)] [(Fa.sr rS A8 c9 r1.2)] := h30 [] (by simp) List.Pairwise.nil
    refine (Rf.asB ?_)
    refine Rf.ite ?_ ?_
    · exact J42h true _ (C31.sub (List.Sublist.refl _) (List.Sublist.cons _ (List.Sublist.cons _ List.Sublist.slnil)) (List.Sublist.cons _ List.Sublist.slnil))
    · refine Rf.call0 C31 (t7 n p1 s28 (C31.gl rfl gl0)) ?_
      rintro r32 _ s33 rfl h35
      have C36 : Cx s0.next [] [] s0 s33 [] [(On.mk rS r17 A19 c20 9 false e22), (On.mk rS r1.1 A3 c4 9 false e6)] [(Fa.sr rS A8 c9 r1.2)] := h35 [] (by simp) List.Pairwise.nil
      refine (Rf.asI ?_)
      refine Rf.call0 C36 (t8 n r1.2 p1 s33 (C36.gl rfl gl0) (C36.srG m0)) ?_
      rintro r37 _ s38 rfl h40
      have C41 : Cx s0.next [] [] s0 s38 [] [(On.mk rS r17 A19 c20 9 false e22), (On.mk rS r1.1 A3 c4 9 false e6)] [(Fa.sr rS A8 c9 r1.2)] := h40 [] (by simp) List.Pairwise.nil
      refine (Rf.asI ?_)
      exact J42h ((r32 : Int) != r37) _ (C41.sub (List.Sublist.refl _) (List.Sublist.cons _ (List.Sublist.cons _ List.Sublist.slnil)) (List.Sublist.cons _ List.Sublist.slnil))
end Go.Proofs.YtmjignphadnadaaDoorF
