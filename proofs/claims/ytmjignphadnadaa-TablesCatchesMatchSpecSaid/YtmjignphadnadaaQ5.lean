/- Law 5 of the tables' laws, told as plain functions. -/
import Derived.Test.YtmjignphadnadaaG2
import Derived.Test.YtmjignphadnadaaP1
import Derived.Test.YtmjignphadnadaaX5
set_option linter.unusedVariables false
set_option linter.unusedSimpArgs false
namespace Go.Proofs.YtmjignphadnadaaF
open Go Go.Proofs
set_option maxRecDepth 100000

-- 5 "brindlewood/brindlewoodlaw8.TablesCatchesMatchSpec"
abbrev Inv5_2 (s0 : St) (p0 : (List (Int × Int × Int × Int))) (p1 : Int) (A0 : Option Addr) (c0 : Nat) (h0 : Sr (rP (rI .i64) (rP (rI .i64) (rP (rI .i64) (rI .i64)))) s0 A0 c0 p0) (A15 : Option Addr) (A32 : Option Addr) (c16 : Nat) (c33 : Nat) (e18 : Nat) (e35 : Nat) (r13 : ((List Int) × (Int × Int))) (r30 : ((List Int) × (Int × Int))) (A114 : Option Addr) (c115 : Nat) (e117 : Nat) (i300 : Nat) (x118 : Int) (x264 : (Int × Int × Int × Int)) (y116 : (List Int)) (t : (Bool × Int)) (g : Regs) (s : St) : Prop := g = (rg 142 [(0, (Value.slice A0 (p0).length c0)), (7, (Value.slice A15 (r13.1).length c16)), (9, (Value.slice A32 (r30.1).length c33)), (12, (Value.slice A114 (y116).length c115)), (13, (Value.int .i64 x118)), (14, (Value.pointer (some ⟨i300, 0, none⟩))), (15, (Value.bool t.1)), (16, (Value.int .i64 t.2)), (94, (Value.slice A0 (p0).length c0)), (95, (Value.int .i64 ((p0).length : Nat))), (96, (Value.int .i64 x118))]) ∧ Cx s0.next [] [] s0 s [(i300, AObj.box 51 [(Value.int .i64 x264.1), (Value.int .i64 x264.2.1), (Value.int .i64 x264.2.2.1), (Value.int .i64 x264.2.2.2)])] [(On.mk (rI .i64) y116 A114 c115 3 false e117), (On.mk (rI .u8) r30.1 A32 c33 5 false e35), (On.mk (rI .i64) r13.1 A15 c16 3 false e18)] []
abbrev Ex5_2 (s0 : St) (p0 : (List (Int × Int × Int × Int))) (p1 : Int) (A0 : Option Addr) (c0 : Nat) (h0 : Sr (rP (rI .i64) (rP (rI .i64) (rP (rI .i64) (rI .i64)))) s0 A0 c0 p0) (A15 : Option Addr) (A32 : Option Addr) (c16 : Nat) (c33 : Nat) (e18 : Nat) (e35 : Nat) (r13 : ((List Int) × (Int × Int))) (r30 : ((List Int) × (Int × Int))) (A114 : Option Addr) (c115 : Nat) (e117 : Nat) (i300 : Nat) (x118 : Int) (x264 : (Int × Int × Int × Int)) (y116 : (List Int)) (t : (Bool × Int)) (e : X) (g : Regs) (s : St) : Prop := e = .exit 2 ∧ g = (rg 142 [(0, (Value.slice A0 (p0).length c0)), (7, (Value.slice A15 (r13.1).length c16)), (9, (Value.slice A32 (r30.1).length c33)), (12, (Value.slice A114 (y116).length c115)), (13, (Value.int .i64 x118)), (14, (Value.pointer (some ⟨i300, 0, none⟩))), (15, (Value.bool t.1)), (16, (Value.int .i64 t.2)), (94, (Value.slice A0 (p0).length c0)), (95, (Value.int .i64 ((p0).length : Nat))), (96, (Value.int .i64 x118)), (106, (Value.bool false))]) ∧ Cx s0.next [] [] s0 s [(i300, AObj.box 51 [(Value.int .i64 x264.1), (Value.int .i64 x264.2.1), (Value.int .i64 x264.2.2.1), (Value.int .i64 x264.2.2.2)])] [(On.mk (rI .i64) y116 A114 c115 3 false e117), (On.mk (rI .u8) r30.1 A32 c33 5 false e35), (On.mk (rI .i64) r13.1 A15 c16 3 false e18)] []
theorem x5_2 (s0 : St) (p0 : (List (Int × Int × Int × Int))) (p1 : Int) (A0 : Option Addr) (c0 : Nat) (h0 : Sr (rP (rI .i64) (rP (rI .i64) (rP (rI .i64) (rI .i64)))) s0 A0 c0 p0) (A15 : Option Addr) (A32 : Option Addr) (c16 : Nat) (c33 : Nat) (e18 : Nat) (e35 : Nat) (r13 : ((List Int) × (Int × Int))) (r30 : ((List Int) × (Int × Int))) (A114 : Option Addr) (c115 : Nat) (e117 : Nat) (i300 : Nat) (x118 : Int) (x264 : (Int × Int × Int × Int)) (y116 : (List Int)) (t : (Bool × Int)) (e : X) (g : Regs) (s : St) (h : Ex5_2 s0 p0 p1 A0 c0 h0 A15 A32 c16 c33 e18 e35 r13 r30 A114 c115 e117 i300 x118 x264 y116 t e g s) : e ≠ .normal := by
  obtain ⟨h, _⟩ := h
  rw [h]; intro hh; cases hh
def pb5_2 (n : Nat) (p0 : (List (Int × Int × Int × Int))) (x118 : Int) (x264 : (Int × Int × Int × Int)) (t : (Bool × Int)) : Option ((Bool × Int) ⊕ (Bool × Int)) :=
  (if (decide ((t.2 : Int) < x264.2.1)) then ((pj (fun (b455 : Bool) => (some (.inl (b455, (IntKind.wrap .i64 (t.2 + 1)))))) (fun J454 => if t.1 then ((J454 true)) else ((p24 n p0 t.2).bind fun r449 => (J454 ((r449 : Int) == x118)))))) else (((some (.inr (t.1, t.2))))))
theorem b5_2 (n : Nat) (s0 : St) (p0 : (List (Int × Int × Int × Int))) (p1 : Int) (A0 : Option Addr) (c0 : Nat) (h0 : Sr (rP (rI .i64) (rP (rI .i64) (rP (rI .i64) (rI .i64)))) s0 A0 c0 p0) (A15 : Option Addr) (A32 : Option Addr) (c16 : Nat) (c33 : Nat) (e18 : Nat) (e35 : Nat) (r13 : ((List Int) × (Int × Int))) (r30 : ((List Int) × (Int × Int))) (A114 : Option Addr) (c115 : Nat) (e117 : Nat) (i300 : Nat) (x118 : Int) (x264 : (Int × Int × Int × Int)) (y116 : (List Int)) (t : (Bool × Int)) (g : Regs) (s443 : St) (K : Kont) (Q : Out → St → Prop) (h : Inv5_2 s0 p0 p1 A0 c0 h0 A15 A32 c16 c33 e18 e35 r13 r30 A114 c115 e117 i300 x118 x264 y116 t g s443) :
    Rf (pb5_2 n p0 x118 x264 t) (fun r => ∀ e g' s', LK (Inv5_2 s0 p0 p1 A0 c0 h0 A15 A32 c16 c33 e18 e35 r13 r30 A114 c115 e117 i300 x118 x264 y116) (Ex5_2 s0 p0 p1 A0 c0 h0 A15 A32 c16 c33 e18 e35 r13 r30 A114 c115 e117 i300 x118 x264 y116) r e g' s' → Ev (K e g' s') Q) (fun _ => Q) (kBody E 5 n [.b, .b, .b, .b, .b, .b, .b, .a, .b, .a, .a, .b, .b, .a, .a, .b, .b, .a, .b, .a, .a] g s443 K) := by
  obtain ⟨b298, x299⟩ := t
  obtain ⟨rfl, C444⟩ := h
  rw [e5_body1 n]
  unfold pb5_2
  refine Rf.gen fun H Q hH hQ => ?_
  try dsimp only
  refine Rf.ldI (C444.at m0 rfl) ?_
  refine Rf.ite ?_ ?_
  · refine Rf.pj fun J454 J454' hJ454 hJ454' => ?_
    have J454h : ∀ (b455 : Bool) (s457 : St) (_ : Cx s0.next [] [] s0 s457 [(i300, AObj.box 51 [(Value.int .i64 x264.1), (Value.int .i64 x264.2.1), (Value.int .i64 x264.2.2.1), (Value.int .i64 x264.2.2.2)])] [(On.mk (rI .i64) y116 A114 c115 3 false e117), (On.mk (rI .u8) r30.1 A32 c33 5 false e35), (On.mk (rI .i64) r13.1 A15 c16 3 false e18)] []), Rf (J454 b455) H Q (J454' b455 s457) := by
      subst hJ454
      subst hJ454'
      intro b455 s457 C458
      subst hH; subst hQ
      exact Rf.leaf fun h => h _ _ _ ⟨rfl, rfl, (C458.sub (List.Sublist.refl _) (List.Sublist.refl _) (List.Sublist.refl _))⟩
    clear hJ454 hJ454'
    refine Rf.ite ?_ ?_
    · exact J454h true _ (C444.sub (List.Sublist.refl _) (List.Sublist.refl _) (List.Sublist.refl _))
    · refine Rf.call0 C444 (t24 n p0 x299 s443 (C444.sr0 rfl h0)) ?_
      rintro r449 _ s450 rfl h452
      have C453 : Cx s0.next [] [] s0 s450 [(i300, AObj.box 51 [(Value.int .i64 x264.1), (Value.int .i64 x264.2.1), (Value.int .i64 x264.2.2.1), (Value.int .i64 x264.2.2.2)])] [(On.mk (rI .i64) y116 A114 c115 3 false e117), (On.mk (rI .u8) r30.1 A32 c33 5 false e35), (On.mk (rI .i64) r13.1 A15 c16 3 false e18)] [] := h452 [] (by simp) List.Pairwise.nil
      refine (Rf.asI ?_)
      exact J454h ((r449 : Int) == x118) _ (C453.sub (List.Sublist.refl _) (List.Sublist.refl _) (List.Sublist.refl _))
  · subst hH; subst hQ
    exact Rf.leaf fun h => h _ _ _ ⟨rfl, rfl, (C444.sub (List.Sublist.refl _) (List.Sublist.refl _) (List.Sublist.refl _))⟩
abbrev Inv5_1 (s0 : St) (p0 : (List (Int × Int × Int × Int))) (p1 : Int) (A0 : Option Addr) (c0 : Nat) (h0 : Sr (rP (rI .i64) (rP (rI .i64) (rP (rI .i64) (rI .i64)))) s0 A0 c0 p0) (A15 : Option Addr) (A32 : Option Addr) (c16 : Nat) (c33 : Nat) (e18 : Nat) (e35 : Nat) (r13 : ((List Int) × (Int × Int))) (r30 : ((List Int) × (Int × Int))) (t : ((List Int) × Int)) (g : Regs) (s : St) : Prop := ∃ (A114 : Option Addr) (c115 : Nat) (e117 : Nat), g = (rg 142 [(0, (Value.slice A0 (p0).length c0)), (7, (Value.slice A15 (r13.1).length c16)), (9, (Value.slice A32 (r30.1).length c33)), (12, (Value.slice A114 (t.1).length c115)), (94, (Value.slice A0 (p0).length c0)), (95, (Value.int .i64 ((p0).length : Nat))), (96, (Value.int .i64 t.2))]) ∧ Cx s0.next [] [] s0 s [] [(On.mk (rI .i64) t.1 A114 c115 3 false e117), (On.mk (rI .u8) r30.1 A32 c33 5 false e35), (On.mk (rI .i64) r13.1 A15 c16 3 false e18)] []
abbrev Ex5_1 (s0 : St) (p0 : (List (Int × Int × Int × Int))) (p1 : Int) (A0 : Option Addr) (c0 : Nat) (h0 : Sr (rP (rI .i64) (rP (rI .i64) (rP (rI .i64) (rI .i64)))) s0 A0 c0 p0) (A15 : Option Addr) (A32 : Option Addr) (c16 : Nat) (c33 : Nat) (e18 : Nat) (e35 : Nat) (r13 : ((List Int) × (Int × Int))) (r30 : ((List Int) × (Int × Int))) (t : ((List Int) × Int)) (e : X) (g : Regs) (s : St) : Prop := ∃ (A619 : Option Addr) (c620 : Nat) (e622 : Nat), e = .exit 0 ∧ g = (rg 142 [(0, (Value.slice A0 (p0).length c0)), (7, (Value.slice A15 (r13.1).length c16)), (9, (Value.slice A32 (r30.1).length c33)), (12, (Value.slice A619 (t.1).length c620)), (94, (Value.slice A0 (p0).length c0)), (95, (Value.int .i64 ((p0).length : Nat))), (96, (Value.int .i64 t.2)), (97, (Value.bool false))]) ∧ Cx s0.next [] [] s0 s [] [(On.mk (rI .i64) t.1 A619 c620 3 false e622), (On.mk (rI .u8) r30.1 A32 c33 5 false e35), (On.mk (rI .i64) r13.1 A15 c16 3 false e18)] []
theorem x5_1 (s0 : St) (p0 : (List (Int × Int × Int × Int))) (p1 : Int) (A0 : Option Addr) (c0 : Nat) (h0 : Sr (rP (rI .i64) (rP (rI .i64) (rP (rI .i64) (rI .i64)))) s0 A0 c0 p0) (A15 : Option Addr) (A32 : Option Addr) (c16 : Nat) (c33 : Nat) (e18 : Nat) (e35 : Nat) (r13 : ((List Int) × (Int × Int))) (r30 : ((List Int) × (Int × Int))) (t : ((List Int) × Int)) (e : X) (g : Regs) (s : St) (h : Ex5_1 s0 p0 p1 A0 c0 h0 A15 A32 c16 c33 e18 e35 r13 r30 t e g s) : e ≠ .normal := by
  obtain ⟨_, _, _, h, _⟩ := h
  rw [h]; intro hh; cases hh
def pb5_1 (n : Nat) (p0 : (List (Int × Int × Int × Int))) (t : ((List Int) × Int)) : Option (((List Int) × Int) ⊕ ((List Int) × Int)) :=
  (if (decide ((t.2 : Int) < ((p0).length : Nat))) then ((rd p0 t.2 (fun x264 => ((((loopP (pb5_2 n p0 t.2 x264) n (false, x264.1)).bind fun t461 => (if (!t461.1) then (apP 8 t.1 [t.2] (fun y612 => (some (.inl ((t.1 ++ [t.2]), (IntKind.wrap .i64 (t.2 + 1))))))) else ((some (.inl (t.1, (IntKind.wrap .i64 (t.2 + 1))))))))))))) else (((some (.inr (t.1, t.2))))))
theorem b5_1 (n : Nat) (s0 : St) (p0 : (List (Int × Int × Int × Int))) (p1 : Int) (A0 : Option Addr) (c0 : Nat) (h0 : Sr (rP (rI .i64) (rP (rI .i64) (rP (rI .i64) (rI .i64)))) s0 A0 c0 p0) (A15 : Option Addr) (A32 : Option Addr) (c16 : Nat) (c33 : Nat) (e18 : Nat) (e35 : Nat) (r13 : ((List Int) × (Int × Int))) (r30 : ((List Int) × (Int × Int))) (t : ((List Int) × Int)) (g : Regs) (s261 : St) (K : Kont) (Q : Out → St → Prop) (h : Inv5_1 s0 p0 p1 A0 c0 h0 A15 A32 c16 c33 e18 e35 r13 r30 t g s261) :
    Rf (pb5_1 n p0 t) (fun r => ∀ e g' s', LK (Inv5_1 s0 p0 p1 A0 c0 h0 A15 A32 c16 c33 e18 e35 r13 r30) (Ex5_1 s0 p0 p1 A0 c0 h0 A15 A32 c16 c33 e18 e35 r13 r30) r e g' s' → Ev (K e g' s') Q) (fun _ => Q) (kBody E 5 n [.b, .b, .b, .b, .b, .b, .b, .a, .b, .a, .a] g s261 K) := by
  obtain ⟨y116, x118⟩ := t
  obtain ⟨A114, c115, e117, rfl, C262⟩ := h
  rw [e5_body0 n]
  unfold pb5_1
  refine Rf.gen fun H Q hH hQ => ?_
  try dsimp only
  refine Rf.ite ?_ ?_
  · refine Rf.elt (r := (rP (rI .i64) (rP (rI .i64) (rP (rI .i64) (rI .i64))))) (C262.sr0 rfl h0) rfl fun x264 i265 o266 c267 r268 h269 => ?_
    obtain ⟨c274, c275, rfl, r276, r277⟩ := rP_elim r268
    obtain rfl := rI_elim r276
    obtain ⟨c278, c279, rfl, r280, r281⟩ := rP_elim r277
    obtain rfl := rI_elim r280
    obtain ⟨c282, c283, rfl, r284, r285⟩ := rP_elim r281
    obtain rfl := rI_elim r284
    obtain rfl := rI_elim r285
    refine Rf.ldI (h269.at 0 rfl) ?_
    refine Rf.ldI (h269.at 1 rfl) ?_
    refine Rf.ldI (h269.at 2 rfl) ?_
    refine Rf.ldI (h269.at 3 rfl) ?_
    refine Rf.new C262 fun s290 (C291 : Cx s0.next [] [] s0 s290 [(s261.next, AObj.box 51 [(Value.int .i64 0), (Value.int .i64 0), (Value.int .i64 0), (Value.int .i64 0)])] [(On.mk (rI .i64) y116 A114 c115 3 false e117), (On.mk (rI .u8) r30.1 A32 c33 5 false e35), (On.mk (rI .i64) r13.1 A15 c16 3 false e18)] []) => ?_
    refine Rf.sto 0 C291 rfl (by simp) rfl fun s293 (C294 : Cx s0.next [] [] s0 s293 [(s261.next, AObj.box 51 [(Value.int .i64 x264.1), (Value.int .i64 x264.2.1), (Value.int .i64 x264.2.2.1), (Value.int .i64 x264.2.2.2)])] [(On.mk (rI .i64) y116 A114 c115 3 false e117), (On.mk (rI .u8) r30.1 A32 c33 5 false e35), (On.mk (rI .i64) r13.1 A15 c16 3 false e18)] []) => ?_
    refine Rf.ldI (C294.at m0 rfl) ?_
    refine Rf.loop (Inv := Inv5_2 s0 p0 p1 A0 c0 h0 A15 A32 c16 c33 e18 e35 r13 r30 A114 c115 e117 s261.next x118 x264 y116) (Ex := Ex5_2 s0 p0 p1 A0 c0 h0 A15 A32 c16 c33 e18 e35 r13 r30 A114 c115 e117 s261.next x118 x264 y116) (x5_2 s0 p0 p1 A0 c0 h0 A15 A32 c16 c33 e18 e35 r13 r30 A114 c115 e117 s261.next x118 x264 y116) (fun t g s K Q h => b5_2 n s0 p0 p1 A0 c0 h0 A15 A32 c16 c33 e18 e35 r13 r30 A114 c115 e117 s261.next x118 x264 y116 t g s K Q h) n _ _ _ ⟨rfl, (C294.sub (List.Sublist.refl _) (List.Sublist.refl _) (List.Sublist.refl _))⟩ ?_
    intro t461 e g s604 h
    obtain ⟨rfl, rfl, C605⟩ := h
    rw [e5_after1_exit2 n]
    refine Rf.ite ?_ ?_
    · refine Rf.newR (r := (rI .i64)) (xs := [x118]) C605 rfl (many.cons (c := [(Value.int .i64 x118)]) rI_mk many.nil) fun s606 (C607 : Cx s0.next [] [] s0 s606 [(s261.next, AObj.box 51 [(Value.int .i64 x264.1), (Value.int .i64 x264.2.1), (Value.int .i64 x264.2.2.1), (Value.int .i64 x264.2.2.2)])] [(On.mk (rI .i64) [x118] (some ⟨s604.next, 0, none⟩) 1 3 false s604.next), (On.mk (rI .i64) y116 A114 c115 3 false e117), (On.mk (rI .u8) r30.1 A32 c33 5 false e35), (On.mk (rI .i64) r13.1 A15 c16 3 false e18)] []) => ?_
      refine Rf.kapp 1 C607 rfl rfl (by decide) (by decide) (Ap.sr u39 rfl (C607.srB m0)) fun A609 c610 e611 s614 (C615 : Cx s0.next [] [] s0 s614 [(s261.next, AObj.box 51 [(Value.int .i64 x264.1), (Value.int .i64 x264.2.1), (Value.int .i64 x264.2.2.1), (Value.int .i64 x264.2.2.2)])] [(On.mk (rI .i64) [x118] (some ⟨s604.next, 0, none⟩) 1 3 false s604.next), (On.mk (rI .i64) (y116 ++ [x118]) A609 c610 3 false e611), (On.mk (rI .u8) r30.1 A32 c33 5 false e35), (On.mk (rI .i64) r13.1 A15 c16 3 false e18)] []) => ?_
      have C616 : Cx s0.next [] [] s0 s614 [(s261.next, AObj.box 51 [(Value.int .i64 x264.1), (Value.int .i64 x264.2.1), (Value.int .i64 x264.2.2.1), (Value.int .i64 x264.2.2.2)])] [(On.mk (rI .i64) (y116 ++ [x118]) A609 c610 3 false e611), (On.mk (rI .u8) r30.1 A32 c33 5 false e35), (On.mk (rI .i64) r13.1 A15 c16 3 false e18)] [] := C615.sub (List.Sublist.refl _) (List.Sublist.cons _ (List.Sublist.cons_cons _ (List.Sublist.cons_cons _ (List.Sublist.cons_cons _ List.Sublist.slnil)))) (List.Sublist.refl _)
      subst hH; subst hQ
      exact Rf.leaf fun h => h _ _ _ ⟨rfl, _, _, _, rfl, (C616.sub (List.Sublist.cons _ List.Sublist.slnil) (List.Sublist.refl _) (List.Sublist.refl _))⟩
    · subst hH; subst hQ
      exact Rf.leaf fun h => h _ _ _ ⟨rfl, _, _, _, rfl, (C605.sub (List.Sublist.cons _ List.Sublist.slnil) (List.Sublist.refl _) (List.Sublist.refl _))⟩
  · subst hH; subst hQ
    exact Rf.leaf fun h => h _ _ _ ⟨_, _, _, rfl, rfl, (C262.sub (List.Sublist.refl _) (List.Sublist.refl _) (List.Sublist.refl _))⟩
abbrev P5 (N : Nat) (X : List Nat) (r : Bool) (v : Value) (s : St) : Prop := v = (Value.bool r)
def p5 : Nat → (List (Int × Int × Int × Int)) → Int → Option Bool
  | 0, _, _ => none
  | n + 1, p0, p1 => ((p22 n p0 p1).bind fun r1 => ((p23 n p0).bind fun r13 => ((p21 n p0).bind fun r30 => ((p19 n p0).bind fun r47 => ((if ((r47.1 : Int) != 0) then (pj (fun (b74 : Bool) => (some b74)) (fun J73 => if (((r1.2.1 : Int) == r47.1) && (((r1.2.2 : Int) == r47.2) && true)) then (if (((r13.2.1 : Int) == r47.1) && (((r13.2.2 : Int) == r47.2) && true)) then (if (((r30.2.1 : Int) == r47.1) && (((r30.2.2 : Int) == r47.2) && true)) then (if ((r1.1 : Int) == 0) then (if ((((r13.1).length : Nat) : Int) == 0) then ((J73 ((((r30.1).length : Nat) : Int) == 0))) else ((J73 false))) else ((J73 false))) else ((J73 false))) else ((J73 false))) else ((J73 false)))) else ((pj (fun (b107 : Bool) => if b107 then (((some false))) else (((((loopP (pb5_1 n p0) n (([] : List Int), 0)).bind fun t624 => (p18 n r30.1).bind fun r769 => (pj (fun (b800 : Bool) => some b800) (fun J799 => (p26 n r13.1 t624.1).bind fun r786 => if r786 then (if ((r769.2.1 : Int) == 0) then ((p20 n r769.1 p0).bind fun r794 => (J799 r794)) else ((J799 false))) else ((J799 false))))))))) (fun J106 => if ((r1.2.1 : Int) != 0) then ((J106 true)) else (if ((r13.2.1 : Int) != 0) then ((J106 true)) else (if ((r30.2.1 : Int) != 0) then ((J106 true)) else ((p24 n p0 p1).bind fun r86 => if ((r1.1 : Int) != r86) then ((J106 true)) else ((p25 n p0).bind fun r91 => (p12 n r30.1 r91).bind fun r101 => (J106 (!r101)))))))))))))))
theorem t5 (k : Nat) (p0 : (List (Int × Int × Int × Int))) (p1 : Int) (s0 : St) {A0 : Option Addr} {c0 : Nat} (h0 : Sr (rP (rI .i64) (rP (rI .i64) (rP (rI .i64) (rI .i64)))) s0 A0 c0 p0) :
    Rf (p5 k p0 p1) (fun _ => True) (fun r => RtC s0.next [] [] s0 (P5 s0.next [] r)) (acall E k 5 [(Value.slice A0 (p0).length c0), (Value.int .i64 p1)] s0) := by
  cases k with
  | zero => exact Rf.none
  | succ n =>
    rw [e5 n]
    rw [p5]
    refine Rf.gen fun H Q hH hQ => ?_
    have C0 : Cx s0.next [] [] s0 s0 [] [] [] := Cx.start s0
    refine Rf.call0 C0 (t22 n p0 p1 s0 (C0.sr0 rfl h0)) ?_
    rintro r1 _ s2 rfl h6
    have C7 : Cx s0.next [] [] s0 s2 [] [] [] := h6 [] (by simp) List.Pairwise.nil
    refine (Rf.asTup (Rf.unc (Rf.asI (Rf.unc (Rf.asAgg (Rf.unc (Rf.asI (Rf.unc (Rf.asI (Rf.unn (Rf.unn ?_)))))))))))
    refine Rf.new C7 fun s8 (C9 : Cx s0.next [] [] s0 s8 [(s2.next, AObj.box 24 [(Value.int .i64 0), (Value.int .i64 0)])] [] []) => ?_
    refine Rf.sto 0 C9 rfl (by simp) rfl fun s11 (C12 : Cx s0.next [] [] s0 s11 [(s2.next, AObj.box 24 [(Value.int .i64 r1.2.1), (Value.int .i64 r1.2.2)])] [] []) => ?_
    refine Rf.call0 C12 (t23 n p0 s11 (C12.sr0 rfl h0)) ?_
    rintro r13 _ s14 ⟨A15, c16, e18, rfl, h17⟩ h23
    have C24 : Cx s0.next [] [] s0 s14 [(s2.next, AObj.box 24 [(Value.int .i64 r1.2.1), (Value.int .i64 r1.2.2)])] [(On.mk (rI .i64) r13.1 A15 c16 3 false e18)] [] := h23 [(On.mk (rI .i64) r13.1 A15 c16 3 false e18)] (by simpa using h17) (List.pairwise_singleton _ _)
    refine (Rf.asTup (Rf.unc (Rf.asSl (Rf.unc (Rf.asAgg (Rf.unc (Rf.asI (Rf.unc (Rf.asI (Rf.unn (Rf.unn ?_)))))))))))
    refine Rf.new C24 fun s25 (C26 : Cx s0.next [] [] s0 s25 [(s14.next, AObj.box 24 [(Value.int .i64 0), (Value.int .i64 0)]), (s2.next, AObj.box 24 [(Value.int .i64 r1.2.1), (Value.int .i64 r1.2.2)])] [(On.mk (rI .i64) r13.1 A15 c16 3 false e18)] []) => ?_
    refine Rf.sto 0 C26 rfl (by simp) rfl fun s28 (C29 : Cx s0.next [] [] s0 s28 [(s14.next, AObj.box 24 [(Value.int .i64 r13.2.1), (Value.int .i64 r13.2.2)]), (s2.next, AObj.box 24 [(Value.int .i64 r1.2.1), (Value.int .i64 r1.2.2)])] [(On.mk (rI .i64) r13.1 A15 c16 3 false e18)] []) => ?_
    refine Rf.call0 C29 (t21 n p0 s28 (C29.sr0 rfl h0)) ?_
    rintro r30 _ s31 ⟨A32, c33, e35, rfl, h34⟩ h40
    have C41 : Cx s0.next [] [] s0 s31 [(s14.next, AObj.box 24 [(Value.int .i64 r13.2.1), (Value.int .i64 r13.2.2)]), (s2.next, AObj.box 24 [(Value.int .i64 r1.2.1), (Value.int .i64 r1.2.2)])] [(On.mk (rI .u8) r30.1 A32 c33 5 false e35), (On.mk (rI .i64) r13.1 A15 c16 3 false e18)] [] := h40 [(On.mk (rI .u8) r30.1 A32 c33 5 false e35)] (by simpa using h34) (List.pairwise_singleton _ _)
    refine (Rf.asTup (Rf.unc (Rf.asSl (Rf.unc (Rf.asAgg (Rf.unc (Rf.asI (Rf.unc (Rf.asI (Rf.unn (Rf.unn ?_)))))))))))
    refine Rf.new C41 fun s42 (C43 : Cx s0.next [] [] s0 s42 [(s31.next, AObj.box 24 [(Value.int .i64 0), (Value.int .i64 0)]), (s14.next, AObj.box 24 [(Value.int .i64 r13.2.1), (Value.int .i64 r13.2.2)]), (s2.next, AObj.box 24 [(Value.int .i64 r1.2.1), (Value.int .i64 r1.2.2)])] [(On.mk (rI .u8) r30.1 A32 c33 5 false e35), (On.mk (rI .i64) r13.1 A15 c16 3 false e18)] []) => ?_
    refine Rf.sto 0 C43 rfl (by simp) rfl fun s45 (C46 : Cx s0.next [] [] s0 s45 [(s31.next, AObj.box 24 [(Value.int .i64 r30.2.1), (Value.int .i64 r30.2.2)]), (s14.next, AObj.box 24 [(Value.int .i64 r13.2.1), (Value.int .i64 r13.2.2)]), (s2.next, AObj.box 24 [(Value.int .i64 r1.2.1), (Value.int .i64 r1.2.2)])] [(On.mk (rI .u8) r30.1 A32 c33 5 false e35), (On.mk (rI .i64) r13.1 A15 c16 3 false e18)] []) => ?_
    refine Rf.call0 C46 (t19 n p0 s45 (C46.sr0 rfl h0)) ?_
    rintro r47 _ s48 rfl h51
    have C52 : Cx s0.next [] [] s0 s48 [(s31.next, AObj.box 24 [(Value.int .i64 r30.2.1), (Value.int .i64 r30.2.2)]), (s14.next, AObj.box 24 [(Value.int .i64 r13.2.1), (Value.int .i64 r13.2.2)]), (s2.next, AObj.box 24 [(Value.int .i64 r1.2.1), (Value.int .i64 r1.2.2)])] [(On.mk (rI .u8) r30.1 A32 c33 5 false e35), (On.mk (rI .i64) r13.1 A15 c16 3 false e18)] [] := h51 [] (by simp) List.Pairwise.nil
    refine (Rf.asAgg (Rf.unc (Rf.asI (Rf.unc (Rf.asI (Rf.unn ?_))))))
    refine Rf.new C52 fun s53 (C54 : Cx s0.next [] [] s0 s53 [(s48.next, AObj.box 24 [(Value.int .i64 0), (Value.int .i64 0)]), (s31.next, AObj.box 24 [(Value.int .i64 r30.2.1), (Value.int .i64 r30.2.2)]), (s14.next, AObj.box 24 [(Value.int .i64 r13.2.1), (Value.int .i64 r13.2.2)]), (s2.next, AObj.box 24 [(Value.int .i64 r1.2.1), (Value.int .i64 r1.2.2)])] [(On.mk (rI .u8) r30.1 A32 c33 5 false e35), (On.mk (rI .i64) r13.1 A15 c16 3 false e18)] []) => ?_
    refine Rf.sto 0 C54 rfl (by simp) rfl fun s56 (C57 : Cx s0.next [] [] s0 s56 [(s48.next, AObj.box 24 [(Value.int .i64 r47.1), (Value.int .i64 r47.2)]), (s31.next, AObj.box 24 [(Value.int .i64 r30.2.1), (Value.int .i64 r30.2.2)]), (s14.next, AObj.box 24 [(Value.int .i64 r13.2.1), (Value.int .i64 r13.2.2)]), (s2.next, AObj.box 24 [(Value.int .i64 r1.2.1), (Value.int .i64 r1.2.2)])] [(On.mk (rI .u8) r30.1 A32 c33 5 false e35), (On.mk (rI .i64) r13.1 A15 c16 3 false e18)] []) => ?_
    refine Rf.ldI (C57.at m0 rfl) ?_
    refine Rf.ite ?_ ?_
    · refine Rf.pj fun J73 J73' hJ73 hJ73' => ?_
      have J73h : ∀ (b74 : Bool) (_ : Cx s0.next [] [] s0 s56 [] [] []), Rf (J73 b74) H Q (J73' b74) := by
        subst hJ73
        subst hJ73'
        intro b74 C76
        subst hH; subst hQ
        exact Rf.leaf fun _ => Ev.done (Rf.ret C76 rfl)
      clear hJ73 hJ73'
      refine Rf.ldI (C57.at m3 rfl) ?_
      refine Rf.ldI (C57.at m3 rfl) ?_
      refine Rf.ldI (C57.at m0 rfl) ?_
      refine Rf.ldI (C57.at m0 rfl) ?_
      refine Rf.ite ?_ ?_
      · refine Rf.ldI (C57.at m2 rfl) ?_
        refine Rf.ldI (C57.at m2 rfl) ?_
        refine Rf.ldI (C57.at m0 rfl) ?_
        refine Rf.ldI (C57.at m0 rfl) ?_
        refine Rf.ite ?_ ?_
        · refine Rf.ldI (C57.at m1 rfl) ?_
          refine Rf.ldI (C57.at m1 rfl) ?_
          refine Rf.ldI (C57.at m0 rfl) ?_
          refine Rf.ldI (C57.at m0 rfl) ?_
          refine Rf.ite ?_ ?_
          · refine Rf.ite ?_ ?_
            · refine Rf.ite ?_ ?_
              · exact J73h ((((r30.1).length : Nat) : Int) == 0) (C57.sub (List.Sublist.cons _ (List.Sublist.cons _ (List.Sublist.cons _ (List.Sublist.cons _ List.Sublist.slnil)))) (List.Sublist.cons _ (List.Sublist.cons _ List.Sublist.slnil)) (List.Sublist.refl _))
              · exact J73h false (C57.sub (List.Sublist.cons _ (List.Sublist.cons _ (List.Sublist.cons _ (List.Sublist.cons _ List.Sublist.slnil)))) (List.Sublist.cons _ (List.Sublist.cons _ List.Sublist.slnil)) (List.Sublist.refl _))
            · exact J73h false (C57.sub (List.Sublist.cons _ (List.Sublist.cons _ (List.Sublist.cons _ (List.Sublist.cons _ List.Sublist.slnil)))) (List.Sublist.cons _ (List.Sublist.cons _ List.Sublist.slnil)) (List.Sublist.refl _))
          · exact J73h false (C57.sub (List.Sublist.cons _ (List.Sublist.cons _ (List.Sublist.cons _ (List.Sublist.cons _ List.Sublist.slnil)))) (List.Sublist.cons _ (List.Sublist.cons _ List.Sublist.slnil)) (List.Sublist.refl _))
        · exact J73h false (C57.sub (List.Sublist.cons _ (List.Sublist.cons _ (List.Sublist.cons _ (List.Sublist.cons _ List.Sublist.slnil)))) (List.Sublist.cons _ (List.Sublist.cons _ List.Sublist.slnil)) (List.Sublist.refl _))
      · exact J73h false (C57.sub (List.Sublist.cons _ (List.Sublist.cons _ (List.Sublist.cons _ (List.Sublist.cons _ List.Sublist.slnil)))) (List.Sublist.cons _ (List.Sublist.cons _ List.Sublist.slnil)) (List.Sublist.refl _))
    · refine Rf.pj fun J106 J106' hJ106 hJ106' => ?_
      have J106h : ∀ (b107 : Bool) (s109 : St) (_ : Cx s0.next [] [] s0 s109 [] [(On.mk (rI .u8) r30.1 A32 c33 5 false e35), (On.mk (rI .i64) r13.1 A15 c16 3 false e18)] []), Rf (J106 b107) H Q (J106' b107 s109) := by
        subst hJ106
        subst hJ106'
        intro b107 s109 C110
        refine Rf.ite ?_ ?_
        · subst hH; subst hQ
          exact Rf.leaf fun _ => Ev.done (Rf.ret C110 rfl)
        · have C111 : Cx s0.next [] [] s0 s109 [] [(On.mk (rI .i64) ([] : List Int) none 0 3 false 0), (On.mk (rI .u8) r30.1 A32 c33 5 false e35), (On.mk (rI .i64) r13.1 A15 c16 3 false e18)] [] := C110.addNil (rI .i64) 3
          refine Rf.loop (Inv := Inv5_1 s0 p0 p1 A0 c0 h0 A15 A32 c16 c33 e18 e35 r13 r30) (Ex := Ex5_1 s0 p0 p1 A0 c0 h0 A15 A32 c16 c33 e18 e35 r13 r30) (x5_1 s0 p0 p1 A0 c0 h0 A15 A32 c16 c33 e18 e35 r13 r30) (fun t g s K Q h => b5_1 n s0 p0 p1 A0 c0 h0 A15 A32 c16 c33 e18 e35 r13 r30 t g s K Q h) n _ _ _ ⟨_, _, _, rfl, (C111.sub (List.Sublist.refl _) (List.Sublist.refl _) (List.Sublist.refl _))⟩ ?_
          intro t624 e g s767 h
          obtain ⟨A619, c620, e622, rfl, rfl, C768⟩ := h
          rw [e5_after0_exit0 n]
          refine Rf.call0 C768 (t18 n r30.1 s767 (C768.srB m1)) ?_
          rintro r769 _ s770 ⟨A771, c772, e774, rfl, h773⟩ h779
          have C780 : Cx s0.next [] [] s0 s770 [] [(On.mk (rP (rI .i64) (rP (rI .i64) (rP (rI .i64) (rI .i64)))) r769.1 A771 c772 51 false e774), (On.mk (rI .i64) t624.1 A619 c620 3 false e622), (On.mk (rI .u8) r30.1 A32 c33 5 false e35), (On.mk (rI .i64) r13.1 A15 c16 3 false e18)] [] := h779 [(On.mk (rP (rI .i64) (rP (rI .i64) (rP (rI .i64) (rI .i64)))) r769.1 A771 c772 51 false e774)] (by simpa using h773) (List.pairwise_singleton _ _)
          refine (Rf.asTup (Rf.unc (Rf.asSl (Rf.unc (Rf.asAgg (Rf.unc (Rf.asI (Rf.unc (Rf.asI (Rf.unn (Rf.unn ?_)))))))))))
          refine Rf.new C780 fun s781 (C782 : Cx s0.next [] [] s0 s781 [(s770.next, AObj.box 24 [(Value.int .i64 0), (Value.int .i64 0)])] [(On.mk (rP (rI .i64) (rP (rI .i64) (rP (rI .i64) (rI .i64)))) r769.1 A771 c772 51 false e774), (On.mk (rI .i64) t624.1 A619 c620 3 false e622), (On.mk (rI .u8) r30.1 A32 c33 5 false e35), (On.mk (rI .i64) r13.1 A15 c16 3 false e18)] []) => ?_
          refine Rf.sto 0 C782 rfl (by simp) rfl fun s784 (C785 : Cx s0.next [] [] s0 s784 [(s770.next, AObj.box 24 [(Value.int .i64 r769.2.1), (Value.int .i64 r769.2.2)])] [(On.mk (rP (rI .i64) (rP (rI .i64) (rP (rI .i64) (rI .i64)))) r769.1 A771 c772 51 false e774), (On.mk (rI .i64) t624.1 A619 c620 3 false e622), (On.mk (rI .u8) r30.1 A32 c33 5 false e35), (On.mk (rI .i64) r13.1 A15 c16 3 false e18)] []) => ?_
          refine Rf.pj fun J799 J799' hJ799 hJ799' => ?_
          have J799h : ∀ (b800 : Bool) (s802 : St) (_ : Cx s0.next [] [] s0 s802 [] [] []), Rf (J799 b800) H Q (J799' b800 s802) := by
            subst hJ799
            subst hJ799'
            intro b800 s802 C803
            subst hH; subst hQ
            exact Rf.leaf fun _ => Ev.done (Rf.ret C803 rfl)
          clear hJ799 hJ799'
          refine Rf.call0 C785 (t26 n r13.1 t624.1 s784 (C785.srB m3) (C785.srB m1)) ?_
          rintro r786 _ s787 rfl h789
          have C790 : Cx s0.next [] [] s0 s787 [(s770.next, AObj.box 24 [(Value.int .i64 r769.2.1), (Value.int .i64 r769.2.2)])] [(On.mk (rP (rI .i64) (rP (rI .i64) (rP (rI .i64) (rI .i64)))) r769.1 A771 c772 51 false e774), (On.mk (rI .i64) t624.1 A619 c620 3 false e622), (On.mk (rI .u8) r30.1 A32 c33 5 false e35), (On.mk (rI .i64) r13.1 A15 c16 3 false e18)] [] := h789 [] (by simp) List.Pairwise.nil
          refine (Rf.asB ?_)
          refine Rf.ite ?_ ?_
          · refine Rf.ldI (C790.at m0 rfl) ?_
            refine Rf.ite ?_ ?_
            · refine Rf.call0 C790 (t20 n r769.1 p0 s787 (C790.srB m0) (C790.sr0 rfl h0)) ?_
              rintro r794 _ s795 rfl h797
              have C798 : Cx s0.next [] [] s0 s795 [(s770.next, AObj.box 24 [(Value.int .i64 r769.2.1), (Value.int .i64 r769.2.2)])] [(On.mk (rP (rI .i64) (rP (rI .i64) (rP (rI .i64) (rI .i64)))) r769.1 A771 c772 51 false e774), (On.mk (rI .i64) t624.1 A619 c620 3 false e622), (On.mk (rI .u8) r30.1 A32 c33 5 false e35), (On.mk (rI .i64) r13.1 A15 c16 3 false e18)] [] := h797 [] (by simp) List.Pairwise.nil
              refine (Rf.asB ?_)
              exact J799h r794 _ (C798.sub (List.Sublist.cons _ List.Sublist.slnil) (List.Sublist.cons _ (List.Sublist.cons _ (List.Sublist.cons _ (List.Sublist.cons _ List.Sublist.slnil)))) (List.Sublist.refl _))
            · exact J799h false _ (C790.sub (List.Sublist.cons _ List.Sublist.slnil) (List.Sublist.cons _ (List.Sublist.cons _ (List.Sublist.cons _ (List.Sublist.cons _ List.Sublist.slnil)))) (List.Sublist.refl _))
          · exact J799h false _ (C790.sub (List.Sublist.cons _ List.Sublist.slnil) (List.Sublist.cons _ (List.Sublist.cons _ (List.Sublist.cons _ (List.Sublist.cons _ List.Sublist.slnil)))) (List.Sublist.refl _))
      clear hJ106 hJ106'
      refine Rf.ldI (C57.at m3 rfl) ?_
      refine Rf.ite ?_ ?_
      · exact J106h true _ (C57.sub (List.Sublist.cons _ (List.Sublist.cons _ (List.Sublist.cons _ (List.Sublist.cons _ List.Sublist.slnil)))) (List.Sublist.refl _) (List.Sublist.refl _))
      · refine Rf.ldI (C57.at m2 rfl) ?_
        refine Rf.ite ?_ ?_
        · exact J106h true _ (C57.sub (List.Sublist.cons _ (List.Sublist.cons _ (List.Sublist.cons _ (List.Sublist.cons _ List.Sublist.slnil)))) (List.Sublist.refl _) (List.Sublist.refl _))
        · refine Rf.ldI (C57.at m1 rfl) ?_
          refine Rf.ite ?_ ?_
          · exact J106h true _ (C57.sub (List.Sublist.cons _ (List.Sublist.cons _ (List.Sublist.cons _ (List.Sublist.cons _ List.Sublist.slnil)))) (List.Sublist.refl _) (List.Sublist.refl _))
          · refine Rf.call0 C57 (t24 n p0 p1 s56 (C57.sr0 rfl h0)) ?_
            rintro r86 _ s87 rfl h89
            have C90 : Cx s0.next [] [] s0 s87 [(s48.next, AObj.box 24 [(Value.int .i64 r47.1), (Value.int .i64 r47.2)]), (s31.next, AObj.box 24 [(Value.int .i64 r30.2.1), (Value.int .i64 r30.2.2)]), (s14.next, AObj.box 24 [(Value.int .i64 r13.2.1), (Value.int .i64 r13.2.2)]), (s2.next, AObj.box 24 [(Value.int .i64 r1.2.1), (Value.int .i64 r1.2.2)])] [(On.mk (rI .u8) r30.1 A32 c33 5 false e35), (On.mk (rI .i64) r13.1 A15 c16 3 false e18)] [] := h89 [] (by simp) List.Pairwise.nil
            refine (Rf.asI ?_)
            refine Rf.ite ?_ ?_
            · exact J106h true _ (C90.sub (List.Sublist.cons _ (List.Sublist.cons _ (List.Sublist.cons _ (List.Sublist.cons _ List.Sublist.slnil)))) (List.Sublist.refl _) (List.Sublist.refl _))
            · refine Rf.call0 C90 (t25 n p0 s87 (C90.sr0 rfl h0)) ?_
              rintro r91 _ s92 ⟨A93, c94, e96, rfl, h95⟩ h99
              have C100 : Cx s0.next [] [] s0 s92 [(s48.next, AObj.box 24 [(Value.int .i64 r47.1), (Value.int .i64 r47.2)]), (s31.next, AObj.box 24 [(Value.int .i64 r30.2.1), (Value.int .i64 r30.2.2)]), (s14.next, AObj.box 24 [(Value.int .i64 r13.2.1), (Value.int .i64 r13.2.2)]), (s2.next, AObj.box 24 [(Value.int .i64 r1.2.1), (Value.int .i64 r1.2.2)])] [(On.mk (rI .u8) r91 A93 c94 5 true e96), (On.mk (rI .u8) r30.1 A32 c33 5 false e35), (On.mk (rI .i64) r13.1 A15 c16 3 false e18)] [] := h99 [(On.mk (rI .u8) r91 A93 c94 5 true e96)] (by simpa using h95) (List.pairwise_singleton _ _)
              refine (Rf.asSl ?_)
              refine Rf.call0 C100 (t12 n r30.1 r91 s92 (C100.srB m1) (C100.srB m0)) ?_
              rintro r101 _ s102 rfl h104
              have C105 : Cx s0.next [] [] s0 s102 [(s48.next, AObj.box 24 [(Value.int .i64 r47.1), (Value.int .i64 r47.2)]), (s31.next, AObj.box 24 [(Value.int .i64 r30.2.1), (Value.int .i64 r30.2.2)]), (s14.next, AObj.box 24 [(Value.int .i64 r13.2.1), (Value.int .i64 r13.2.2)]), (s2.next, AObj.box 24 [(Value.int .i64 r1.2.1), (Value.int .i64 r1.2.2)])] [(On.mk (rI .u8) r91 A93 c94 5 true e96), (On.mk (rI .u8) r30.1 A32 c33 5 false e35), (On.mk (rI .i64) r13.1 A15 c16 3 false e18)] [] := h104 [] (by simp) List.Pairwise.nil
              refine (Rf.asB ?_)
              exact J106h (!r101) _ (C105.sub (List.Sublist.cons _ (List.Sublist.cons _ (List.Sublist.cons _ (List.Sublist.cons _ List.Sublist.slnil)))) (List.Sublist.cons _ (List.Sublist.cons_cons _ (List.Sublist.cons_cons _ List.Sublist.slnil))) (List.Sublist.refl _))
end Go.Proofs.YtmjignphadnadaaF
