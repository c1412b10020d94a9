/- Law 3 of the tables' laws, told as plain functions. -/
import Derived.Test.YtmjignphadnadaaG2
import Derived.Test.YtmjignphadnadaaP1
import Derived.Test.YtmjignphadnadaaX3
set_option linter.unusedVariables false
set_option linter.unusedSimpArgs false
namespace Go.Proofs.YtmjignphadnadaaF
open Go Go.Proofs
set_option maxRecDepth 100000

-- 3 "brindlewood/brindlewoodlaw8.TablesLinesMatchSpec"
abbrev Inv3_1 (s0 : St) (p0 : (List (Int × Int))) (p1 : Int) (A0 : Option Addr) (c0 : Nat) (h0 : Sr (rP (rI .i64) (rI .i64)) s0 A0 c0 p0) (A15 : Option Addr) (A31 : Option Addr) (c16 : Nat) (c32 : Nat) (r13 : ((List (Int × Int)) × (Int × Int))) (r29 : ((List Int) × (Int × Int))) (t : Int) (g : Regs) (s : St) : Prop := g = (rg 179 [(0, (Value.slice A0 (p0).length c0)), (7, (Value.slice A15 (r13.1).length c16)), (9, (Value.slice A31 (r29.1).length c32)), (115, (Value.slice A15 (r13.1).length c16)), (116, (Value.int .i64 ((r13.1).length : Nat))), (117, (Value.int .i64 t))]) ∧ Cx s0.next [] [] s0 s [] [(On.mk (rI .u8) r29.1 A31 c32 5), (On.mk (rP (rI .i64) (rI .i64)) r13.1 A15 c16 38)] []
abbrev Ex3_1 (s0 : St) (p0 : (List (Int × Int))) (p1 : Int) (A0 : Option Addr) (c0 : Nat) (h0 : Sr (rP (rI .i64) (rI .i64)) s0 A0 c0 p0) (A15 : Option Addr) (A31 : Option Addr) (c16 : Nat) (c32 : Nat) (r13 : ((List (Int × Int)) × (Int × Int))) (r29 : ((List Int) × (Int × Int))) (t : (Int ⊕ Unit)) (e : X) (g : Regs) (s : St) : Prop := match t with
  | (.inl t) => e = .exit 1 ∧ g = (rg 179 [(0, (Value.slice A0 (p0).length c0)), (7, (Value.slice A15 (r13.1).length c16)), (9, (Value.slice A31 (r29.1).length c32)), (115, (Value.slice A15 (r13.1).length c16)), (116, (Value.int .i64 ((r13.1).length : Nat))), (117, (Value.int .i64 t)), (118, (Value.bool false))]) ∧ Cx s0.next [] [] s0 s [] [(On.mk (rI .u8) r29.1 A31 c32 5), (On.mk (rP (rI .i64) (rI .i64)) r13.1 A15 c16 38)] []
  | (.inr t) => e = .ret ∧ g = (rg 179 [(4, (Value.bool false))]) ∧ Cx s0.next [] [] s0 s [] [] []
theorem x3_1 (s0 : St) (p0 : (List (Int × Int))) (p1 : Int) (A0 : Option Addr) (c0 : Nat) (h0 : Sr (rP (rI .i64) (rI .i64)) s0 A0 c0 p0) (A15 : Option Addr) (A31 : Option Addr) (c16 : Nat) (c32 : Nat) (r13 : ((List (Int × Int)) × (Int × Int))) (r29 : ((List Int) × (Int × Int))) (t : (Int ⊕ Unit)) (e : X) (g : Regs) (s : St) (h : Ex3_1 s0 p0 p1 A0 c0 h0 A15 A31 c16 c32 r13 r29 t e g s) : e ≠ .normal := by
  rcases t with t | t
  · obtain ⟨h, _⟩ := h
    rw [h]; intro hh; cases hh
  · obtain ⟨h, _⟩ := h
    rw [h]; intro hh; cases hh
def pb3_1 (n : Nat)  (r13 : ((List (Int × Int)) × (Int × Int))) (t : Int) : Option (Int ⊕ (Int ⊕ Unit)) :=
  (if (decide ((t : Int) < ((r13.1).length : Nat))) then ((rd r13.1 t (fun x346 => (pj (fun (b388 : Bool) => if b388 then ((((some (.inr (.inr ())))))) else (((some (.inl (IntKind.wrap .i64 (t + 1))))))) (fun J387 => if (decide ((t : Int) > 0)) then (rd r13.1 (IntKind.wrap .i64 (t - 1)) (fun x370 => (J387 ((x346.2 : Int) == x370.2)))) else ((J387 false))))))) else (((some (.inr (.inl t))))))
theorem b3_1 (n : Nat) (s0 : St) (p0 : (List (Int × Int))) (p1 : Int) (A0 : Option Addr) (c0 : Nat) (h0 : Sr (rP (rI .i64) (rI .i64)) s0 A0 c0 p0) (A15 : Option Addr) (A31 : Option Addr) (c16 : Nat) (c32 : Nat) (r13 : ((List (Int × Int)) × (Int × Int))) (r29 : ((List Int) × (Int × Int))) (x163 : Int) (g : Regs) (s343 : St) (K : Kont) (Q : Out → St → Prop) (h : Inv3_1 s0 p0 p1 A0 c0 h0 A15 A31 c16 c32 r13 r29 x163 g s343) :
    Rf (pb3_1 n r13 x163) (fun r => ∀ e g' s', LK (Inv3_1 s0 p0 p1 A0 c0 h0 A15 A31 c16 c32 r13 r29) (Ex3_1 s0 p0 p1 A0 c0 h0 A15 A31 c16 c32 r13 r29) r e g' s' → Ev (K e g' s') Q) (fun _ => Q) (kBody E 3 n [.b, .b, .b, .b, .b, .b, .b, .b, .a, .b, .a, .a] g s343 K) := by
  obtain ⟨rfl, C344⟩ := h
  rw [e3_body0 n]
  unfold pb3_1
  refine Rf.gen fun H Q hH hQ => ?_
  refine Rf.ite ?_ ?_
  · refine Rf.elt (r := (rP (rI .i64) (rI .i64))) (C344.srB m1) rfl fun x346 i347 o348 c349 r350 h351 => ?_
    obtain ⟨c356, c357, rfl, r358, r359⟩ := rP_elim r350
    obtain rfl := rI_elim r358
    obtain rfl := rI_elim r359
    refine Rf.ldI (h351.at 0 rfl) ?_
    refine Rf.ldI (h351.at 1 rfl) ?_
    refine Rf.new C344 fun s362 (C363 : Cx s0.next [] [] s0 s362 [(s343.next, AObj.box 38 [(Value.int .i64 0), (Value.int .i64 0)])] [(On.mk (rI .u8) r29.1 A31 c32 5), (On.mk (rP (rI .i64) (rI .i64)) r13.1 A15 c16 38)] []) => ?_
    refine Rf.sto 0 C363 rfl (by simp) rfl fun s365 (C366 : Cx s0.next [] [] s0 s365 [(s343.next, AObj.box 38 [(Value.int .i64 x346.1), (Value.int .i64 x346.2)])] [(On.mk (rI .u8) r29.1 A31 c32 5), (On.mk (rP (rI .i64) (rI .i64)) r13.1 A15 c16 38)] []) => ?_
    refine Rf.pj fun J387 J387' hJ387 hJ387' => ?_
    have J387h : ∀ (b388 : Bool) (_ : Cx s0.next [] [] s0 s365 [] [(On.mk (rI .u8) r29.1 A31 c32 5), (On.mk (rP (rI .i64) (rI .i64)) r13.1 A15 c16 38)] []), Rf (J387 b388) H Q (J387' b388) := by
      subst hJ387
      subst hJ387'
      intro b388 C390
      refine Rf.ite ?_ ?_
      · subst hH; subst hQ
        exact Rf.leaf fun h => h _ _ _ ⟨rfl, rfl, (C390.sub (List.Sublist.refl _) (List.Sublist.cons _ (List.Sublist.cons _ List.Sublist.slnil)) (List.Sublist.refl _))⟩
      · subst hH; subst hQ
        exact Rf.leaf fun h => h _ _ _ ⟨rfl, rfl, (C390.sub (List.Sublist.refl _) (List.Sublist.refl _) (List.Sublist.refl _))⟩
    clear hJ387 hJ387'
    refine Rf.ite ?_ ?_
    · refine Rf.ldI (C366.at m0 rfl) ?_
      refine Rf.elt (r := (rP (rI .i64) (rI .i64))) (C366.srB m1) rfl fun x370 i371 o372 c373 r374 h375 => ?_
      obtain ⟨c380, c381, rfl, r382, r383⟩ := rP_elim r374
      obtain rfl := rI_elim r382
      obtain rfl := rI_elim r383
      refine Rf.ldI (h375.at 1 rfl) ?_
      exact J387h ((x346.2 : Int) == x370.2) (C366.sub (List.Sublist.cons _ List.Sublist.slnil) (List.Sublist.refl _) (List.Sublist.refl _))
    · exact J387h false (C366.sub (List.Sublist.cons _ List.Sublist.slnil) (List.Sublist.refl _) (List.Sublist.refl _))
  · subst hH; subst hQ
    exact Rf.leaf fun h => h _ _ _ ⟨rfl, rfl, (C344.sub (List.Sublist.refl _) (List.Sublist.refl _) (List.Sublist.refl _))⟩
abbrev Inv3_3 (s0 : St) (p0 : (List (Int × Int))) (p1 : Int) (A0 : Option Addr) (c0 : Nat) (h0 : Sr (rP (rI .i64) (rI .i64)) s0 A0 c0 p0) (A15 : Option Addr) (A31 : Option Addr) (c16 : Nat) (c32 : Nat) (r13 : ((List (Int × Int)) × (Int × Int))) (r29 : ((List Int) × (Int × Int))) (A788 : Option Addr) (x574 : Int) (x757 : (Int × Int)) (t : Int) (g : Regs) (s : St) : Prop := g = (rg 179 [(0, (Value.slice A0 (p0).length c0)), (7, (Value.slice A15 (r13.1).length c16)), (9, (Value.slice A31 (r29.1).length c32)), (136, (Value.slice A0 (p0).length c0)), (137, (Value.int .i64 ((p0).length : Nat))), (138, (Value.int .i64 x574)), (147, (Value.slice A788 ([(IntKind.wrap .i64 (x757.1 - 1)), x757.1]).length 2)), (148, (Value.int .i64 (([(IntKind.wrap .i64 (x757.1 - 1)), x757.1]).length : Nat))), (149, (Value.int .i64 t))]) ∧ Cx s0.next [] [] s0 s [] [(On.mk (rI .i64) [(IntKind.wrap .i64 (x757.1 - 1)), x757.1] A788 2 3), (On.mk (rI .u8) r29.1 A31 c32 5), (On.mk (rP (rI .i64) (rI .i64)) r13.1 A15 c16 38)] []
abbrev Ex3_3 (s0 : St) (p0 : (List (Int × Int))) (p1 : Int) (A0 : Option Addr) (c0 : Nat) (h0 : Sr (rP (rI .i64) (rI .i64)) s0 A0 c0 p0) (A15 : Option Addr) (A31 : Option Addr) (c16 : Nat) (c32 : Nat) (r13 : ((List (Int × Int)) × (Int × Int))) (r29 : ((List Int) × (Int × Int))) (A788 : Option Addr) (x574 : Int) (x757 : (Int × Int)) (t : (Int ⊕ Unit)) (e : X) (g : Regs) (s : St) : Prop := match t with
  | (.inl t) => e = .exit 5 ∧ g = (rg 179 [(0, (Value.slice A0 (p0).length c0)), (7, (Value.slice A15 (r13.1).length c16)), (9, (Value.slice A31 (r29.1).length c32)), (136, (Value.slice A0 (p0).length c0)), (137, (Value.int .i64 ((p0).length : Nat))), (138, (Value.int .i64 x574)), (147, (Value.slice A788 ([(IntKind.wrap .i64 (x757.1 - 1)), x757.1]).length 2)), (148, (Value.int .i64 (([(IntKind.wrap .i64 (x757.1 - 1)), x757.1]).length : Nat))), (149, (Value.int .i64 t)), (150, (Value.bool false))]) ∧ Cx s0.next [] [] s0 s [] [(On.mk (rI .i64) [(IntKind.wrap .i64 (x757.1 - 1)), x757.1] A788 2 3), (On.mk (rI .u8) r29.1 A31 c32 5), (On.mk (rP (rI .i64) (rI .i64)) r13.1 A15 c16 38)] []
  | (.inr t) => e = .ret ∧ g = (rg 179 [(4, (Value.bool false))]) ∧ Cx s0.next [] [] s0 s [] [] []
theorem x3_3 (s0 : St) (p0 : (List (Int × Int))) (p1 : Int) (A0 : Option Addr) (c0 : Nat) (h0 : Sr (rP (rI .i64) (rI .i64)) s0 A0 c0 p0) (A15 : Option Addr) (A31 : Option Addr) (c16 : Nat) (c32 : Nat) (r13 : ((List (Int × Int)) × (Int × Int))) (r29 : ((List Int) × (Int × Int))) (A788 : Option Addr) (x574 : Int) (x757 : (Int × Int)) (t : (Int ⊕ Unit)) (e : X) (g : Regs) (s : St) (h : Ex3_3 s0 p0 p1 A0 c0 h0 A15 A31 c16 c32 r13 r29 A788 x574 x757 t e g s) : e ≠ .normal := by
  rcases t with t | t
  · obtain ⟨h, _⟩ := h
    rw [h]; intro hh; cases hh
  · obtain ⟨h, _⟩ := h
    rw [h]; intro hh; cases hh
def pb3_3 (n : Nat) (p0 : (List (Int × Int))) (r13 : ((List (Int × Int)) × (Int × Int))) (x757 : (Int × Int)) (t : Int) : Option (Int ⊕ (Int ⊕ Unit)) :=
  (if (decide ((t : Int) < (([(IntKind.wrap .i64 (x757.1 - 1)), x757.1]).length : Nat))) then ((rd [(IntKind.wrap .i64 (x757.1 - 1)), x757.1] t (fun x971 => (pj (fun (b989 : Bool) => if b989 then ((((some (.inr (.inr ())))))) else (((some (.inl (IntKind.wrap .i64 (t + 1))))))) (fun J988 => if (decide ((x971 : Int) ≥ 0)) then ((p11 n r13.1 x971).bind fun r978 => (p11 n p0 x971).bind fun r983 => (J988 ((r978 : Int) != r983))) else ((J988 false))))))) else (((some (.inr (.inl t))))))
theorem b3_3 (n : Nat) (s0 : St) (p0 : (List (Int × Int))) (p1 : Int) (A0 : Option Addr) (c0 : Nat) (h0 : Sr (rP (rI .i64) (rI .i64)) s0 A0 c0 p0) (A15 : Option Addr) (A31 : Option Addr) (c16 : Nat) (c32 : Nat) (r13 : ((List (Int × Int)) × (Int × Int))) (r29 : ((List Int) × (Int × Int))) (A788 : Option Addr) (x574 : Int) (x757 : (Int × Int)) (x787 : Int) (g : Regs) (s968 : St) (K : Kont) (Q : Out → St → Prop) (h : Inv3_3 s0 p0 p1 A0 c0 h0 A15 A31 c16 c32 r13 r29 A788 x574 x757 x787 g s968) :
    Rf (pb3_3 n p0 r13 x757 x787) (fun r => ∀ e g' s', LK (Inv3_3 s0 p0 p1 A0 c0 h0 A15 A31 c16 c32 r13 r29 A788 x574 x757) (Ex3_3 s0 p0 p1 A0 c0 h0 A15 A31 c16 c32 r13 r29 A788 x574 x757) r e g' s' → Ev (K e g' s') Q) (fun _ => Q) (kBody E 3 n [.b, .b, .b, .b, .b, .b, .b, .b, .b, .a, .b, .a, .a, .b, .b, .a, .a, .b, .b, .a, .a] g s968 K) := by
  obtain ⟨rfl, C969⟩ := h
  rw [e3_body2 n]
  unfold pb3_3
  refine Rf.gen fun H Q hH hQ => ?_
  refine Rf.ite ?_ ?_
  · refine Rf.elt (r := (rI .i64)) (C969.srB m0) rfl fun x971 i972 o973 c974 r975 h976 => ?_
    obtain rfl := rI_elim r975
    refine Rf.ldI (h976.at 0 rfl) ?_
    refine Rf.pj fun J988 J988' hJ988 hJ988' => ?_
    have J988h : ∀ (b989 : Bool) (s991 : St) (_ : Cx s0.next [] [] s0 s991 [] [(On.mk (rI .i64) [(IntKind.wrap .i64 (x757.1 - 1)), x757.1] A788 2 3), (On.mk (rI .u8) r29.1 A31 c32 5), (On.mk (rP (rI .i64) (rI .i64)) r13.1 A15 c16 38)] []), Rf (J988 b989) H Q (J988' b989 s991) := by
      subst hJ988
      subst hJ988'
      intro b989 s991 C992
      refine Rf.ite ?_ ?_
      · subst hH; subst hQ
        exact Rf.leaf fun h => h _ _ _ ⟨rfl, rfl, (C992.sub (List.Sublist.refl _) (List.Sublist.cons _ (List.Sublist.cons _ (List.Sublist.cons _ List.Sublist.slnil))) (List.Sublist.refl _))⟩
      · subst hH; subst hQ
        exact Rf.leaf fun h => h _ _ _ ⟨rfl, rfl, (C992.sub (List.Sublist.refl _) (List.Sublist.refl _) (List.Sublist.refl _))⟩
    clear hJ988 hJ988'
    refine Rf.ite ?_ ?_
    · refine Rf.call0 C969 (t11 n r13.1 x971 s968 (C969.srB m2)) ?_
      rintro r978 _ s979 rfl h981
      have C982 : Cx s0.next [] [] s0 s979 [] [(On.mk (rI .i64) [(IntKind.wrap .i64 (x757.1 - 1)), x757.1] A788 2 3), (On.mk (rI .u8) r29.1 A31 c32 5), (On.mk (rP (rI .i64) (rI .i64)) r13.1 A15 c16 38)] [] := h981 [] (by simp) List.Pairwise.nil
      refine (Rf.asI ?_)
      refine Rf.call0 C982 (t11 n p0 x971 s979 (C982.sr0 rfl h0)) ?_
      rintro r983 _ s984 rfl h986
      have C987 : Cx s0.next [] [] s0 s984 [] [(On.mk (rI .i64) [(IntKind.wrap .i64 (x757.1 - 1)), x757.1] A788 2 3), (On.mk (rI .u8) r29.1 A31 c32 5), (On.mk (rP (rI .i64) (rI .i64)) r13.1 A15 c16 38)] [] := h986 [] (by simp) List.Pairwise.nil
      refine (Rf.asI ?_)
      exact J988h ((r978 : Int) != r983) _ (C987.sub (List.Sublist.refl _) (List.Sublist.refl _) (List.Sublist.refl _))
    · exact J988h false _ (C969.sub (List.Sublist.refl _) (List.Sublist.refl _) (List.Sublist.refl _))
  · subst hH; subst hQ
    exact Rf.leaf fun h => h _ _ _ ⟨rfl, rfl, (C969.sub (List.Sublist.refl _) (List.Sublist.refl _) (List.Sublist.refl _))⟩
abbrev Inv3_2 (s0 : St) (p0 : (List (Int × Int))) (p1 : Int) (A0 : Option Addr) (c0 : Nat) (h0 : Sr (rP (rI .i64) (rI .i64)) s0 A0 c0 p0) (A15 : Option Addr) (A31 : Option Addr) (c16 : Nat) (c32 : Nat) (r13 : ((List (Int × Int)) × (Int × Int))) (r29 : ((List Int) × (Int × Int))) (t : Int) (g : Regs) (s : St) : Prop := g = (rg 179 [(0, (Value.slice A0 (p0).length c0)), (7, (Value.slice A15 (r13.1).length c16)), (9, (Value.slice A31 (r29.1).length c32)), (136, (Value.slice A0 (p0).length c0)), (137, (Value.int .i64 ((p0).length : Nat))), (138, (Value.int .i64 t))]) ∧ Cx s0.next [] [] s0 s [] [(On.mk (rI .u8) r29.1 A31 c32 5), (On.mk (rP (rI .i64) (rI .i64)) r13.1 A15 c16 38)] []
abbrev Ex3_2 (s0 : St) (p0 : (List (Int × Int))) (p1 : Int) (A0 : Option Addr) (c0 : Nat) (h0 : Sr (rP (rI .i64) (rI .i64)) s0 A0 c0 p0) (A15 : Option Addr) (A31 : Option Addr) (c16 : Nat) (c32 : Nat) (r13 : ((List (Int × Int)) × (Int × Int))) (r29 : ((List Int) × (Int × Int))) (t : (Int ⊕ Unit)) (e : X) (g : Regs) (s : St) : Prop := match t with
  | (.inl t) => e = .exit 3 ∧ g = (rg 179 [(0, (Value.slice A0 (p0).length c0)), (7, (Value.slice A15 (r13.1).length c16)), (9, (Value.slice A31 (r29.1).length c32)), (136, (Value.slice A0 (p0).length c0)), (137, (Value.int .i64 ((p0).length : Nat))), (138, (Value.int .i64 t)), (139, (Value.bool false))]) ∧ Cx s0.next [] [] s0 s [] [(On.mk (rI .u8) r29.1 A31 c32 5), (On.mk (rP (rI .i64) (rI .i64)) r13.1 A15 c16 38)] []
  | (.inr t) => e = .ret ∧ g = (rg 179 [(4, (Value.bool false))]) ∧ Cx s0.next [] [] s0 s [] [] []
theorem x3_2 (s0 : St) (p0 : (List (Int × Int))) (p1 : Int) (A0 : Option Addr) (c0 : Nat) (h0 : Sr (rP (rI .i64) (rI .i64)) s0 A0 c0 p0) (A15 : Option Addr) (A31 : Option Addr) (c16 : Nat) (c32 : Nat) (r13 : ((List (Int × Int)) × (Int × Int))) (r29 : ((List Int) × (Int × Int))) (t : (Int ⊕ Unit)) (e : X) (g : Regs) (s : St) (h : Ex3_2 s0 p0 p1 A0 c0 h0 A15 A31 c16 c32 r13 r29 t e g s) : e ≠ .normal := by
  rcases t with t | t
  · obtain ⟨h, _⟩ := h
    rw [h]; intro hh; cases hh
  · obtain ⟨h, _⟩ := h
    rw [h]; intro hh; cases hh
def pb3_2 (n : Nat) (p0 : (List (Int × Int))) (r13 : ((List (Int × Int)) × (Int × Int))) (t : Int) : Option (Int ⊕ (Int ⊕ Unit)) :=
  (if (decide ((t : Int) < ((p0).length : Nat))) then ((rd p0 t (fun x757 => (((loopP (pb3_3 n p0 r13 x757) n 0).bind fun t1358 => match t1358 with | (.inl t994) => ((some (.inl (IntKind.wrap .i64 (t + 1))))) | (.inr t1176) => ((some (.inr (.inr ()))))))))) else (((some (.inr (.inl t))))))
theorem b3_2 (n : Nat) (s0 : St) (p0 : (List (Int × Int))) (p1 : Int) (A0 : Option Addr) (c0 : Nat) (h0 : Sr (rP (rI .i64) (rI .i64)) s0 A0 c0 p0) (A15 : Option Addr) (A31 : Option Addr) (c16 : Nat) (c32 : Nat) (r13 : ((List (Int × Int)) × (Int × Int))) (r29 : ((List Int) × (Int × Int))) (x574 : Int) (g : Regs) (s754 : St) (K : Kont) (Q : Out → St → Prop) (h : Inv3_2 s0 p0 p1 A0 c0 h0 A15 A31 c16 c32 r13 r29 x574 g s754) :
    Rf (pb3_2 n p0 r13 x574) (fun r => ∀ e g' s', LK (Inv3_2 s0 p0 p1 A0 c0 h0 A15 A31 c16 c32 r13 r29) (Ex3_2 s0 p0 p1 A0 c0 h0 A15 A31 c16 c32 r13 r29) r e g' s' → Ev (K e g' s') Q) (fun _ => Q) (kBody E 3 n [.b, .b, .b, .b, .b, .b, .b, .b, .b, .a, .b, .a, .a] g s754 K) := by
  obtain ⟨rfl, C755⟩ := h
  rw [e3_body1 n]
  unfold pb3_2
  refine Rf.gen fun H Q hH hQ => ?_
  refine Rf.ite ?_ ?_
  · refine Rf.elt (r := (rP (rI .i64) (rI .i64))) (C755.sr0 rfl h0) rfl fun x757 i758 o759 c760 r761 h762 => ?_
    obtain ⟨c767, c768, rfl, r769, r770⟩ := rP_elim r761
    obtain rfl := rI_elim r769
    obtain rfl := rI_elim r770
    refine Rf.ldI (h762.at 0 rfl) ?_
    refine Rf.ldI (h762.at 1 rfl) ?_
    refine Rf.new C755 fun s773 (C774 : Cx s0.next [] [] s0 s773 [(s754.next, AObj.box 38 [(Value.int .i64 0), (Value.int .i64 0)])] [(On.mk (rI .u8) r29.1 A31 c32 5), (On.mk (rP (rI .i64) (rI .i64)) r13.1 A15 c16 38)] []) => ?_
    refine Rf.sto 0 C774 rfl (by simp) rfl fun s776 (C777 : Cx s0.next [] [] s0 s776 [(s754.next, AObj.box 38 [(Value.int .i64 x757.1), (Value.int .i64 x757.2)])] [(On.mk (rI .u8) r29.1 A31 c32 5), (On.mk (rP (rI .i64) (rI .i64)) r13.1 A15 c16 38)] []) => ?_
    refine Rf.ldI (C777.at m0 rfl) ?_
    refine Rf.ldI (C777.at m0 rfl) ?_
    refine Rf.newR (r := (rI .i64)) (xs := [(IntKind.wrap .i64 (x757.1 - 1)), x757.1]) C777 rfl (many.cons (c := [(Value.int .i64 (IntKind.wrap .i64 (x757.1 - 1)))]) rI_mk (many.cons (c := [(Value.int .i64 x757.1)]) rI_mk many.nil)) fun s784 (C785 : Cx s0.next [] [] s0 s784 [(s754.next, AObj.box 38 [(Value.int .i64 x757.1), (Value.int .i64 x757.2)])] [(On.mk (rI .i64) [(IntKind.wrap .i64 (x757.1 - 1)), x757.1] (some ⟨s776.next, 0, none⟩) 2 3), (On.mk (rI .u8) r29.1 A31 c32 5), (On.mk (rP (rI .i64) (rI .i64)) r13.1 A15 c16 38)] []) => ?_
    refine Rf.loop (Inv := Inv3_3 s0 p0 p1 A0 c0 h0 A15 A31 c16 c32 r13 r29 (some ⟨s776.next, 0, none⟩) x574 x757) (Ex := Ex3_3 s0 p0 p1 A0 c0 h0 A15 A31 c16 c32 r13 r29 (some ⟨s776.next, 0, none⟩) x574 x757) (x3_3 s0 p0 p1 A0 c0 h0 A15 A31 c16 c32 r13 r29 (some ⟨s776.next, 0, none⟩) x574 x757) (fun t g s K Q h => b3_3 n s0 p0 p1 A0 c0 h0 A15 A31 c16 c32 r13 r29 (some ⟨s776.next, 0, none⟩) x574 x757 t g s K Q h) n _ _ _ ⟨rfl, (C785.sub (List.Sublist.cons _ List.Sublist.slnil) (List.Sublist.refl _) (List.Sublist.refl _))⟩ ?_
    intro t e g s h
    rcases t with t994 | t1176
    · generalize s = s1174 at h ⊢
      obtain ⟨rfl, rfl, C1175⟩ := h
      rw [e3_after2_exit5 n]
      subst hH; subst hQ
      exact Rf.leaf fun h => h _ _ _ ⟨rfl, rfl, (C1175.sub (List.Sublist.refl _) (List.Sublist.cons _ (List.Sublist.cons_cons _ (List.Sublist.cons_cons _ List.Sublist.slnil))) (List.Sublist.refl _))⟩
    · generalize s = s1356 at h ⊢
      obtain ⟨rfl, rfl, C1357⟩ := h
      rw [e3_after2_ret n]
      subst hH; subst hQ
      exact Rf.leaf fun h => h _ _ _ ⟨rfl, rfl, (C1357.sub (List.Sublist.refl _) (List.Sublist.refl _) (List.Sublist.refl _))⟩
  · subst hH; subst hQ
    exact Rf.leaf fun h => h _ _ _ ⟨rfl, rfl, (C755.sub (List.Sublist.refl _) (List.Sublist.refl _) (List.Sublist.refl _))⟩
abbrev P3 (N : Nat) (X : List Nat) (r : Bool) (v : Value) (s : St) : Prop := v = (Value.bool r)
def p3 : Nat → (List (Int × Int)) → Int → Option Bool
  | 0, _, _ => none
  | n + 1, p0, p1 => ((p6 n p0 p1).bind fun r1 => ((p7 n p0).bind fun r13 => ((p8 n p0).bind fun r29 => ((p9 n p0).bind fun r45 => ((if ((r45.1 : Int) != 0) then (pj (fun (b72 : Bool) => (some b72)) (fun J71 => if (((r1.2.1 : Int) == r45.1) && (((r1.2.2 : Int) == r45.2) && true)) then (if (((r13.2.1 : Int) == r45.1) && (((r13.2.2 : Int) == r45.2) && true)) then (if (((r29.2.1 : Int) == r45.1) && (((r29.2.2 : Int) == r45.2) && true)) then (if ((r1.1 : Int) == 0) then (if ((((r13.1).length : Nat) : Int) == 0) then ((J71 ((((r29.1).length : Nat) : Int) == 0))) else ((J71 false))) else ((J71 false))) else ((J71 false))) else ((J71 false))) else ((J71 false)))) else (((pj (fun (x101 : Int) (x102 : Int) => pj (fun (b159 : Bool) => if b159 then (((some false))) else ((((loopP (pb3_1 n r13) n 0).bind fun t1936 => match t1936 with | (.inl t392) => (((loopP (pb3_2 n p0 r13) n 0).bind fun t1753 => match t1753 with | (.inl t1360) => ((p14 n r29.1).bind fun r1542 => (pj (fun (b1567 : Bool) => some b1567) (fun J1566 => if ((r1542.2.1 : Int) == 0) then ((p15 n r1542.1 p0).bind fun r1561 => (J1566 r1561)) else ((J1566 false))))) | (.inr t1571) => (some false))) | (.inr t1754) => (some false))))) (fun J158 => if (!(((r1.2.1 : Int) == x101) && (((r1.2.2 : Int) == x102) && true))) then ((J158 true)) else (if ((r1.2.1 : Int) == 0) then ((p11 n p0 p1).bind fun r113 => if ((r1.1 : Int) != r113) then ((J158 true)) else (if ((r13.2.1 : Int) != 0) then ((J158 true)) else (if ((r29.2.1 : Int) != 0) then ((J158 true)) else ((p13 n p0).bind fun r124 => (p12 n r29.1 r124).bind fun r133 => (J158 (!r133)))))) else (if ((r13.2.1 : Int) != 0) then ((J158 true)) else (if ((r29.2.1 : Int) != 0) then ((J158 true)) else ((p13 n p0).bind fun r144 => (p12 n r29.1 r144).bind fun r153 => (J158 (!r153)))))))) (fun J100 => pj (fun (b81 : Bool) => if b81 then ((p10 n 4 (-2)).bind fun r84 => (J100 r84.1 r84.2)) else ((if ((((p0).length : Nat) : Int) == 0) then ((p10 n 12 (-2)).bind fun r92 => (J100 r92.1 r92.2)) else ((J100 0 0))))) (fun J80 => if (decide ((p1 : Int) < 0)) then ((J80 true)) else ((J80 (decide ((p1 : Int) ≥ 60000)))))))))))))))
theorem t3 (k : Nat) (p0 : (List (Int × Int))) (p1 : Int) (s0 : St) {A0 : Option Addr} {c0 : Nat} (h0 : Sr (rP (rI .i64) (rI .i64)) s0 A0 c0 p0) :
    Rf (p3 k p0 p1) (fun _ => True) (fun r => RtC s0.next [] [] s0 (P3 s0.next [] r)) (acall E k 3 [(Value.slice A0 (p0).length c0), (Value.int .i64 p1)] s0) := by
  cases k with
  | zero => exact Rf.none
  | succ n =>
    rw [e3 n]
    rw [p3]
    refine Rf.gen fun H Q hH hQ => ?_
    have C0 : Cx s0.next [] [] s0 s0 [] [] [] := Cx.start s0
    refine Rf.call0 C0 (t6 n p0 p1 s0 (C0.sr0 rfl h0)) ?_
    rintro r1 _ s2 rfl h6
    have C7 : Cx s0.next [] [] s0 s2 [] [] [] := h6 [] (by simp) List.Pairwise.nil
    refine (Rf.asTup (Rf.unc (Rf.asI (Rf.unc (Rf.asAgg (Rf.unc (Rf.asI (Rf.unc (Rf.asI (Rf.unn (Rf.unn ?_)))))))))))
    refine Rf.new C7 fun s8 (C9 : Cx s0.next [] [] s0 s8 [(s2.next, AObj.box 24 [(Value.int .i64 0), (Value.int .i64 0)])] [] []) => ?_
    refine Rf.sto 0 C9 rfl (by simp) rfl fun s11 (C12 : Cx s0.next [] [] s0 s11 [(s2.next, AObj.box 24 [(Value.int .i64 r1.2.1), (Value.int .i64 r1.2.2)])] [] []) => ?_
    refine Rf.call0 C12 (t7 n p0 s11 (C12.sr0 rfl h0)) ?_
    rintro r13 _ s14 ⟨A15, c16, rfl, h17⟩ h22
    have C23 : Cx s0.next [] [] s0 s14 [(s2.next, AObj.box 24 [(Value.int .i64 r1.2.1), (Value.int .i64 r1.2.2)])] [(On.mk (rP (rI .i64) (rI .i64)) r13.1 A15 c16 38)] [] := h22 [(On.mk (rP (rI .i64) (rI .i64)) r13.1 A15 c16 38)] (by simpa using h17) (List.pairwise_singleton _ _)
    refine (Rf.asTup (Rf.unc (Rf.asSl (Rf.unc (Rf.asAgg (Rf.unc (Rf.asI (Rf.unc (Rf.asI (Rf.unn (Rf.unn ?_)))))))))))
    refine Rf.new C23 fun s24 (C25 : Cx s0.next [] [] s0 s24 [(s14.next, AObj.box 24 [(Value.int .i64 0), (Value.int .i64 0)]), (s2.next, AObj.box 24 [(Value.int .i64 r1.2.1), (Value.int .i64 r1.2.2)])] [(On.mk (rP (rI .i64) (rI .i64)) r13.1 A15 c16 38)] []) => ?_
    refine Rf.sto 0 C25 rfl (by simp) rfl fun s27 (C28 : Cx s0.next [] [] s0 s27 [(s14.next, AObj.box 24 [(Value.int .i64 r13.2.1), (Value.int .i64 r13.2.2)]), (s2.next, AObj.box 24 [(Value.int .i64 r1.2.1), (Value.int .i64 r1.2.2)])] [(On.mk (rP (rI .i64) (rI .i64)) r13.1 A15 c16 38)] []) => ?_
    refine Rf.call0 C28 (t8 n p0 s27 (C28.sr0 rfl h0)) ?_
    rintro r29 _ s30 ⟨A31, c32, rfl, h33⟩ h38
    have C39 : Cx s0.next [] [] s0 s30 [(s14.next, AObj.box 24 [(Value.int .i64 r13.2.1), (Value.int .i64 r13.2.2)]), (s2.next, AObj.box 24 [(Value.int .i64 r1.2.1), (Value.int .i64 r1.2.2)])] [(On.mk (rI .u8) r29.1 A31 c32 5), (On.mk (rP (rI .i64) (rI .i64)) r13.1 A15 c16 38)] [] := h38 [(On.mk (rI .u8) r29.1 A31 c32 5)] (by simpa using h33) (List.pairwise_singleton _ _)
    refine (Rf.asTup (Rf.unc (Rf.asSl (Rf.unc (Rf.asAgg (Rf.unc (Rf.asI (Rf.unc (Rf.asI (Rf.unn (Rf.unn ?_)))))))))))
    refine Rf.new C39 fun s40 (C41 : Cx s0.next [] [] s0 s40 [(s30.next, AObj.box 24 [(Value.int .i64 0), (Value.int .i64 0)]), (s14.next, AObj.box 24 [(Value.int .i64 r13.2.1), (Value.int .i64 r13.2.2)]), (s2.next, AObj.box 24 [(Value.int .i64 r1.2.1), (Value.int .i64 r1.2.2)])] [(On.mk (rI .u8) r29.1 A31 c32 5), (On.mk (rP (rI .i64) (rI .i64)) r13.1 A15 c16 38)] []) => ?_
    refine Rf.sto 0 C41 rfl (by simp) rfl fun s43 (C44 : Cx s0.next [] [] s0 s43 [(s30.next, AObj.box 24 [(Value.int .i64 r29.2.1), (Value.int .i64 r29.2.2)]), (s14.next, AObj.box 24 [(Value.int .i64 r13.2.1), (Value.int .i64 r13.2.2)]), (s2.next, AObj.box 24 [(Value.int .i64 r1.2.1), (Value.int .i64 r1.2.2)])] [(On.mk (rI .u8) r29.1 A31 c32 5), (On.mk (rP (rI .i64) (rI .i64)) r13.1 A15 c16 38)] []) => ?_
    refine Rf.call0 C44 (t9 n p0 s43 (C44.sr0 rfl h0)) ?_
    rintro r45 _ s46 rfl h49
    have C50 : Cx s0.next [] [] s0 s46 [(s30.next, AObj.box 24 [(Value.int .i64 r29.2.1), (Value.int .i64 r29.2.2)]), (s14.next, AObj.box 24 [(Value.int .i64 r13.2.1), (Value.int .i64 r13.2.2)]), (s2.next, AObj.box 24 [(Value.int .i64 r1.2.1), (Value.int .i64 r1.2.2)])] [(On.mk (rI .u8) r29.1 A31 c32 5), (On.mk (rP (rI .i64) (rI .i64)) r13.1 A15 c16 38)] [] := h49 [] (by simp) List.Pairwise.nil
    refine (Rf.asAgg (Rf.unc (Rf.asI (Rf.unc (Rf.asI (Rf.unn ?_))))))
    refine Rf.new C50 fun s51 (C52 : Cx s0.next [] [] s0 s51 [(s46.next, AObj.box 24 [(Value.int .i64 0), (Value.int .i64 0)]), (s30.next, AObj.box 24 [(Value.int .i64 r29.2.1), (Value.int .i64 r29.2.2)]), (s14.next, AObj.box 24 [(Value.int .i64 r13.2.1), (Value.int .i64 r13.2.2)]), (s2.next, AObj.box 24 [(Value.int .i64 r1.2.1), (Value.int .i64 r1.2.2)])] [(On.mk (rI .u8) r29.1 A31 c32 5), (On.mk (rP (rI .i64) (rI .i64)) r13.1 A15 c16 38)] []) => ?_
    refine Rf.sto 0 C52 rfl (by simp) rfl fun s54 (C55 : Cx s0.next [] [] s0 s54 [(s46.next, AObj.box 24 [(Value.int .i64 r45.1), (Value.int .i64 r45.2)]), (s30.next, AObj.box 24 [(Value.int .i64 r29.2.1), (Value.int .i64 r29.2.2)]), (s14.next, AObj.box 24 [(Value.int .i64 r13.2.1), (Value.int .i64 r13.2.2)]), (s2.next, AObj.box 24 [(Value.int .i64 r1.2.1), (Value.int .i64 r1.2.2)])] [(On.mk (rI .u8) r29.1 A31 c32 5), (On.mk (rP (rI .i64) (rI .i64)) r13.1 A15 c16 38)] []) => ?_
    refine Rf.ldI (C55.at m0 rfl) ?_
    refine Rf.ite ?_ ?_
    · refine Rf.pj fun J71 J71' hJ71 hJ71' => ?_
      have J71h : ∀ (b72 : Bool) (_ : Cx s0.next [] [] s0 s54 [] [] []), Rf (J71 b72) H Q (J71' b72) := by
        subst hJ71
        subst hJ71'
        intro b72 C74
        subst hH; subst hQ
        exact Rf.leaf fun _ => Ev.done (Rf.ret C74 rfl)
      clear hJ71 hJ71'
      refine Rf.ldI (C55.at m3 rfl) ?_
      refine Rf.ldI (C55.at m3 rfl) ?_
      refine Rf.ldI (C55.at m0 rfl) ?_
      refine Rf.ldI (C55.at m0 rfl) ?_
      refine Rf.ite ?_ ?_
      · refine Rf.ldI (C55.at m2 rfl) ?_
        refine Rf.ldI (C55.at m2 rfl) ?_
        refine Rf.ldI (C55.at m0 rfl) ?_
        refine Rf.ldI (C55.at m0 rfl) ?_
        refine Rf.ite ?_ ?_
        · refine Rf.ldI (C55.at m1 rfl) ?_
          refine Rf.ldI (C55.at m1 rfl) ?_
          refine Rf.ldI (C55.at m0 rfl) ?_
          refine Rf.ldI (C55.at m0 rfl) ?_
          refine Rf.ite ?_ ?_
          · refine Rf.ite ?_ ?_
            · refine Rf.ite ?_ ?_
              · exact J71h ((((r29.1).length : Nat) : Int) == 0) (C55.sub (List.Sublist.cons _ (List.Sublist.cons _ (List.Sublist.cons _ (List.Sublist.cons _ List.Sublist.slnil)))) (List.Sublist.cons _ (List.Sublist.cons _ List.Sublist.slnil)) (List.Sublist.refl _))
              · exact J71h false (C55.sub (List.Sublist.cons _ (List.Sublist.cons _ (List.Sublist.cons _ (List.Sublist.cons _ List.Sublist.slnil)))) (List.Sublist.cons _ (List.Sublist.cons _ List.Sublist.slnil)) (List.Sublist.refl _))
            · exact J71h false (C55.sub (List.Sublist.cons _ (List.Sublist.cons _ (List.Sublist.cons _ (List.Sublist.cons _ List.Sublist.slnil)))) (List.Sublist.cons _ (List.Sublist.cons _ List.Sublist.slnil)) (List.Sublist.refl _))
          · exact J71h false (C55.sub (List.Sublist.cons _ (List.Sublist.cons _ (List.Sublist.cons _ (List.Sublist.cons _ List.Sublist.slnil)))) (List.Sublist.cons _ (List.Sublist.cons _ List.Sublist.slnil)) (List.Sublist.refl _))
        · exact J71h false (C55.sub (List.Sublist.cons _ (List.Sublist.cons _ (List.Sublist.cons _ (List.Sublist.cons _ List.Sublist.slnil)))) (List.Sublist.cons _ (List.Sublist.cons _ List.Sublist.slnil)) (List.Sublist.refl _))
      · exact J71h false (C55.sub (List.Sublist.cons _ (List.Sublist.cons _ (List.Sublist.cons _ (List.Sublist.cons _ List.Sublist.slnil)))) (List.Sublist.cons _ (List.Sublist.cons _ List.Sublist.slnil)) (List.Sublist.refl _))
    · refine Rf.new C55 fun s75 (C76 : Cx s0.next [] [] s0 s75 [(s54.next, AObj.box 24 [(Value.int .i64 0), (Value.int .i64 0)]), (s46.next, AObj.box 24 [(Value.int .i64 r45.1), (Value.int .i64 r45.2)]), (s30.next, AObj.box 24 [(Value.int .i64 r29.2.1), (Value.int .i64 r29.2.2)]), (s14.next, AObj.box 24 [(Value.int .i64 r13.2.1), (Value.int .i64 r13.2.2)]), (s2.next, AObj.box 24 [(Value.int .i64 r1.2.1), (Value.int .i64 r1.2.2)])] [(On.mk (rI .u8) r29.1 A31 c32 5), (On.mk (rP (rI .i64) (rI .i64)) r13.1 A15 c16 38)] []) => ?_
      refine Rf.sto 0 C76 rfl (by simp) rfl fun s78 (C79 : Cx s0.next [] [] s0 s78 [(s54.next, AObj.box 24 [(Value.int .i64 0), (Value.int .i64 0)]), (s46.next, AObj.box 24 [(Value.int .i64 r45.1), (Value.int .i64 r45.2)]), (s30.next, AObj.box 24 [(Value.int .i64 r29.2.1), (Value.int .i64 r29.2.2)]), (s14.next, AObj.box 24 [(Value.int .i64 r13.2.1), (Value.int .i64 r13.2.2)]), (s2.next, AObj.box 24 [(Value.int .i64 r1.2.1), (Value.int .i64 r1.2.2)])] [(On.mk (rI .u8) r29.1 A31 c32 5), (On.mk (rP (rI .i64) (rI .i64)) r13.1 A15 c16 38)] []) => ?_
      refine Rf.pj fun J100 J100' hJ100 hJ100' => ?_
      have J100h : ∀ (e103 : Value) (x101 : Int) (x102 : Int) (s104 : St) (_ : Cx s0.next [] [] s0 s104 [(s54.next, AObj.box 24 [(Value.int .i64 x101), (Value.int .i64 x102)]), (s30.next, AObj.box 24 [(Value.int .i64 r29.2.1), (Value.int .i64 r29.2.2)]), (s14.next, AObj.box 24 [(Value.int .i64 r13.2.1), (Value.int .i64 r13.2.2)]), (s2.next, AObj.box 24 [(Value.int .i64 r1.2.1), (Value.int .i64 r1.2.2)])] [(On.mk (rI .u8) r29.1 A31 c32 5), (On.mk (rP (rI .i64) (rI .i64)) r13.1 A15 c16 38)] []), Rf (J100 x101 x102) H Q (J100' e103 s104) := by
        subst hJ100
        subst hJ100'
        intro e103 x101 x102 s104 C105
        refine Rf.pj fun J158 J158' hJ158 hJ158' => ?_
        have J158h : ∀ (b159 : Bool) (s161 : St) (_ : Cx s0.next [] [] s0 s161 [] [(On.mk (rI .u8) r29.1 A31 c32 5), (On.mk (rP (rI .i64) (rI .i64)) r13.1 A15 c16 38)] []), Rf (J158 b159) H Q (J158' b159 s161) := by
          subst hJ158
          subst hJ158'
          intro b159 s161 C162
          refine Rf.ite ?_ ?_
          · subst hH; subst hQ
            exact Rf.leaf fun _ => Ev.done (Rf.ret C162 rfl)
          · refine Rf.loop (Inv := Inv3_1 s0 p0 p1 A0 c0 h0 A15 A31 c16 c32 r13 r29) (Ex := Ex3_1 s0 p0 p1 A0 c0 h0 A15 A31 c16 c32 r13 r29) (x3_1 s0 p0 p1 A0 c0 h0 A15 A31 c16 c32 r13 r29) (fun t g s K Q h => b3_1 n s0 p0 p1 A0 c0 h0 A15 A31 c16 c32 r13 r29 t g s K Q h) n _ _ _ ⟨rfl, (C162.sub (List.Sublist.refl _) (List.Sublist.refl _) (List.Sublist.refl _))⟩ ?_
            intro t e g s h
            rcases t with t392 | t1754
            · generalize s = s572 at h ⊢
              obtain ⟨rfl, rfl, C573⟩ := h
              rw [e3_after0_exit1 n]
              refine Rf.loop (Inv := Inv3_2 s0 p0 p1 A0 c0 h0 A15 A31 c16 c32 r13 r29) (Ex := Ex3_2 s0 p0 p1 A0 c0 h0 A15 A31 c16 c32 r13 r29) (x3_2 s0 p0 p1 A0 c0 h0 A15 A31 c16 c32 r13 r29) (fun t g s K Q h => b3_2 n s0 p0 p1 A0 c0 h0 A15 A31 c16 c32 r13 r29 t g s K Q h) n _ _ _ ⟨rfl, (C573.sub (List.Sublist.refl _) (List.Sublist.refl _) (List.Sublist.refl _))⟩ ?_
              intro t e g s h
              rcases t with t1360 | t1571
              · generalize s = s1540 at h ⊢
                obtain ⟨rfl, rfl, C1541⟩ := h
                rw [e3_after1_exit3 n]
                refine Rf.call0 C1541 (t14 n r29.1 s1540 (C1541.srB m0)) ?_
                rintro r1542 _ s1543 ⟨A1544, c1545, rfl, h1546⟩ h1551
                have C1552 : Cx s0.next [] [] s0 s1543 [] [(On.mk (rP (rI .i64) (rI .i64)) r1542.1 A1544 c1545 38), (On.mk (rI .u8) r29.1 A31 c32 5), (On.mk (rP (rI .i64) (rI .i64)) r13.1 A15 c16 38)] [] := h1551 [(On.mk (rP (rI .i64) (rI .i64)) r1542.1 A1544 c1545 38)] (by simpa using h1546) (List.pairwise_singleton _ _)
                refine (Rf.asTup (Rf.unc (Rf.asSl (Rf.unc (Rf.asAgg (Rf.unc (Rf.asI (Rf.unc (Rf.asI (Rf.unn (Rf.unn ?_)))))))))))
                refine Rf.new C1552 fun s1553 (C1554 : Cx s0.next [] [] s0 s1553 [(s1543.next, AObj.box 24 [(Value.int .i64 0), (Value.int .i64 0)])] [(On.mk (rP (rI .i64) (rI .i64)) r1542.1 A1544 c1545 38), (On.mk (rI .u8) r29.1 A31 c32 5), (On.mk (rP (rI .i64) (rI .i64)) r13.1 A15 c16 38)] []) => ?_
                refine Rf.sto 0 C1554 rfl (by simp) rfl fun s1556 (C1557 : Cx s0.next [] [] s0 s1556 [(s1543.next, AObj.box 24 [(Value.int .i64 r1542.2.1), (Value.int .i64 r1542.2.2)])] [(On.mk (rP (rI .i64) (rI .i64)) r1542.1 A1544 c1545 38), (On.mk (rI .u8) r29.1 A31 c32 5), (On.mk (rP (rI .i64) (rI .i64)) r13.1 A15 c16 38)] []) => ?_
                refine Rf.pj fun J1566 J1566' hJ1566 hJ1566' => ?_
                have J1566h : ∀ (b1567 : Bool) (s1569 : St) (_ : Cx s0.next [] [] s0 s1569 [] [] []), Rf (J1566 b1567) H Q (J1566' b1567 s1569) := by
                  subst hJ1566
                  subst hJ1566'
                  intro b1567 s1569 C1570
                  subst hH; subst hQ
                  exact Rf.leaf fun _ => Ev.done (Rf.ret C1570 rfl)
                clear hJ1566 hJ1566'
                refine Rf.ldI (C1557.at m0 rfl) ?_
                refine Rf.ite ?_ ?_
                · refine Rf.call0 C1557 (t15 n r1542.1 p0 s1556 (C1557.srB m0) (C1557.sr0 rfl h0)) ?_
                  rintro r1561 _ s1562 rfl h1564
                  have C1565 : Cx s0.next [] [] s0 s1562 [(s1543.next, AObj.box 24 [(Value.int .i64 r1542.2.1), (Value.int .i64 r1542.2.2)])] [(On.mk (rP (rI .i64) (rI .i64)) r1542.1 A1544 c1545 38), (On.mk (rI .u8) r29.1 A31 c32 5), (On.mk (rP (rI .i64) (rI .i64)) r13.1 A15 c16 38)] [] := h1564 [] (by simp) List.Pairwise.nil
                  refine (Rf.asB ?_)
                  exact J1566h r1561 _ (C1565.sub (List.Sublist.cons _ List.Sublist.slnil) (List.Sublist.cons _ (List.Sublist.cons _ (List.Sublist.cons _ List.Sublist.slnil))) (List.Sublist.refl _))
                · exact J1566h false _ (C1557.sub (List.Sublist.cons _ List.Sublist.slnil) (List.Sublist.cons _ (List.Sublist.cons _ (List.Sublist.cons _ List.Sublist.slnil))) (List.Sublist.refl _))
              · generalize s = s1751 at h ⊢
                obtain ⟨rfl, rfl, C1752⟩ := h
                rw [e3_after1_ret n]
                subst hH; subst hQ
                exact Rf.leaf fun _ => Ev.done (Rf.ret C1752 rfl)
            · generalize s = s1934 at h ⊢
              obtain ⟨rfl, rfl, C1935⟩ := h
              rw [e3_after0_ret n]
              subst hH; subst hQ
              exact Rf.leaf fun _ => Ev.done (Rf.ret C1935 rfl)
        clear hJ158 hJ158'
        refine Rf.ldI (C105.at m3 rfl) ?_
        refine Rf.ldI (C105.at m3 rfl) ?_
        refine Rf.ldI (C105.at m0 rfl) ?_
        refine Rf.ldI (C105.at m0 rfl) ?_
        refine Rf.ite ?_ ?_
        · exact J158h true _ (C105.sub (List.Sublist.cons _ (List.Sublist.cons _ (List.Sublist.cons _ (List.Sublist.cons _ List.Sublist.slnil)))) (List.Sublist.refl _) (List.Sublist.refl _))
        · refine Rf.ldI (C105.at m3 rfl) ?_
          refine Rf.ite ?_ ?_
          · refine Rf.call0 C105 (t11 n p0 p1 s104 (C105.sr0 rfl h0)) ?_
            rintro r113 _ s114 rfl h116
            have C117 : Cx s0.next [] [] s0 s114 [(s54.next, AObj.box 24 [(Value.int .i64 x101), (Value.int .i64 x102)]), (s30.next, AObj.box 24 [(Value.int .i64 r29.2.1), (Value.int .i64 r29.2.2)]), (s14.next, AObj.box 24 [(Value.int .i64 r13.2.1), (Value.int .i64 r13.2.2)]), (s2.next, AObj.box 24 [(Value.int .i64 r1.2.1), (Value.int .i64 r1.2.2)])] [(On.mk (rI .u8) r29.1 A31 c32 5), (On.mk (rP (rI .i64) (rI .i64)) r13.1 A15 c16 38)] [] := h116 [] (by simp) List.Pairwise.nil
            refine (Rf.asI ?_)
            refine Rf.ite ?_ ?_
            · exact J158h true _ (C117.sub (List.Sublist.cons _ (List.Sublist.cons _ (List.Sublist.cons _ (List.Sublist.cons _ List.Sublist.slnil)))) (List.Sublist.refl _) (List.Sublist.refl _))
            · refine Rf.ldI (C117.at m2 rfl) ?_
              refine Rf.ite ?_ ?_
              · exact J158h true _ (C117.sub (List.Sublist.cons _ (List.Sublist.cons _ (List.Sublist.cons _ (List.Sublist.cons _ List.Sublist.slnil)))) (List.Sublist.refl _) (List.Sublist.refl _))
              · refine Rf.ldI (C117.at m1 rfl) ?_
                refine Rf.ite ?_ ?_
                · exact J158h true _ (C117.sub (List.Sublist.cons _ (List.Sublist.cons _ (List.Sublist.cons _ (List.Sublist.cons _ List.Sublist.slnil)))) (List.Sublist.refl _) (List.Sublist.refl _))
                · refine Rf.call0 C117 (t13 n p0 s114 (C117.sr0 rfl h0)) ?_
                  rintro r124 _ s125 ⟨A126, c127, rfl, h128⟩ h131
                  have C132 : Cx s0.next [] [] s0 s125 [(s54.next, AObj.box 24 [(Value.int .i64 x101), (Value.int .i64 x102)]), (s30.next, AObj.box 24 [(Value.int .i64 r29.2.1), (Value.int .i64 r29.2.2)]), (s14.next, AObj.box 24 [(Value.int .i64 r13.2.1), (Value.int .i64 r13.2.2)]), (s2.next, AObj.box 24 [(Value.int .i64 r1.2.1), (Value.int .i64 r1.2.2)])] [(On.mk (rI .u8) r124 A126 c127 5), (On.mk (rI .u8) r29.1 A31 c32 5), (On.mk (rP (rI .i64) (rI .i64)) r13.1 A15 c16 38)] [] := h131 [(On.mk (rI .u8) r124 A126 c127 5)] (by simpa using h128) (List.pairwise_singleton _ _)
                  refine (Rf.asSl ?_)
                  refine Rf.call0 C132 (t12 n r29.1 r124 s125 (C132.srB m1) (C132.srB m0)) ?_
                  rintro r133 _ s134 rfl h136
                  have C137 : Cx s0.next [] [] s0 s134 [(s54.next, AObj.box 24 [(Value.int .i64 x101), (Value.int .i64 x102)]), (s30.next, AObj.box 24 [(Value.int .i64 r29.2.1), (Value.int .i64 r29.2.2)]), (s14.next, AObj.box 24 [(Value.int .i64 r13.2.1), (Value.int .i64 r13.2.2)]), (s2.next, AObj.box 24 [(Value.int .i64 r1.2.1), (Value.int .i64 r1.2.2)])] [(On.mk (rI .u8) r124 A126 c127 5), (On.mk (rI .u8) r29.1 A31 c32 5), (On.mk (rP (rI .i64) (rI .i64)) r13.1 A15 c16 38)] [] := h136 [] (by simp) List.Pairwise.nil
                  refine (Rf.asB ?_)
                  exact J158h (!r133) _ (C137.sub (List.Sublist.cons _ (List.Sublist.cons _ (List.Sublist.cons _ (List.Sublist.cons _ List.Sublist.slnil)))) (List.Sublist.cons _ (List.Sublist.cons_cons _ (List.Sublist.cons_cons _ List.Sublist.slnil))) (List.Sublist.refl _))
          · refine Rf.ldI (C105.at m2 rfl) ?_
            refine Rf.ite ?_ ?_
            · exact J158h true _ (C105.sub (List.Sublist.cons _ (List.Sublist.cons _ (List.Sublist.cons _ (List.Sublist.cons _ List.Sublist.slnil)))) (List.Sublist.refl _) (List.Sublist.refl _))
            · refine Rf.ldI (C105.at m1 rfl) ?_
              refine Rf.ite ?_ ?_
              · exact J158h true _ (C105.sub (List.Sublist.cons _ (List.Sublist.cons _ (List.Sublist.cons _ (List.Sublist.cons _ List.Sublist.slnil)))) (List.Sublist.refl _) (List.Sublist.refl _))
              · refine Rf.call0 C105 (t13 n p0 s104 (C105.sr0 rfl h0)) ?_
                rintro r144 _ s145 ⟨A146, c147, rfl, h148⟩ h151
                have C152 : Cx s0.next [] [] s0 s145 [(s54.next, AObj.box 24 [(Value.int .i64 x101), (Value.int .i64 x102)]), (s30.next, AObj.box 24 [(Value.int .i64 r29.2.1), (Value.int .i64 r29.2.2)]), (s14.next, AObj.box 24 [(Value.int .i64 r13.2.1), (Value.int .i64 r13.2.2)]), (s2.next, AObj.box 24 [(Value.int .i64 r1.2.1), (Value.int .i64 r1.2.2)])] [(On.mk (rI .u8) r144 A146 c147 5), (On.mk (rI .u8) r29.1 A31 c32 5), (On.mk (rP (rI .i64) (rI .i64)) r13.1 A15 c16 38)] [] := h151 [(On.mk (rI .u8) r144 A146 c147 5)] (by simpa using h148) (List.pairwise_singleton _ _)
                refine (Rf.asSl ?_)
                refine Rf.call0 C152 (t12 n r29.1 r144 s145 (C152.srB m1) (C152.srB m0)) ?_
                rintro r153 _ s154 rfl h156
                have C157 : Cx s0.next [] [] s0 s154 [(s54.next, AObj.box 24 [(Value.int .i64 x101), (Value.int .i64 x102)]), (s30.next, AObj.box 24 [(Value.int .i64 r29.2.1), (Value.int .i64 r29.2.2)]), (s14.next, AObj.box 24 [(Value.int .i64 r13.2.1), (Value.int .i64 r13.2.2)]), (s2.next, AObj.box 24 [(Value.int .i64 r1.2.1), (Value.int .i64 r1.2.2)])] [(On.mk (rI .u8) r144 A146 c147 5), (On.mk (rI .u8) r29.1 A31 c32 5), (On.mk (rP (rI .i64) (rI .i64)) r13.1 A15 c16 38)] [] := h156 [] (by simp) List.Pairwise.nil
                refine (Rf.asB ?_)
                exact J158h (!r153) _ (C157.sub (List.Sublist.cons _ (List.Sublist.cons _ (List.Sublist.cons _ (List.Sublist.cons _ List.Sublist.slnil)))) (List.Sublist.cons _ (List.Sublist.cons_cons _ (List.Sublist.cons_cons _ List.Sublist.slnil))) (List.Sublist.refl _))
      clear hJ100 hJ100'
      refine Rf.pj fun J80 J80' hJ80 hJ80' => ?_
      have J80h : ∀ (b81 : Bool) (_ : Cx s0.next [] [] s0 s78 [(s54.next, AObj.box 24 [(Value.int .i64 0), (Value.int .i64 0)]), (s30.next, AObj.box 24 [(Value.int .i64 r29.2.1), (Value.int .i64 r29.2.2)]), (s14.next, AObj.box 24 [(Value.int .i64 r13.2.1), (Value.int .i64 r13.2.2)]), (s2.next, AObj.box 24 [(Value.int .i64 r1.2.1), (Value.int .i64 r1.2.2)])] [(On.mk (rI .u8) r29.1 A31 c32 5), (On.mk (rP (rI .i64) (rI .i64)) r13.1 A15 c16 38)] []), Rf (J80 b81) H Q (J80' b81) := by
        subst hJ80
        subst hJ80'
        intro b81 C83
        refine Rf.ite ?_ ?_
        · refine Rf.call0 C83 (t10 n 4 (-2) s78) ?_
          rintro r84 _ s85 rfl h88
          have C89 : Cx s0.next [] [] s0 s85 [(s54.next, AObj.box 24 [(Value.int .i64 0), (Value.int .i64 0)]), (s30.next, AObj.box 24 [(Value.int .i64 r29.2.1), (Value.int .i64 r29.2.2)]), (s14.next, AObj.box 24 [(Value.int .i64 r13.2.1), (Value.int .i64 r13.2.2)]), (s2.next, AObj.box 24 [(Value.int .i64 r1.2.1), (Value.int .i64 r1.2.2)])] [(On.mk (rI .u8) r29.1 A31 c32 5), (On.mk (rP (rI .i64) (rI .i64)) r13.1 A15 c16 38)] [] := h88 [] (by simp) List.Pairwise.nil
          refine (Rf.asAgg (Rf.unc (Rf.asI (Rf.unc (Rf.asI (Rf.unn ?_))))))
          refine Rf.sto 0 C89 rfl (by simp) rfl fun s90 (C91 : Cx s0.next [] [] s0 s90 [(s54.next, AObj.box 24 [(Value.int .i64 r84.1), (Value.int .i64 r84.2)]), (s30.next, AObj.box 24 [(Value.int .i64 r29.2.1), (Value.int .i64 r29.2.2)]), (s14.next, AObj.box 24 [(Value.int .i64 r13.2.1), (Value.int .i64 r13.2.2)]), (s2.next, AObj.box 24 [(Value.int .i64 r1.2.1), (Value.int .i64 r1.2.2)])] [(On.mk (rI .u8) r29.1 A31 c32 5), (On.mk (rP (rI .i64) (rI .i64)) r13.1 A15 c16 38)] []) => ?_
          exact J100h _ r84.1 r84.2 _ (C91.sub (List.Sublist.refl _) (List.Sublist.refl _) (List.Sublist.refl _))
        · refine Rf.ite ?_ ?_
          · refine Rf.call0 C83 (t10 n 12 (-2) s78) ?_
            rintro r92 _ s93 rfl h96
            have C97 : Cx s0.next [] [] s0 s93 [(s54.next, AObj.box 24 [(Value.int .i64 0), (Value.int .i64 0)]), (s30.next, AObj.box 24 [(Value.int .i64 r29.2.1), (Value.int .i64 r29.2.2)]), (s14.next, AObj.box 24 [(Value.int .i64 r13.2.1), (Value.int .i64 r13.2.2)]), (s2.next, AObj.box 24 [(Value.int .i64 r1.2.1), (Value.int .i64 r1.2.2)])] [(On.mk (rI .u8) r29.1 A31 c32 5), (On.mk (rP (rI .i64) (rI .i64)) r13.1 A15 c16 38)] [] := h96 [] (by simp) List.Pairwise.nil
            refine (Rf.asAgg (Rf.unc (Rf.asI (Rf.unc (Rf.asI (Rf.unn ?_))))))
            refine Rf.sto 0 C97 rfl (by simp) rfl fun s98 (C99 : Cx s0.next [] [] s0 s98 [(s54.next, AObj.box 24 [(Value.int .i64 r92.1), (Value.int .i64 r92.2)]), (s30.next, AObj.box 24 [(Value.int .i64 r29.2.1), (Value.int .i64 r29.2.2)]), (s14.next, AObj.box 24 [(Value.int .i64 r13.2.1), (Value.int .i64 r13.2.2)]), (s2.next, AObj.box 24 [(Value.int .i64 r1.2.1), (Value.int .i64 r1.2.2)])] [(On.mk (rI .u8) r29.1 A31 c32 5), (On.mk (rP (rI .i64) (rI .i64)) r13.1 A15 c16 38)] []) => ?_
            exact J100h _ r92.1 r92.2 _ (C99.sub (List.Sublist.refl _) (List.Sublist.refl _) (List.Sublist.refl _))
          · exact J100h _ 0 0 _ (C83.sub (List.Sublist.refl _) (List.Sublist.refl _) (List.Sublist.refl _))
      clear hJ80 hJ80'
      refine Rf.ite ?_ ?_
      · exact J80h true (C79.sub (List.Sublist.cons_cons _ (List.Sublist.cons _ (List.Sublist.cons_cons _ (List.Sublist.cons_cons _ (List.Sublist.cons_cons _ List.Sublist.slnil))))) (List.Sublist.refl _) (List.Sublist.refl _))
      · exact J80h (decide ((p1 : Int) ≥ 60000)) (C79.sub (List.Sublist.cons_cons _ (List.Sublist.cons _ (List.Sublist.cons_cons _ (List.Sublist.cons_cons _ (List.Sublist.cons_cons _ List.Sublist.slnil))))) (List.Sublist.refl _) (List.Sublist.refl _))
end Go.Proofs.YtmjignphadnadaaF
