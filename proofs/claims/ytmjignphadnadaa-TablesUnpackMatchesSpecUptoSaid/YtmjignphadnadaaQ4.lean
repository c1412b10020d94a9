/- Law 4 of the tables' laws, told as plain functions. -/
import Derived.Test.YtmjignphadnadaaG2
import Derived.Test.YtmjignphadnadaaP1
import Derived.Test.YtmjignphadnadaaX4
set_option linter.unusedVariables false
set_option linter.unusedSimpArgs false
namespace Go.Proofs.YtmjignphadnadaaF
open Go Go.Proofs
set_option maxRecDepth 100000

-- 4 "brindlewood/brindlewoodlaw8.TablesUnpackMatchesSpec"
abbrev Inv4_1 (s0 : St) (p0 : (List Int)) (A0 : Option Addr) (c0 : Nat) (h0 : Sr (rI .u8) s0 A0 c0 p0) (A3 : Option Addr) (c4 : Nat) (r1 : ((List (Int × Int)) × (Int × Int))) (A19 : Option Addr) (c20 : Nat) (i54 : Nat) (i55 : Nat) (i56 : Nat) (r17 : ((List (List Int)) × Int)) (t : ((List (Int × Int)) × Int × Int × Int)) (g : Regs) (s : St) : Prop := ∃ (A48 : Option Addr) (c49 : Nat), g = (rg 185 [(0, (Value.slice A0 (p0).length c0)), (3, (Value.slice A3 (r1.1).length c4)), (4, (Value.pointer (some ⟨i56, 0, none⟩))), (7, (Value.pointer (some ⟨i55, 0, none⟩))), (8, (Value.slice A48 (t.1).length c49)), (9, (Value.pointer (some ⟨i54, 0, none⟩))), (41, (Value.slice A19 (r17.1).length c20)), (42, (Value.int .i64 ((r17.1).length : Nat))), (43, (Value.int .i64 t.2.2.2))]) ∧ Cx s0.next [] [] s0 s [(i54, AObj.box 38 [(Value.int .i64 t.2.1), (Value.int .i64 t.2.2.1)]), (i55, AObj.box 24 [(Value.int .i64 0), (Value.int .i64 0)]), (i56, AObj.box 24 [(Value.int .i64 r1.2.1), (Value.int .i64 r1.2.2)])] [(On.mk (rP (rI .i64) (rI .i64)) t.1 A48 c49 38), (On.mk (rL (rI .i64)) r17.1 A19 c20 39), (On.mk (rP (rI .i64) (rI .i64)) r1.1 A3 c4 38)] []
abbrev Ex4_1 (s0 : St) (p0 : (List Int)) (A0 : Option Addr) (c0 : Nat) (h0 : Sr (rI .u8) s0 A0 c0 p0) (A3 : Option Addr) (c4 : Nat) (r1 : ((List (Int × Int)) × (Int × Int))) (A19 : Option Addr) (c20 : Nat) (i54 : Nat) (i55 : Nat) (i56 : Nat) (r17 : ((List (List Int)) × Int)) (t : ((List (Int × Int)) × Int × Int × Int)) (e : X) (g : Regs) (s : St) : Prop := ∃ (A297 : Option Addr) (c298 : Nat), e = .exit 0 ∧ g = (rg 185 [(0, (Value.slice A0 (p0).length c0)), (3, (Value.slice A3 (r1.1).length c4)), (4, (Value.pointer (some ⟨i56, 0, none⟩))), (7, (Value.pointer (some ⟨i55, 0, none⟩))), (8, (Value.slice A297 (t.1).length c298)), (9, (Value.pointer (some ⟨i54, 0, none⟩))), (41, (Value.slice A19 (r17.1).length c20)), (42, (Value.int .i64 ((r17.1).length : Nat))), (43, (Value.int .i64 t.2.2.2)), (44, (Value.bool false))]) ∧ Cx s0.next [] [] s0 s [(i54, AObj.box 38 [(Value.int .i64 t.2.1), (Value.int .i64 t.2.2.1)]), (i55, AObj.box 24 [(Value.int .i64 0), (Value.int .i64 0)]), (i56, AObj.box 24 [(Value.int .i64 r1.2.1), (Value.int .i64 r1.2.2)])] [(On.mk (rP (rI .i64) (rI .i64)) t.1 A297 c298 38), (On.mk (rL (rI .i64)) r17.1 A19 c20 39), (On.mk (rP (rI .i64) (rI .i64)) r1.1 A3 c4 38)] []
theorem x4_1 (s0 : St) (p0 : (List Int)) (A0 : Option Addr) (c0 : Nat) (h0 : Sr (rI .u8) s0 A0 c0 p0) (A3 : Option Addr) (c4 : Nat) (r1 : ((List (Int × Int)) × (Int × Int))) (A19 : Option Addr) (c20 : Nat) (i54 : Nat) (i55 : Nat) (i56 : Nat) (r17 : ((List (List Int)) × Int)) (t : ((List (Int × Int)) × Int × Int × Int)) (e : X) (g : Regs) (s : St) (h : Ex4_1 s0 p0 A0 c0 h0 A3 c4 r1 A19 c20 i54 i55 i56 r17 t e g s) : e ≠ .normal := by
  obtain ⟨_, _, h, _⟩ := h
  rw [h]; intro hh; cases hh
def pb4_1 (n : Nat)  (r17 : ((List (List Int)) × Int)) (t : ((List (Int × Int)) × Int × Int × Int)) : Option (((List (Int × Int)) × Int × Int × Int) ⊕ ((List (Int × Int)) × Int × Int × Int)) :=
  (if (decide ((t.2.2.2 : Int) < ((r17.1).length : Nat))) then ((rd r17.1 t.2.2.2 (fun x245 => (rd x245 0 (fun x260 => rd x245 1 (fun x270 => (p17 n x270).bind fun r277 => (apP 16 t.1 [((IntKind.wrap .i64 (t.2.1 + x260)), (IntKind.wrap .i64 (t.2.2.1 + r277)))] (fun y290 => ((some (.inl ((t.1 ++ [((IntKind.wrap .i64 (t.2.1 + x260)), (IntKind.wrap .i64 (t.2.2.1 + r277)))]), (IntKind.wrap .i64 (t.2.1 + x260)), (IntKind.wrap .i64 (t.2.2.1 + r277)), (IntKind.wrap .i64 (t.2.2.2 + 1)))))))))))))) else (((some (.inr (t.1, t.2.1, t.2.2.1, t.2.2.2))))))
theorem b4_1 (n : Nat) (s0 : St) (p0 : (List Int)) (A0 : Option Addr) (c0 : Nat) (h0 : Sr (rI .u8) s0 A0 c0 p0) (A3 : Option Addr) (c4 : Nat) (r1 : ((List (Int × Int)) × (Int × Int))) (A19 : Option Addr) (c20 : Nat) (i54 : Nat) (i55 : Nat) (i56 : Nat) (r17 : ((List (List Int)) × Int)) (t : ((List (Int × Int)) × Int × Int × Int)) (g : Regs) (s242 : St) (K : Kont) (Q : Out → St → Prop) (h : Inv4_1 s0 p0 A0 c0 h0 A3 c4 r1 A19 c20 i54 i55 i56 r17 t g s242) :
    Rf (pb4_1 n r17 t) (fun r => ∀ e g' s', LK (Inv4_1 s0 p0 A0 c0 h0 A3 c4 r1 A19 c20 i54 i55 i56 r17) (Ex4_1 s0 p0 A0 c0 h0 A3 c4 r1 A19 c20 i54 i55 i56 r17) r e g' s' → Ev (K e g' s') Q) (fun _ => Q) (kBody E 4 n [.b, .b, .b, .b, .b, .a, .b, .b, .b, .a, .b, .a, .a] g s242 K) := by
  obtain ⟨y50, x51, x52, x53⟩ := t
  obtain ⟨A48, c49, rfl, C243⟩ := h
  rw [e4_body0 n]
  unfold pb4_1
  refine Rf.gen fun H Q hH hQ => ?_
  try dsimp only
  refine Rf.ite ?_ ?_
  · refine Rf.elt (r := (rL (rI .i64))) (C243.srB m1) rfl fun x245 i246 o247 c248 r249 h250 => ?_
    obtain ⟨A251, c252, rfl, h253⟩ := rL_elim r249
    have C255 := C243.add (Fa.sr (rI .i64) A251 c252 x245) h253
    refine Rf.ldSl (h250.at 0 rfl) ?_
    refine Rf.ldI (C255.at m0 rfl) ?_
    refine Rf.elt (r := (rI .i64)) (C255.srG m0) rfl fun x260 i261 o262 c263 r264 h265 => ?_
    obtain rfl := rI_elim r264
    refine Rf.ldI (h265.at 0 rfl) ?_
    refine Rf.ldI (C255.at m0 rfl) ?_
    refine Rf.elt (r := (rI .i64)) (C255.srG m0) rfl fun x270 i271 o272 c273 r274 h275 => ?_
    obtain rfl := rI_elim r274
    refine Rf.ldI (h275.at 0 rfl) ?_
    refine Rf.callZ (t17 n x270 St.bare) ?_
    rintro r277 _ s278 rfl
    refine (Rf.asI ?_)
    refine Rf.sto 0 C255 rfl (by simp) rfl fun s281 (C282 : Cx s0.next [] [] s0 s281 [(i54, AObj.box 38 [(Value.int .i64 (IntKind.wrap .i64 (x51 + x260))), (Value.int .i64 (IntKind.wrap .i64 (x52 + r277)))]), (i55, AObj.box 24 [(Value.int .i64 0), (Value.int .i64 0)]), (i56, AObj.box 24 [(Value.int .i64 r1.2.1), (Value.int .i64 r1.2.2)])] [(On.mk (rP (rI .i64) (rI .i64)) y50 A48 c49 38), (On.mk (rL (rI .i64)) r17.1 A19 c20 39), (On.mk (rP (rI .i64) (rI .i64)) r1.1 A3 c4 38)] [(Fa.sr (rI .i64) A251 c252 x245)]) => ?_
    refine Rf.ldI (C282.at m0 rfl) ?_
    refine Rf.ldI (C282.at m0 rfl) ?_
    refine Rf.newR (r := (rP (rI .i64) (rI .i64))) (xs := [((IntKind.wrap .i64 (x51 + x260)), (IntKind.wrap .i64 (x52 + r277)))]) C282 rfl (many.cons (c := [(Value.int .i64 (IntKind.wrap .i64 (x51 + x260))), (Value.int .i64 (IntKind.wrap .i64 (x52 + r277)))]) (rP_mk rI_mk rI_mk) many.nil) fun s285 (C286 : Cx s0.next [] [] s0 s285 [(i54, AObj.box 38 [(Value.int .i64 (IntKind.wrap .i64 (x51 + x260))), (Value.int .i64 (IntKind.wrap .i64 (x52 + r277)))]), (i55, AObj.box 24 [(Value.int .i64 0), (Value.int .i64 0)]), (i56, AObj.box 24 [(Value.int .i64 r1.2.1), (Value.int .i64 r1.2.2)])] [(On.mk (rP (rI .i64) (rI .i64)) [((IntKind.wrap .i64 (x51 + x260)), (IntKind.wrap .i64 (x52 + r277)))] (some ⟨s281.next, 0, none⟩) 1 38), (On.mk (rP (rI .i64) (rI .i64)) y50 A48 c49 38), (On.mk (rL (rI .i64)) r17.1 A19 c20 39), (On.mk (rP (rI .i64) (rI .i64)) r1.1 A3 c4 38)] [(Fa.sr (rI .i64) A251 c252 x245)]) => ?_
    refine Rf.kapp 1 C286 rfl rfl (by decide) (by decide) (Ap.sr u22 rfl (C286.srB m0)) fun A288 c289 s292 (C293 : Cx s0.next [] [] s0 s292 [(i54, AObj.box 38 [(Value.int .i64 (IntKind.wrap .i64 (x51 + x260))), (Value.int .i64 (IntKind.wrap .i64 (x52 + r277)))]), (i55, AObj.box 24 [(Value.int .i64 0), (Value.int .i64 0)]), (i56, AObj.box 24 [(Value.int .i64 r1.2.1), (Value.int .i64 r1.2.2)])] [(On.mk (rP (rI .i64) (rI .i64)) [((IntKind.wrap .i64 (x51 + x260)), (IntKind.wrap .i64 (x52 + r277)))] (some ⟨s281.next, 0, none⟩) 1 38), (On.mk (rP (rI .i64) (rI .i64)) (y50 ++ [((IntKind.wrap .i64 (x51 + x260)), (IntKind.wrap .i64 (x52 + r277)))]) A288 c289 38), (On.mk (rL (rI .i64)) r17.1 A19 c20 39), (On.mk (rP (rI .i64) (rI .i64)) r1.1 A3 c4 38)] [(Fa.sr (rI .i64) A251 c252 x245)]) => ?_
    have C294 : Cx s0.next [] [] s0 s292 [(i54, AObj.box 38 [(Value.int .i64 (IntKind.wrap .i64 (x51 + x260))), (Value.int .i64 (IntKind.wrap .i64 (x52 + r277)))]), (i55, AObj.box 24 [(Value.int .i64 0), (Value.int .i64 0)]), (i56, AObj.box 24 [(Value.int .i64 r1.2.1), (Value.int .i64 r1.2.2)])] [(On.mk (rP (rI .i64) (rI .i64)) (y50 ++ [((IntKind.wrap .i64 (x51 + x260)), (IntKind.wrap .i64 (x52 + r277)))]) A288 c289 38), (On.mk (rL (rI .i64)) r17.1 A19 c20 39), (On.mk (rP (rI .i64) (rI .i64)) r1.1 A3 c4 38)] [(Fa.sr (rI .i64) A251 c252 x245)] := C293.sub (List.Sublist.refl _) (List.Sublist.cons _ (List.Sublist.cons_cons _ (List.Sublist.cons_cons _ (List.Sublist.cons_cons _ List.Sublist.slnil)))) (List.Sublist.refl _)
    subst hH; subst hQ
    exact Rf.leaf fun h => h _ _ _ ⟨rfl, _, _, rfl, (C294.sub (List.Sublist.refl _) (List.Sublist.refl _) (List.Sublist.cons _ List.Sublist.slnil))⟩
  · subst hH; subst hQ
    exact Rf.leaf fun h => h _ _ _ ⟨_, _, rfl, rfl, (C243.sub (List.Sublist.refl _) (List.Sublist.refl _) (List.Sublist.refl _))⟩
abbrev Inv4_2 (s0 : St) (p0 : (List Int)) (A0 : Option Addr) (c0 : Nat) (h0 : Sr (rI .u8) s0 A0 c0 p0) (A564 : Option Addr) (A577 : Option Addr) (c565 : Nat) (c578 : Nat) (i603 : Nat) (i604 : Nat) (r562 : ((List (Int × Int × Int × Int)) × (Int × Int))) (r575 : ((List (List Int)) × Int)) (t : ((List (Int × Int × Int × Int)) × Int × Int)) (g : Regs) (s : St) : Prop := ∃ (A598 : Option Addr) (c599 : Nat), g = (rg 185 [(0, (Value.slice A0 (p0).length c0)), (4, (Value.pointer (some ⟨i604, 0, none⟩))), (7, (Value.pointer (some ⟨i603, 0, none⟩))), (15, (Value.slice A564 (r562.1).length c565)), (17, (Value.slice A598 (t.1).length c599)), (18, (Value.int .i64 t.2.1)), (117, (Value.slice A577 (r575.1).length c578)), (118, (Value.int .i64 ((r575.1).length : Nat))), (119, (Value.int .i64 t.2.2))]) ∧ Cx s0.next [] [] s0 s [(i603, AObj.box 24 [(Value.int .i64 0), (Value.int .i64 0)]), (i604, AObj.box 24 [(Value.int .i64 r562.2.1), (Value.int .i64 r562.2.2)])] [(On.mk (rP (rI .i64) (rP (rI .i64) (rP (rI .i64) (rI .i64)))) t.1 A598 c599 51), (On.mk (rL (rI .i64)) r575.1 A577 c578 39), (On.mk (rP (rI .i64) (rP (rI .i64) (rP (rI .i64) (rI .i64)))) r562.1 A564 c565 51)] []
abbrev Ex4_2 (s0 : St) (p0 : (List Int)) (A0 : Option Addr) (c0 : Nat) (h0 : Sr (rI .u8) s0 A0 c0 p0) (A564 : Option Addr) (A577 : Option Addr) (c565 : Nat) (c578 : Nat) (i603 : Nat) (i604 : Nat) (r562 : ((List (Int × Int × Int × Int)) × (Int × Int))) (r575 : ((List (List Int)) × Int)) (t : ((List (Int × Int × Int × Int)) × Int × Int)) (e : X) (g : Regs) (s : St) : Prop := ∃ (A856 : Option Addr) (c857 : Nat), e = .exit 2 ∧ g = (rg 185 [(0, (Value.slice A0 (p0).length c0)), (4, (Value.pointer (some ⟨i604, 0, none⟩))), (7, (Value.pointer (some ⟨i603, 0, none⟩))), (15, (Value.slice A564 (r562.1).length c565)), (17, (Value.slice A856 (t.1).length c857)), (18, (Value.int .i64 t.2.1)), (117, (Value.slice A577 (r575.1).length c578)), (118, (Value.int .i64 ((r575.1).length : Nat))), (119, (Value.int .i64 t.2.2)), (120, (Value.bool false))]) ∧ Cx s0.next [] [] s0 s [(i603, AObj.box 24 [(Value.int .i64 0), (Value.int .i64 0)]), (i604, AObj.box 24 [(Value.int .i64 r562.2.1), (Value.int .i64 r562.2.2)])] [(On.mk (rP (rI .i64) (rP (rI .i64) (rP (rI .i64) (rI .i64)))) t.1 A856 c857 51), (On.mk (rL (rI .i64)) r575.1 A577 c578 39), (On.mk (rP (rI .i64) (rP (rI .i64) (rP (rI .i64) (rI .i64)))) r562.1 A564 c565 51)] []
theorem x4_2 (s0 : St) (p0 : (List Int)) (A0 : Option Addr) (c0 : Nat) (h0 : Sr (rI .u8) s0 A0 c0 p0) (A564 : Option Addr) (A577 : Option Addr) (c565 : Nat) (c578 : Nat) (i603 : Nat) (i604 : Nat) (r562 : ((List (Int × Int × Int × Int)) × (Int × Int))) (r575 : ((List (List Int)) × Int)) (t : ((List (Int × Int × Int × Int)) × Int × Int)) (e : X) (g : Regs) (s : St) (h : Ex4_2 s0 p0 A0 c0 h0 A564 A577 c565 c578 i603 i604 r562 r575 t e g s) : e ≠ .normal := by
  obtain ⟨_, _, h, _⟩ := h
  rw [h]; intro hh; cases hh
def pb4_2 (n : Nat)  (r575 : ((List (List Int)) × Int)) (t : ((List (Int × Int × Int × Int)) × Int × Int)) : Option (((List (Int × Int × Int × Int)) × Int × Int) ⊕ ((List (Int × Int × Int × Int)) × Int × Int)) :=
  (if (decide ((t.2.2 : Int) < ((r575.1).length : Nat))) then ((rd r575.1 t.2.2 (fun x793 => (rd x793 0 (fun x805 => (p17 n x805).bind fun r812 => (rd x793 1 (fun x817 => (rd x793 2 (fun x824 => (p17 n x824).bind fun r831 => rd x793 3 (fun x835 => apP 32 t.1 [((IntKind.wrap .i64 (t.2.1 + r812)), (IntKind.wrap .i64 ((IntKind.wrap .i64 (t.2.1 + r812)) + x817)), (IntKind.wrap .i64 ((IntKind.wrap .i64 ((IntKind.wrap .i64 (t.2.1 + r812)) + x817)) + r831)), x835)] (fun y847 => ((some (.inl ((t.1 ++ [((IntKind.wrap .i64 (t.2.1 + r812)), (IntKind.wrap .i64 ((IntKind.wrap .i64 (t.2.1 + r812)) + x817)), (IntKind.wrap .i64 ((IntKind.wrap .i64 ((IntKind.wrap .i64 (t.2.1 + r812)) + x817)) + r831)), x835)]), (IntKind.wrap .i64 (t.2.1 + r812)), (IntKind.wrap .i64 (t.2.2 + 1))))))))))))))))) else (((some (.inr (t.1, t.2.1, t.2.2))))))
theorem b4_2 (n : Nat) (s0 : St) (p0 : (List Int)) (A0 : Option Addr) (c0 : Nat) (h0 : Sr (rI .u8) s0 A0 c0 p0) (A564 : Option Addr) (A577 : Option Addr) (c565 : Nat) (c578 : Nat) (i603 : Nat) (i604 : Nat) (r562 : ((List (Int × Int × Int × Int)) × (Int × Int))) (r575 : ((List (List Int)) × Int)) (t : ((List (Int × Int × Int × Int)) × Int × Int)) (g : Regs) (s790 : St) (K : Kont) (Q : Out → St → Prop) (h : Inv4_2 s0 p0 A0 c0 h0 A564 A577 c565 c578 i603 i604 r562 r575 t g s790) :
    Rf (pb4_2 n r575 t) (fun r => ∀ e g' s', LK (Inv4_2 s0 p0 A0 c0 h0 A564 A577 c565 c578 i603 i604 r562 r575) (Ex4_2 s0 p0 A0 c0 h0 A564 A577 c565 c578 i603 i604 r562 r575) r e g' s' → Ev (K e g' s') Q) (fun _ => Q) (kBody E 4 n [.b, .b, .b, .b, .b, .b, .b, .b, .b, .b, .b, .b, .a, .b, .b, .b, .a, .b, .a, .a] g s790 K) := by
  obtain ⟨y600, x601, x602⟩ := t
  obtain ⟨A598, c599, rfl, C791⟩ := h
  rw [e4_body1 n]
  unfold pb4_2
  refine Rf.gen fun H Q hH hQ => ?_
  try dsimp only
  refine Rf.ite ?_ ?_
  · refine Rf.elt (r := (rL (rI .i64))) (C791.srB m1) rfl fun x793 i794 o795 c796 r797 h798 => ?_
    obtain ⟨A799, c800, rfl, h801⟩ := rL_elim r797
    have C803 := C791.add (Fa.sr (rI .i64) A799 c800 x793) h801
    refine Rf.ldSl (h798.at 0 rfl) ?_
    refine Rf.elt (r := (rI .i64)) (C803.srG m0) rfl fun x805 i806 o807 c808 r809 h810 => ?_
    obtain rfl := rI_elim r809
    refine Rf.ldI (h810.at 0 rfl) ?_
    refine Rf.call0 C803 (t17 n x805 s790) ?_
    rintro r812 _ s813 rfl h815
    have C816 : Cx s0.next [] [] s0 s813 [(i603, AObj.box 24 [(Value.int .i64 0), (Value.int .i64 0)]), (i604, AObj.box 24 [(Value.int .i64 r562.2.1), (Value.int .i64 r562.2.2)])] [(On.mk (rP (rI .i64) (rP (rI .i64) (rP (rI .i64) (rI .i64)))) y600 A598 c599 51), (On.mk (rL (rI .i64)) r575.1 A577 c578 39), (On.mk (rP (rI .i64) (rP (rI .i64) (rP (rI .i64) (rI .i64)))) r562.1 A564 c565 51)] [(Fa.sr (rI .i64) A799 c800 x793)] := h815 [] (by simp) List.Pairwise.nil
    refine (Rf.asI ?_)
    refine Rf.elt (r := (rI .i64)) (C816.srG m0) rfl fun x817 i818 o819 c820 r821 h822 => ?_
    obtain rfl := rI_elim r821
    refine Rf.ldI (h822.at 0 rfl) ?_
    refine Rf.elt (r := (rI .i64)) (C816.srG m0) rfl fun x824 i825 o826 c827 r828 h829 => ?_
    obtain rfl := rI_elim r828
    refine Rf.ldI (h829.at 0 rfl) ?_
    refine Rf.callZ (t17 n x824 St.bare) ?_
    rintro r831 _ s832 rfl
    refine (Rf.asI ?_)
    refine Rf.elt (r := (rI .i64)) (C816.srG m0) rfl fun x835 i836 o837 c838 r839 h840 => ?_
    obtain rfl := rI_elim r839
    refine Rf.ldI (h840.at 0 rfl) ?_
    refine Rf.newR (r := (rP (rI .i64) (rP (rI .i64) (rP (rI .i64) (rI .i64))))) (xs := [((IntKind.wrap .i64 (x601 + r812)), (IntKind.wrap .i64 ((IntKind.wrap .i64 (x601 + r812)) + x817)), (IntKind.wrap .i64 ((IntKind.wrap .i64 ((IntKind.wrap .i64 (x601 + r812)) + x817)) + r831)), x835)]) C816 rfl (many.cons (c := [(Value.int .i64 (IntKind.wrap .i64 (x601 + r812))), (Value.int .i64 (IntKind.wrap .i64 ((IntKind.wrap .i64 (x601 + r812)) + x817))), (Value.int .i64 (IntKind.wrap .i64 ((IntKind.wrap .i64 ((IntKind.wrap .i64 (x601 + r812)) + x817)) + r831))), (Value.int .i64 x835)]) (rP_mk rI_mk (rP_mk rI_mk (rP_mk rI_mk rI_mk))) many.nil) fun s842 (C843 : Cx s0.next [] [] s0 s842 [(i603, AObj.box 24 [(Value.int .i64 0), (Value.int .i64 0)]), (i604, AObj.box 24 [(Value.int .i64 r562.2.1), (Value.int .i64 r562.2.2)])] [(On.mk (rP (rI .i64) (rP (rI .i64) (rP (rI .i64) (rI .i64)))) [((IntKind.wrap .i64 (x601 + r812)), (IntKind.wrap .i64 ((IntKind.wrap .i64 (x601 + r812)) + x817)), (IntKind.wrap .i64 ((IntKind.wrap .i64 ((IntKind.wrap .i64 (x601 + r812)) + x817)) + r831)), x835)] (some ⟨s813.next, 0, none⟩) 1 51), (On.mk (rP (rI .i64) (rP (rI .i64) (rP (rI .i64) (rI .i64)))) y600 A598 c599 51), (On.mk (rL (rI .i64)) r575.1 A577 c578 39), (On.mk (rP (rI .i64) (rP (rI .i64) (rP (rI .i64) (rI .i64)))) r562.1 A564 c565 51)] [(Fa.sr (rI .i64) A799 c800 x793)]) => ?_
    refine Rf.kappA 1 C843 rfl rfl (by decide) (by decide) (Ap.sr u47 rfl (C843.lb.srB m0)) fun A845 c846 s851 h852 (C850 : Cx s0.next [] [] s0 { s851 with lowb := min s842.lowb s851.lowb } [(i603, AObj.box 24 [(Value.int .i64 0), (Value.int .i64 0)]), (i604, AObj.box 24 [(Value.int .i64 r562.2.1), (Value.int .i64 r562.2.2)])] [(On.mk (rP (rI .i64) (rP (rI .i64) (rP (rI .i64) (rI .i64)))) [((IntKind.wrap .i64 (x601 + r812)), (IntKind.wrap .i64 ((IntKind.wrap .i64 (x601 + r812)) + x817)), (IntKind.wrap .i64 ((IntKind.wrap .i64 ((IntKind.wrap .i64 (x601 + r812)) + x817)) + r831)), x835)] (some ⟨s813.next, 0, none⟩) 1 51), (On.mk (rP (rI .i64) (rP (rI .i64) (rP (rI .i64) (rI .i64)))) (y600 ++ [((IntKind.wrap .i64 (x601 + r812)), (IntKind.wrap .i64 ((IntKind.wrap .i64 (x601 + r812)) + x817)), (IntKind.wrap .i64 ((IntKind.wrap .i64 ((IntKind.wrap .i64 (x601 + r812)) + x817)) + r831)), x835)]) A845 c846 51), (On.mk (rL (rI .i64)) r575.1 A577 c578 39), (On.mk (rP (rI .i64) (rP (rI .i64) (rP (rI .i64) (rI .i64)))) r562.1 A564 c565 51)] [(Fa.sr (rI .i64) A799 c800 x793)]) => ?_
    refine Rf.ifp h852 ?_
    refine Rf.lt ?_
    generalize { s851 with lowb := min s842.lowb s851.lowb } = s849 at C850 ⊢
    have C853 : Cx s0.next [] [] s0 s849 [(i603, AObj.box 24 [(Value.int .i64 0), (Value.int .i64 0)]), (i604, AObj.box 24 [(Value.int .i64 r562.2.1), (Value.int .i64 r562.2.2)])] [(On.mk (rP (rI .i64) (rP (rI .i64) (rP (rI .i64) (rI .i64)))) (y600 ++ [((IntKind.wrap .i64 (x601 + r812)), (IntKind.wrap .i64 ((IntKind.wrap .i64 (x601 + r812)) + x817)), (IntKind.wrap .i64 ((IntKind.wrap .i64 ((IntKind.wrap .i64 (x601 + r812)) + x817)) + r831)), x835)]) A845 c846 51), (On.mk (rL (rI .i64)) r575.1 A577 c578 39), (On.mk (rP (rI .i64) (rP (rI .i64) (rP (rI .i64) (rI .i64)))) r562.1 A564 c565 51)] [(Fa.sr (rI .i64) A799 c800 x793)] := C850.sub (List.Sublist.refl _) (List.Sublist.cons _ (List.Sublist.cons_cons _ (List.Sublist.cons_cons _ (List.Sublist.cons_cons _ List.Sublist.slnil)))) (List.Sublist.refl _)
    subst hH; subst hQ
    exact Rf.leaf fun h => h _ _ _ ⟨rfl, _, _, rfl, (C853.sub (List.Sublist.refl _) (List.Sublist.refl _) (List.Sublist.cons _ List.Sublist.slnil))⟩
  · subst hH; subst hQ
    exact Rf.leaf fun h => h _ _ _ ⟨_, _, rfl, rfl, (C791.sub (List.Sublist.refl _) (List.Sublist.refl _) (List.Sublist.refl _))⟩
abbrev Inv4_3 (s0 : St) (p0 : (List Int)) (A0 : Option Addr) (c0 : Nat) (h0 : Sr (rI .u8) s0 A0 c0 p0) (A1260 : Option Addr) (A1273 : Option Addr) (c1261 : Nat) (c1274 : Nat) (i1299 : Nat) (i1300 : Nat) (r1258 : ((List (Int × Int × Int × Int)) × (Int × Int))) (r1271 : ((List (List Int)) × Int)) (t : ((List (Int × Int × Int × Int)) × Int × Int)) (g : Regs) (s : St) : Prop := ∃ (A1294 : Option Addr) (c1295 : Nat), g = (rg 185 [(0, (Value.slice A0 (p0).length c0)), (4, (Value.pointer (some ⟨i1300, 0, none⟩))), (7, (Value.pointer (some ⟨i1299, 0, none⟩))), (15, (Value.slice A1260 (r1258.1).length c1261)), (17, (Value.slice A1294 (t.1).length c1295)), (18, (Value.int .i64 t.2.1)), (117, (Value.slice A1273 (r1271.1).length c1274)), (118, (Value.int .i64 ((r1271.1).length : Nat))), (119, (Value.int .i64 t.2.2))]) ∧ Cx s0.next [] [] s0 s [(i1299, AObj.box 24 [(Value.int .i64 0), (Value.int .i64 0)]), (i1300, AObj.box 24 [(Value.int .i64 r1258.2.1), (Value.int .i64 r1258.2.2)])] [(On.mk (rP (rI .i64) (rP (rI .i64) (rP (rI .i64) (rI .i64)))) t.1 A1294 c1295 51), (On.mk (rL (rI .i64)) r1271.1 A1273 c1274 39), (On.mk (rP (rI .i64) (rP (rI .i64) (rP (rI .i64) (rI .i64)))) r1258.1 A1260 c1261 51)] []
abbrev Ex4_3 (s0 : St) (p0 : (List Int)) (A0 : Option Addr) (c0 : Nat) (h0 : Sr (rI .u8) s0 A0 c0 p0) (A1260 : Option Addr) (A1273 : Option Addr) (c1261 : Nat) (c1274 : Nat) (i1299 : Nat) (i1300 : Nat) (r1258 : ((List (Int × Int × Int × Int)) × (Int × Int))) (r1271 : ((List (List Int)) × Int)) (t : ((List (Int × Int × Int × Int)) × Int × Int)) (e : X) (g : Regs) (s : St) : Prop := ∃ (A1552 : Option Addr) (c1553 : Nat), e = .exit 2 ∧ g = (rg 185 [(0, (Value.slice A0 (p0).length c0)), (4, (Value.pointer (some ⟨i1300, 0, none⟩))), (7, (Value.pointer (some ⟨i1299, 0, none⟩))), (15, (Value.slice A1260 (r1258.1).length c1261)), (17, (Value.slice A1552 (t.1).length c1553)), (18, (Value.int .i64 t.2.1)), (117, (Value.slice A1273 (r1271.1).length c1274)), (118, (Value.int .i64 ((r1271.1).length : Nat))), (119, (Value.int .i64 t.2.2)), (120, (Value.bool false))]) ∧ Cx s0.next [] [] s0 s [(i1299, AObj.box 24 [(Value.int .i64 0), (Value.int .i64 0)]), (i1300, AObj.box 24 [(Value.int .i64 r1258.2.1), (Value.int .i64 r1258.2.2)])] [(On.mk (rP (rI .i64) (rP (rI .i64) (rP (rI .i64) (rI .i64)))) t.1 A1552 c1553 51), (On.mk (rL (rI .i64)) r1271.1 A1273 c1274 39), (On.mk (rP (rI .i64) (rP (rI .i64) (rP (rI .i64) (rI .i64)))) r1258.1 A1260 c1261 51)] []
theorem x4_3 (s0 : St) (p0 : (List Int)) (A0 : Option Addr) (c0 : Nat) (h0 : Sr (rI .u8) s0 A0 c0 p0) (A1260 : Option Addr) (A1273 : Option Addr) (c1261 : Nat) (c1274 : Nat) (i1299 : Nat) (i1300 : Nat) (r1258 : ((List (Int × Int × Int × Int)) × (Int × Int))) (r1271 : ((List (List Int)) × Int)) (t : ((List (Int × Int × Int × Int)) × Int × Int)) (e : X) (g : Regs) (s : St) (h : Ex4_3 s0 p0 A0 c0 h0 A1260 A1273 c1261 c1274 i1299 i1300 r1258 r1271 t e g s) : e ≠ .normal := by
  obtain ⟨_, _, h, _⟩ := h
  rw [h]; intro hh; cases hh
def pb4_3 (n : Nat)  (r1271 : ((List (List Int)) × Int)) (t : ((List (Int × Int × Int × Int)) × Int × Int)) : Option (((List (Int × Int × Int × Int)) × Int × Int) ⊕ ((List (Int × Int × Int × Int)) × Int × Int)) :=
  (if (decide ((t.2.2 : Int) < ((r1271.1).length : Nat))) then ((rd r1271.1 t.2.2 (fun x1489 => (rd x1489 0 (fun x1501 => (p17 n x1501).bind fun r1508 => (rd x1489 1 (fun x1513 => (rd x1489 2 (fun x1520 => (p17 n x1520).bind fun r1527 => rd x1489 3 (fun x1531 => apP 32 t.1 [((IntKind.wrap .i64 (t.2.1 + r1508)), (IntKind.wrap .i64 ((IntKind.wrap .i64 (t.2.1 + r1508)) + x1513)), (IntKind.wrap .i64 ((IntKind.wrap .i64 ((IntKind.wrap .i64 (t.2.1 + r1508)) + x1513)) + r1527)), x1531)] (fun y1543 => ((some (.inl ((t.1 ++ [((IntKind.wrap .i64 (t.2.1 + r1508)), (IntKind.wrap .i64 ((IntKind.wrap .i64 (t.2.1 + r1508)) + x1513)), (IntKind.wrap .i64 ((IntKind.wrap .i64 ((IntKind.wrap .i64 (t.2.1 + r1508)) + x1513)) + r1527)), x1531)]), (IntKind.wrap .i64 (t.2.1 + r1508)), (IntKind.wrap .i64 (t.2.2 + 1))))))))))))))))) else (((some (.inr (t.1, t.2.1, t.2.2))))))
theorem b4_3 (n : Nat) (s0 : St) (p0 : (List Int)) (A0 : Option Addr) (c0 : Nat) (h0 : Sr (rI .u8) s0 A0 c0 p0) (A1260 : Option Addr) (A1273 : Option Addr) (c1261 : Nat) (c1274 : Nat) (i1299 : Nat) (i1300 : Nat) (r1258 : ((List (Int × Int × Int × Int)) × (Int × Int))) (r1271 : ((List (List Int)) × Int)) (t : ((List (Int × Int × Int × Int)) × Int × Int)) (g : Regs) (s1486 : St) (K : Kont) (Q : Out → St → Prop) (h : Inv4_3 s0 p0 A0 c0 h0 A1260 A1273 c1261 c1274 i1299 i1300 r1258 r1271 t g s1486) :
    Rf (pb4_3 n r1271 t) (fun r => ∀ e g' s', LK (Inv4_3 s0 p0 A0 c0 h0 A1260 A1273 c1261 c1274 i1299 i1300 r1258 r1271) (Ex4_3 s0 p0 A0 c0 h0 A1260 A1273 c1261 c1274 i1299 i1300 r1258 r1271) r e g' s' → Ev (K e g' s') Q) (fun _ => Q) (kBody E 4 n [.b, .b, .b, .b, .b, .b, .b, .b, .b, .b, .b, .b, .a, .b, .b, .b, .a, .b, .a, .a] g s1486 K) := by
  obtain ⟨y1296, x1297, x1298⟩ := t
  obtain ⟨A1294, c1295, rfl, C1487⟩ := h
  rw [e4_body1 n]
  unfold pb4_3
  refine Rf.gen fun H Q hH hQ => ?_
  try dsimp only
  refine Rf.ite ?_ ?_
  · refine Rf.elt (r := (rL (rI .i64))) (C1487.srB m1) rfl fun x1489 i1490 o1491 c1492 r1493 h1494 => ?_
    obtain ⟨A1495, c1496, rfl, h1497⟩ := rL_elim r1493
    have C1499 := C1487.add (Fa.sr (rI .i64) A1495 c1496 x1489) h1497
    refine Rf.ldSl (h1494.at 0 rfl) ?_
    refine Rf.elt (r := (rI .i64)) (C1499.srG m0) rfl fun x1501 i1502 o1503 c1504 r1505 h1506 => ?_
    obtain rfl := rI_elim r1505
    refine Rf.ldI (h1506.at 0 rfl) ?_
    refine Rf.call0 C1499 (t17 n x1501 s1486) ?_
    rintro r1508 _ s1509 rfl h1511
    have C1512 : Cx s0.next [] [] s0 s1509 [(i1299, AObj.box 24 [(Value.int .i64 0), (Value.int .i64 0)]), (i1300, AObj.box 24 [(Value.int .i64 r1258.2.1), (Value.int .i64 r1258.2.2)])] [(On.mk (rP (rI .i64) (rP (rI .i64) (rP (rI .i64) (rI .i64)))) y1296 A1294 c1295 51), (On.mk (rL (rI .i64)) r1271.1 A1273 c1274 39), (On.mk (rP (rI .i64) (rP (rI .i64) (rP (rI .i64) (rI .i64)))) r1258.1 A1260 c1261 51)] [(Fa.sr (rI .i64) A1495 c1496 x1489)] := h1511 [] (by simp) List.Pairwise.nil
    refine (Rf.asI ?_)
    refine Rf.elt (r := (rI .i64)) (C1512.srG m0) rfl fun x1513 i1514 o1515 c1516 r1517 h1518 => ?_
    obtain rfl := rI_elim r1517
    refine Rf.ldI (h1518.at 0 rfl) ?_
    refine Rf.elt (r := (rI .i64)) (C1512.srG m0) rfl fun x1520 i1521 o1522 c1523 r1524 h1525 => ?_
    obtain rfl := rI_elim r1524
    refine Rf.ldI (h1525.at 0 rfl) ?_
    refine Rf.callZ (t17 n x1520 St.bare) ?_
    rintro r1527 _ s1528 rfl
    refine (Rf.asI ?_)
    refine Rf.elt (r := (rI .i64)) (C1512.srG m0) rfl fun x1531 i1532 o1533 c1534 r1535 h1536 => ?_
    obtain rfl := rI_elim r1535
    refine Rf.ldI (h1536.at 0 rfl) ?_
    refine Rf.newR (r := (rP (rI .i64) (rP (rI .i64) (rP (rI .i64) (rI .i64))))) (xs := [((IntKind.wrap .i64 (x1297 + r1508)), (IntKind.wrap .i64 ((IntKind.wrap .i64 (x1297 + r1508)) + x1513)), (IntKind.wrap .i64 ((IntKind.wrap .i64 ((IntKind.wrap .i64 (x1297 + r1508)) + x1513)) + r1527)), x1531)]) C1512 rfl (many.cons (c := [(Value.int .i64 (IntKind.wrap .i64 (x1297 + r1508))), (Value.int .i64 (IntKind.wrap .i64 ((IntKind.wrap .i64 (x1297 + r1508)) + x1513))), (Value.int .i64 (IntKind.wrap .i64 ((IntKind.wrap .i64 ((IntKind.wrap .i64 (x1297 + r1508)) + x1513)) + r1527))), (Value.int .i64 x1531)]) (rP_mk rI_mk (rP_mk rI_mk (rP_mk rI_mk rI_mk))) many.nil) fun s1538 (C1539 : Cx s0.next [] [] s0 s1538 [(i1299, AObj.box 24 [(Value.int .i64 0), (Value.int .i64 0)]), (i1300, AObj.box 24 [(Value.int .i64 r1258.2.1), (Value.int .i64 r1258.2.2)])] [(On.mk (rP (rI .i64) (rP (rI .i64) (rP (rI .i64) (rI .i64)))) [((IntKind.wrap .i64 (x1297 + r1508)), (IntKind.wrap .i64 ((IntKind.wrap .i64 (x1297 + r1508)) + x1513)), (IntKind.wrap .i64 ((IntKind.wrap .i64 ((IntKind.wrap .i64 (x1297 + r1508)) + x1513)) + r1527)), x1531)] (some ⟨s1509.next, 0, none⟩) 1 51), (On.mk (rP (rI .i64) (rP (rI .i64) (rP (rI .i64) (rI .i64)))) y1296 A1294 c1295 51), (On.mk (rL (rI .i64)) r1271.1 A1273 c1274 39), (On.mk (rP (rI .i64) (rP (rI .i64) (rP (rI .i64) (rI .i64)))) r1258.1 A1260 c1261 51)] [(Fa.sr (rI .i64) A1495 c1496 x1489)]) => ?_
    refine Rf.kappA 1 C1539 rfl rfl (by decide) (by decide) (Ap.sr u47 rfl (C1539.lb.srB m0)) fun A1541 c1542 s1547 h1548 (C1546 : Cx s0.next [] [] s0 { s1547 with lowb := min s1538.lowb s1547.lowb } [(i1299, AObj.box 24 [(Value.int .i64 0), (Value.int .i64 0)]), (i1300, AObj.box 24 [(Value.int .i64 r1258.2.1), (Value.int .i64 r1258.2.2)])] [(On.mk (rP (rI .i64) (rP (rI .i64) (rP (rI .i64) (rI .i64)))) [((IntKind.wrap .i64 (x1297 + r1508)), (IntKind.wrap .i64 ((IntKind.wrap .i64 (x1297 + r1508)) + x1513)), (IntKind.wrap .i64 ((IntKind.wrap .i64 ((IntKind.wrap .i64 (x1297 + r1508)) + x1513)) + r1527)), x1531)] (some ⟨s1509.next, 0, none⟩) 1 51), (On.mk (rP (rI .i64) (rP (rI .i64) (rP (rI .i64) (rI .i64)))) (y1296 ++ [((IntKind.wrap .i64 (x1297 + r1508)), (IntKind.wrap .i64 ((IntKind.wrap .i64 (x1297 + r1508)) + x1513)), (IntKind.wrap .i64 ((IntKind.wrap .i64 ((IntKind.wrap .i64 (x1297 + r1508)) + x1513)) + r1527)), x1531)]) A1541 c1542 51), (On.mk (rL (rI .i64)) r1271.1 A1273 c1274 39), (On.mk (rP (rI .i64) (rP (rI .i64) (rP (rI .i64) (rI .i64)))) r1258.1 A1260 c1261 51)] [(Fa.sr (rI .i64) A1495 c1496 x1489)]) => ?_
    refine Rf.ifp h1548 ?_
    refine Rf.lt ?_
    generalize { s1547 with lowb := min s1538.lowb s1547.lowb } = s1545 at C1546 ⊢
    have C1549 : Cx s0.next [] [] s0 s1545 [(i1299, AObj.box 24 [(Value.int .i64 0), (Value.int .i64 0)]), (i1300, AObj.box 24 [(Value.int .i64 r1258.2.1), (Value.int .i64 r1258.2.2)])] [(On.mk (rP (rI .i64) (rP (rI .i64) (rP (rI .i64) (rI .i64)))) (y1296 ++ [((IntKind.wrap .i64 (x1297 + r1508)), (IntKind.wrap .i64 ((IntKind.wrap .i64 (x1297 + r1508)) + x1513)), (IntKind.wrap .i64 ((IntKind.wrap .i64 ((IntKind.wrap .i64 (x1297 + r1508)) + x1513)) + r1527)), x1531)]) A1541 c1542 51), (On.mk (rL (rI .i64)) r1271.1 A1273 c1274 39), (On.mk (rP (rI .i64) (rP (rI .i64) (rP (rI .i64) (rI .i64)))) r1258.1 A1260 c1261 51)] [(Fa.sr (rI .i64) A1495 c1496 x1489)] := C1546.sub (List.Sublist.refl _) (List.Sublist.cons _ (List.Sublist.cons_cons _ (List.Sublist.cons_cons _ (List.Sublist.cons_cons _ List.Sublist.slnil)))) (List.Sublist.refl _)
    subst hH; subst hQ
    exact Rf.leaf fun h => h _ _ _ ⟨rfl, _, _, rfl, (C1549.sub (List.Sublist.refl _) (List.Sublist.refl _) (List.Sublist.cons _ List.Sublist.slnil))⟩
  · subst hH; subst hQ
    exact Rf.leaf fun h => h _ _ _ ⟨_, _, rfl, rfl, (C1487.sub (List.Sublist.refl _) (List.Sublist.refl _) (List.Sublist.refl _))⟩
abbrev Inv4_4 (s0 : St) (p0 : (List Int)) (A0 : Option Addr) (c0 : Nat) (h0 : Sr (rI .u8) s0 A0 c0 p0) (A1956 : Option Addr) (A1969 : Option Addr) (c1957 : Nat) (c1970 : Nat) (i1995 : Nat) (i1996 : Nat) (r1954 : ((List (Int × Int × Int × Int)) × (Int × Int))) (r1967 : ((List (List Int)) × Int)) (t : ((List (Int × Int × Int × Int)) × Int × Int)) (g : Regs) (s : St) : Prop := ∃ (A1990 : Option Addr) (c1991 : Nat), g = (rg 185 [(0, (Value.slice A0 (p0).length c0)), (4, (Value.pointer (some ⟨i1996, 0, none⟩))), (7, (Value.pointer (some ⟨i1995, 0, none⟩))), (15, (Value.slice A1956 (r1954.1).length c1957)), (17, (Value.slice A1990 (t.1).length c1991)), (18, (Value.int .i64 t.2.1)), (117, (Value.slice A1969 (r1967.1).length c1970)), (118, (Value.int .i64 ((r1967.1).length : Nat))), (119, (Value.int .i64 t.2.2))]) ∧ Cx s0.next [] [] s0 s [(i1995, AObj.box 24 [(Value.int .i64 0), (Value.int .i64 0)]), (i1996, AObj.box 24 [(Value.int .i64 r1954.2.1), (Value.int .i64 r1954.2.2)])] [(On.mk (rP (rI .i64) (rP (rI .i64) (rP (rI .i64) (rI .i64)))) t.1 A1990 c1991 51), (On.mk (rL (rI .i64)) r1967.1 A1969 c1970 39), (On.mk (rP (rI .i64) (rP (rI .i64) (rP (rI .i64) (rI .i64)))) r1954.1 A1956 c1957 51)] []
abbrev Ex4_4 (s0 : St) (p0 : (List Int)) (A0 : Option Addr) (c0 : Nat) (h0 : Sr (rI .u8) s0 A0 c0 p0) (A1956 : Option Addr) (A1969 : Option Addr) (c1957 : Nat) (c1970 : Nat) (i1995 : Nat) (i1996 : Nat) (r1954 : ((List (Int × Int × Int × Int)) × (Int × Int))) (r1967 : ((List (List Int)) × Int)) (t : ((List (Int × Int × Int × Int)) × Int × Int)) (e : X) (g : Regs) (s : St) : Prop := ∃ (A2248 : Option Addr) (c2249 : Nat), e = .exit 2 ∧ g = (rg 185 [(0, (Value.slice A0 (p0).length c0)), (4, (Value.pointer (some ⟨i1996, 0, none⟩))), (7, (Value.pointer (some ⟨i1995, 0, none⟩))), (15, (Value.slice A1956 (r1954.1).length c1957)), (17, (Value.slice A2248 (t.1).length c2249)), (18, (Value.int .i64 t.2.1)), (117, (Value.slice A1969 (r1967.1).length c1970)), (118, (Value.int .i64 ((r1967.1).length : Nat))), (119, (Value.int .i64 t.2.2)), (120, (Value.bool false))]) ∧ Cx s0.next [] [] s0 s [(i1995, AObj.box 24 [(Value.int .i64 0), (Value.int .i64 0)]), (i1996, AObj.box 24 [(Value.int .i64 r1954.2.1), (Value.int .i64 r1954.2.2)])] [(On.mk (rP (rI .i64) (rP (rI .i64) (rP (rI .i64) (rI .i64)))) t.1 A2248 c2249 51), (On.mk (rL (rI .i64)) r1967.1 A1969 c1970 39), (On.mk (rP (rI .i64) (rP (rI .i64) (rP (rI .i64) (rI .i64)))) r1954.1 A1956 c1957 51)] []
theorem x4_4 (s0 : St) (p0 : (List Int)) (A0 : Option Addr) (c0 : Nat) (h0 : Sr (rI .u8) s0 A0 c0 p0) (A1956 : Option Addr) (A1969 : Option Addr) (c1957 : Nat) (c1970 : Nat) (i1995 : Nat) (i1996 : Nat) (r1954 : ((List (Int × Int × Int × Int)) × (Int × Int))) (r1967 : ((List (List Int)) × Int)) (t : ((List (Int × Int × Int × Int)) × Int × Int)) (e : X) (g : Regs) (s : St) (h : Ex4_4 s0 p0 A0 c0 h0 A1956 A1969 c1957 c1970 i1995 i1996 r1954 r1967 t e g s) : e ≠ .normal := by
  obtain ⟨_, _, h, _⟩ := h
  rw [h]; intro hh; cases hh
def pb4_4 (n : Nat)  (r1967 : ((List (List Int)) × Int)) (t : ((List (Int × Int × Int × Int)) × Int × Int)) : Option (((List (Int × Int × Int × Int)) × Int × Int) ⊕ ((List (Int × Int × Int × Int)) × Int × Int)) :=
  (if (decide ((t.2.2 : Int) < ((r1967.1).length : Nat))) then ((rd r1967.1 t.2.2 (fun x2185 => (rd x2185 0 (fun x2197 => (p17 n x2197).bind fun r2204 => (rd x2185 1 (fun x2209 => (rd x2185 2 (fun x2216 => (p17 n x2216).bind fun r2223 => rd x2185 3 (fun x2227 => apP 32 t.1 [((IntKind.wrap .i64 (t.2.1 + r2204)), (IntKind.wrap .i64 ((IntKind.wrap .i64 (t.2.1 + r2204)) + x2209)), (IntKind.wrap .i64 ((IntKind.wrap .i64 ((IntKind.wrap .i64 (t.2.1 + r2204)) + x2209)) + r2223)), x2227)] (fun y2239 => ((some (.inl ((t.1 ++ [((IntKind.wrap .i64 (t.2.1 + r2204)), (IntKind.wrap .i64 ((IntKind.wrap .i64 (t.2.1 + r2204)) + x2209)), (IntKind.wrap .i64 ((IntKind.wrap .i64 ((IntKind.wrap .i64 (t.2.1 + r2204)) + x2209)) + r2223)), x2227)]), (IntKind.wrap .i64 (t.2.1 + r2204)), (IntKind.wrap .i64 (t.2.2 + 1))))))))))))))))) else (((some (.inr (t.1, t.2.1, t.2.2))))))
theorem b4_4 (n : Nat) (s0 : St) (p0 : (List Int)) (A0 : Option Addr) (c0 : Nat) (h0 : Sr (rI .u8) s0 A0 c0 p0) (A1956 : Option Addr) (A1969 : Option Addr) (c1957 : Nat) (c1970 : Nat) (i1995 : Nat) (i1996 : Nat) (r1954 : ((List (Int × Int × Int × Int)) × (Int × Int))) (r1967 : ((List (List Int)) × Int)) (t : ((List (Int × Int × Int × Int)) × Int × Int)) (g : Regs) (s2182 : St) (K : Kont) (Q : Out → St → Prop) (h : Inv4_4 s0 p0 A0 c0 h0 A1956 A1969 c1957 c1970 i1995 i1996 r1954 r1967 t g s2182) :
    Rf (pb4_4 n r1967 t) (fun r => ∀ e g' s', LK (Inv4_4 s0 p0 A0 c0 h0 A1956 A1969 c1957 c1970 i1995 i1996 r1954 r1967) (Ex4_4 s0 p0 A0 c0 h0 A1956 A1969 c1957 c1970 i1995 i1996 r1954 r1967) r e g' s' → Ev (K e g' s') Q) (fun _ => Q) (kBody E 4 n [.b, .b, .b, .b, .b, .b, .b, .b, .b, .b, .b, .b, .a, .b, .b, .b, .a, .b, .a, .a] g s2182 K) := by
  obtain ⟨y1992, x1993, x1994⟩ := t
  obtain ⟨A1990, c1991, rfl, C2183⟩ := h
  rw [e4_body1 n]
  unfold pb4_4
  refine Rf.gen fun H Q hH hQ => ?_
  try dsimp only
  refine Rf.ite ?_ ?_
  · refine Rf.elt (r := (rL (rI .i64))) (C2183.srB m1) rfl fun x2185 i2186 o2187 c2188 r2189 h2190 => ?_
    obtain ⟨A2191, c2192, rfl, h2193⟩ := rL_elim r2189
    have C2195 := C2183.add (Fa.sr (rI .i64) A2191 c2192 x2185) h2193
    refine Rf.ldSl (h2190.at 0 rfl) ?_
    refine Rf.elt (r := (rI .i64)) (C2195.srG m0) rfl fun x2197 i2198 o2199 c2200 r2201 h2202 => ?_
    obtain rfl := rI_elim r2201
    refine Rf.ldI (h2202.at 0 rfl) ?_
    refine Rf.call0 C2195 (t17 n x2197 s2182) ?_
    rintro r2204 _ s2205 rfl h2207
    have C2208 : Cx s0.next [] [] s0 s2205 [(i1995, AObj.box 24 [(Value.int .i64 0), (Value.int .i64 0)]), (i1996, AObj.box 24 [(Value.int .i64 r1954.2.1), (Value.int .i64 r1954.2.2)])] [(On.mk (rP (rI .i64) (rP (rI .i64) (rP (rI .i64) (rI .i64)))) y1992 A1990 c1991 51), (On.mk (rL (rI .i64)) r1967.1 A1969 c1970 39), (On.mk (rP (rI .i64) (rP (rI .i64) (rP (rI .i64) (rI .i64)))) r1954.1 A1956 c1957 51)] [(Fa.sr (rI .i64) A2191 c2192 x2185)] := h2207 [] (by simp) List.Pairwise.nil
    refine (Rf.asI ?_)
    refine Rf.elt (r := (rI .i64)) (C2208.srG m0) rfl fun x2209 i2210 o2211 c2212 r2213 h2214 => ?_
    obtain rfl := rI_elim r2213
    refine Rf.ldI (h2214.at 0 rfl) ?_
    refine Rf.elt (r := (rI .i64)) (C2208.srG m0) rfl fun x2216 i2217 o2218 c2219 r2220 h2221 => ?_
    obtain rfl := rI_elim r2220
    refine Rf.ldI (h2221.at 0 rfl) ?_
    refine Rf.callZ (t17 n x2216 St.bare) ?_
    rintro r2223 _ s2224 rfl
    refine (Rf.asI ?_)
    refine Rf.elt (r := (rI .i64)) (C2208.srG m0) rfl fun x2227 i2228 o2229 c2230 r2231 h2232 => ?_
    obtain rfl := rI_elim r2231
    refine Rf.ldI (h2232.at 0 rfl) ?_
    refine Rf.newR (r := (rP (rI .i64) (rP (rI .i64) (rP (rI .i64) (rI .i64))))) (xs := [((IntKind.wrap .i64 (x1993 + r2204)), (IntKind.wrap .i64 ((IntKind.wrap .i64 (x1993 + r2204)) + x2209)), (IntKind.wrap .i64 ((IntKind.wrap .i64 ((IntKind.wrap .i64 (x1993 + r2204)) + x2209)) + r2223)), x2227)]) C2208 rfl (many.cons (c := [(Value.int .i64 (IntKind.wrap .i64 (x1993 + r2204))), (Value.int .i64 (IntKind.wrap .i64 ((IntKind.wrap .i64 (x1993 + r2204)) + x2209))), (Value.int .i64 (IntKind.wrap .i64 ((IntKind.wrap .i64 ((IntKind.wrap .i64 (x1993 + r2204)) + x2209)) + r2223))), (Value.int .i64 x2227)]) (rP_mk rI_mk (rP_mk rI_mk (rP_mk rI_mk rI_mk))) many.nil) fun s2234 (C2235 : Cx s0.next [] [] s0 s2234 [(i1995, AObj.box 24 [(Value.int .i64 0), (Value.int .i64 0)]), (i1996, AObj.box 24 [(Value.int .i64 r1954.2.1), (Value.int .i64 r1954.2.2)])] [(On.mk (rP (rI .i64) (rP (rI .i64) (rP (rI .i64) (rI .i64)))) [((IntKind.wrap .i64 (x1993 + r2204)), (IntKind.wrap .i64 ((IntKind.wrap .i64 (x1993 + r2204)) + x2209)), (IntKind.wrap .i64 ((IntKind.wrap .i64 ((IntKind.wrap .i64 (x1993 + r2204)) + x2209)) + r2223)), x2227)] (some ⟨s2205.next, 0, none⟩) 1 51), (On.mk (rP (rI .i64) (rP (rI .i64) (rP (rI .i64) (rI .i64)))) y1992 A1990 c1991 51), (On.mk (rL (rI .i64)) r1967.1 A1969 c1970 39), (On.mk (rP (rI .i64) (rP (rI .i64) (rP (rI .i64) (rI .i64)))) r1954.1 A1956 c1957 51)] [(Fa.sr (rI .i64) A2191 c2192 x2185)]) => ?_
    refine Rf.kappA 1 C2235 rfl rfl (by decide) (by decide) (Ap.sr u47 rfl (C2235.lb.srB m0)) fun A2237 c2238 s2243 h2244 (C2242 : Cx s0.next [] [] s0 { s2243 with lowb := min s2234.lowb s2243.lowb } [(i1995, AObj.box 24 [(Value.int .i64 0), (Value.int .i64 0)]), (i1996, AObj.box 24 [(Value.int .i64 r1954.2.1), (Value.int .i64 r1954.2.2)])] [(On.mk (rP (rI .i64) (rP (rI .i64) (rP (rI .i64) (rI .i64)))) [((IntKind.wrap .i64 (x1993 + r2204)), (IntKind.wrap .i64 ((IntKind.wrap .i64 (x1993 + r2204)) + x2209)), (IntKind.wrap .i64 ((IntKind.wrap .i64 ((IntKind.wrap .i64 (x1993 + r2204)) + x2209)) + r2223)), x2227)] (some ⟨s2205.next, 0, none⟩) 1 51), (On.mk (rP (rI .i64) (rP (rI .i64) (rP (rI .i64) (rI .i64)))) (y1992 ++ [((IntKind.wrap .i64 (x1993 + r2204)), (IntKind.wrap .i64 ((IntKind.wrap .i64 (x1993 + r2204)) + x2209)), (IntKind.wrap .i64 ((IntKind.wrap .i64 ((IntKind.wrap .i64 (x1993 + r2204)) + x2209)) + r2223)), x2227)]) A2237 c2238 51), (On.mk (rL (rI .i64)) r1967.1 A1969 c1970 39), (On.mk (rP (rI .i64) (rP (rI .i64) (rP (rI .i64) (rI .i64)))) r1954.1 A1956 c1957 51)] [(Fa.sr (rI .i64) A2191 c2192 x2185)]) => ?_
    refine Rf.ifp h2244 ?_
    refine Rf.lt ?_
    generalize { s2243 with lowb := min s2234.lowb s2243.lowb } = s2241 at C2242 ⊢
    have C2245 : Cx s0.next [] [] s0 s2241 [(i1995, AObj.box 24 [(Value.int .i64 0), (Value.int .i64 0)]), (i1996, AObj.box 24 [(Value.int .i64 r1954.2.1), (Value.int .i64 r1954.2.2)])] [(On.mk (rP (rI .i64) (rP (rI .i64) (rP (rI .i64) (rI .i64)))) (y1992 ++ [((IntKind.wrap .i64 (x1993 + r2204)), (IntKind.wrap .i64 ((IntKind.wrap .i64 (x1993 + r2204)) + x2209)), (IntKind.wrap .i64 ((IntKind.wrap .i64 ((IntKind.wrap .i64 (x1993 + r2204)) + x2209)) + r2223)), x2227)]) A2237 c2238 51), (On.mk (rL (rI .i64)) r1967.1 A1969 c1970 39), (On.mk (rP (rI .i64) (rP (rI .i64) (rP (rI .i64) (rI .i64)))) r1954.1 A1956 c1957 51)] [(Fa.sr (rI .i64) A2191 c2192 x2185)] := C2242.sub (List.Sublist.refl _) (List.Sublist.cons _ (List.Sublist.cons_cons _ (List.Sublist.cons_cons _ (List.Sublist.cons_cons _ List.Sublist.slnil)))) (List.Sublist.refl _)
    subst hH; subst hQ
    exact Rf.leaf fun h => h _ _ _ ⟨rfl, _, _, rfl, (C2245.sub (List.Sublist.refl _) (List.Sublist.refl _) (List.Sublist.cons _ List.Sublist.slnil))⟩
  · subst hH; subst hQ
    exact Rf.leaf fun h => h _ _ _ ⟨_, _, rfl, rfl, (C2183.sub (List.Sublist.refl _) (List.Sublist.refl _) (List.Sublist.refl _))⟩
abbrev P4 (N : Nat) (X : List Nat) (r : Bool) (v : Value) (s : St) : Prop := v = (Value.bool r)
def p4 : Nat → (List Int) → Option Bool
  | 0, _ => none
  | n + 1, p0 => ((p14 n p0).bind fun r1 => ((p16 n p0 2).bind fun r17 => ((((if (decide ((r17.2 : Int) ≥ 0)) then ((p10 n 16 r17.2).bind fun r32 => (pj (fun (b1918 : Bool) => if b1918 then (((some false))) else (((p8 n r1.1).bind fun r1922 => (pj (fun (b1950 : Bool) => if b1950 then (((some false))) else (((p18 n p0).bind fun r1954 => ((p16 n p0 4).bind fun r1967 => ((((if (decide ((r1967.2 : Int) ≥ 0)) then ((p10 n 16 r1967.2).bind fun r1979 => (pj (fun (b2568 : Bool) => if b2568 then (((some false))) else (((p21 n r1954.1).bind fun r2572 => (pj (fun (b2600 : Bool) => some b2600) (fun J2599 => if ((r1954.2.1 : Int) != 0) then ((J2599 true)) else (if ((r2572.2.1 : Int) == 0) then ((p12 n p0 r2572.1).bind fun r2594 => (J2599 r2594)) else ((J2599 false)))))))) (fun J2567 => if (!(((r1954.2.1 : Int) == r1979.1) && (((r1954.2.2 : Int) == r1979.2) && true))) then ((J2567 true)) else ((p20 n r1954.1 ([] : (List (Int × Int × Int × Int)))).bind fun r2562 => (J2567 (!r2562)))))) else ((((loopP (pb4_4 n r1967) n (([] : List (Int × Int × Int × Int)), 0, 0)).bind fun t2253 => (p19 n t2253.1).bind fun r2441 => ((if ((r2441.1 : Int) != 0) then ((p10 n r2441.1 (-1)).bind fun r2458 => pj (fun (b2476 : Bool) => if b2476 then (((some false))) else (((p21 n r1954.1).bind fun r2480 => (pj (fun (b2508 : Bool) => some b2508) (fun J2507 => if ((r1954.2.1 : Int) != 0) then ((J2507 true)) else (if ((r2480.2.1 : Int) == 0) then ((p12 n p0 r2480.1).bind fun r2502 => (J2507 r2502)) else ((J2507 false)))))))) (fun J2475 => if (!(((r1954.2.1 : Int) == r2458.1) && (((r1954.2.2 : Int) == r2458.2) && true))) then ((J2475 true)) else ((p20 n r1954.1 ([] : (List (Int × Int × Int × Int)))).bind fun r2470 => (J2475 (!r2470))))) else (pj (fun (b2522 : Bool) => if b2522 then (((some false))) else (((p21 n r1954.1).bind fun r2526 => (pj (fun (b2554 : Bool) => some b2554) (fun J2553 => if ((r1954.2.1 : Int) != 0) then ((J2553 true)) else (if ((r2526.2.1 : Int) == 0) then ((p12 n p0 r2526.1).bind fun r2548 => (J2553 r2548)) else ((J2553 false)))))))) (fun J2521 => if (!(((r1954.2.1 : Int) == 0) && (((r1954.2.2 : Int) == 0) && true))) then ((J2521 true)) else ((p20 n r1954.1 t2253.1).bind fun r2516 => (J2521 (!r2516)))))))))))))))))) (fun J1949 => if ((r1.2.1 : Int) == 0) then (if ((r1922.2.1 : Int) != 0) then ((J1949 true)) else ((p12 n p0 r1922.1).bind fun r1944 => (J1949 (!r1944)))) else ((J1949 false))))))) (fun J1917 => if (!(((r1.2.1 : Int) == r32.1) && (((r1.2.2 : Int) == r32.2) && true))) then ((J1917 true)) else ((p15 n r1.1 ([] : (List (Int × Int)))).bind fun r1912 => (J1917 (!r1912)))))) else ((((loopP (pb4_1 n r17) n (([] : List (Int × Int)), 0, 0, 0)).bind fun t303 => (p9 n t303.1).bind fun r491 => ((if ((r491.1 : Int) != 0) then ((p10 n r491.1 (-1)).bind fun r508 => pj (fun (b526 : Bool) => if b526 then (((some false))) else (((p8 n r1.1).bind fun r530 => (pj (fun (b558 : Bool) => if b558 then (((some false))) else (((p18 n p0).bind fun r562 => ((p16 n p0 4).bind fun r575 => ((((if (decide ((r575.2 : Int) ≥ 0)) then ((p10 n 16 r575.2).bind fun r587 => (pj (fun (b1176 : Bool) => if b1176 then (((some false))) else (((p21 n r562.1).bind fun r1180 => (pj (fun (b1208 : Bool) => some b1208) (fun J1207 => if ((r562.2.1 : Int) != 0) then ((J1207 true)) else (if ((r1180.2.1 : Int) == 0) then ((p12 n p0 r1180.1).bind fun r1202 => (J1207 r1202)) else ((J1207 false)))))))) (fun J1175 => if (!(((r562.2.1 : Int) == r587.1) && (((r562.2.2 : Int) == r587.2) && true))) then ((J1175 true)) else ((p20 n r562.1 ([] : (List (Int × Int × Int × Int)))).bind fun r1170 => (J1175 (!r1170)))))) else ((((loopP (pb4_2 n r575) n (([] : List (Int × Int × Int × Int)), 0, 0)).bind fun t861 => (p19 n t861.1).bind fun r1049 => ((if ((r1049.1 : Int) != 0) then ((p10 n r1049.1 (-1)).bind fun r1066 => pj (fun (b1084 : Bool) => if b1084 then (((some false))) else (((p21 n r562.1).bind fun r1088 => (pj (fun (b1116 : Bool) => some b1116) (fun J1115 => if ((r562.2.1 : Int) != 0) then ((J1115 true)) else (if ((r1088.2.1 : Int) == 0) then ((p12 n p0 r1088.1).bind fun r1110 => (J1115 r1110)) else ((J1115 false)))))))) (fun J1083 => if (!(((r562.2.1 : Int) == r1066.1) && (((r562.2.2 : Int) == r1066.2) && true))) then ((J1083 true)) else ((p20 n r562.1 ([] : (List (Int × Int × Int × Int)))).bind fun r1078 => (J1083 (!r1078))))) else (pj (fun (b1130 : Bool) => if b1130 then (((some false))) else (((p21 n r562.1).bind fun r1134 => (pj (fun (b1162 : Bool) => some b1162) (fun J1161 => if ((r562.2.1 : Int) != 0) then ((J1161 true)) else (if ((r1134.2.1 : Int) == 0) then ((p12 n p0 r1134.1).bind fun r1156 => (J1161 r1156)) else ((J1161 false)))))))) (fun J1129 => if (!(((r562.2.1 : Int) == 0) && (((r562.2.2 : Int) == 0) && true))) then ((J1129 true)) else ((p20 n r562.1 t861.1).bind fun r1124 => (J1129 (!r1124)))))))))))))))))) (fun J557 => if ((r1.2.1 : Int) == 0) then (if ((r530.2.1 : Int) != 0) then ((J557 true)) else ((p12 n p0 r530.1).bind fun r552 => (J557 (!r552)))) else ((J557 false))))))) (fun J525 => if (!(((r1.2.1 : Int) == r508.1) && (((r1.2.2 : Int) == r508.2) && true))) then ((J525 true)) else ((p15 n r1.1 ([] : (List (Int × Int)))).bind fun r520 => (J525 (!r520))))) else (pj (fun (b1222 : Bool) => if b1222 then (((some false))) else (((p8 n r1.1).bind fun r1226 => (pj (fun (b1254 : Bool) => if b1254 then (((some false))) else (((p18 n p0).bind fun r1258 => ((p16 n p0 4).bind fun r1271 => ((((if (decide ((r1271.2 : Int) ≥ 0)) then ((p10 n 16 r1271.2).bind fun r1283 => (pj (fun (b1872 : Bool) => if b1872 then (((some false))) else (((p21 n r1258.1).bind fun r1876 => (pj (fun (b1904 : Bool) => some b1904) (fun J1903 => if ((r1258.2.1 : Int) != 0) then ((J1903 true)) else (if ((r1876.2.1 : Int) == 0) then ((p12 n p0 r1876.1).bind fun r1898 => (J1903 r1898)) else ((J1903 false)))))))) (fun J1871 => if (!(((r1258.2.1 : Int) == r1283.1) && (((r1258.2.2 : Int) == r1283.2) && true))) then ((J1871 true)) else ((p20 n r1258.1 ([] : (List (Int × Int × Int × Int)))).bind fun r1866 => (J1871 (!r1866)))))) else ((((loopP (pb4_3 n r1271) n (([] : List (Int × Int × Int × Int)), 0, 0)).bind fun t1557 => (p19 n t1557.1).bind fun r1745 => ((if ((r1745.1 : Int) != 0) then ((p10 n r1745.1 (-1)).bind fun r1762 => pj (fun (b1780 : Bool) => if b1780 then (((some false))) else (((p21 n r1258.1).bind fun r1784 => (pj (fun (b1812 : Bool) => some b1812) (fun J1811 => if ((r1258.2.1 : Int) != 0) then ((J1811 true)) else (if ((r1784.2.1 : Int) == 0) then ((p12 n p0 r1784.1).bind fun r1806 => (J1811 r1806)) else ((J1811 false)))))))) (fun J1779 => if (!(((r1258.2.1 : Int) == r1762.1) && (((r1258.2.2 : Int) == r1762.2) && true))) then ((J1779 true)) else ((p20 n r1258.1 ([] : (List (Int × Int × Int × Int)))).bind fun r1774 => (J1779 (!r1774))))) else (pj (fun (b1826 : Bool) => if b1826 then (((some false))) else (((p21 n r1258.1).bind fun r1830 => (pj (fun (b1858 : Bool) => some b1858) (fun J1857 => if ((r1258.2.1 : Int) != 0) then ((J1857 true)) else (if ((r1830.2.1 : Int) == 0) then ((p12 n p0 r1830.1).bind fun r1852 => (J1857 r1852)) else ((J1857 false)))))))) (fun J1825 => if (!(((r1258.2.1 : Int) == 0) && (((r1258.2.2 : Int) == 0) && true))) then ((J1825 true)) else ((p20 n r1258.1 t1557.1).bind fun r1820 => (J1825 (!r1820)))))))))))))))))) (fun J1253 => if ((r1.2.1 : Int) == 0) then (if ((r1226.2.1 : Int) != 0) then ((J1253 true)) else ((p12 n p0 r1226.1).bind fun r1248 => (J1253 (!r1248)))) else ((J1253 false))))))) (fun J1221 => if (!(((r1.2.1 : Int) == 0) && (((r1.2.2 : Int) == 0) && true))) then ((J1221 true)) else ((p15 n r1.1 t303.1).bind fun r1216 => (J1221 (!r1216))))))))))))))))
theorem t4 (k : Nat) (p0 : (List Int)) (s0 : St) {A0 : Option Addr} {c0 : Nat} (h0 : Sr (rI .u8) s0 A0 c0 p0) :
    Rf (p4 k p0) (fun _ => True) (fun r => RtC s0.next [] [] s0 (P4 s0.next [] r)) (acall E k 4 [(Value.slice A0 (p0).length c0)] s0) := by
  cases k with
  | zero => exact Rf.none
  | succ n =>
    rw [e4 n]
    rw [p4]
    refine Rf.gen fun H Q hH hQ => ?_
    have C0 : Cx s0.next [] [] s0 s0 [] [] [] := Cx.start s0
    refine Rf.call0 C0 (t14 n p0 s0 (C0.sr0 rfl h0)) ?_
    rintro r1 _ s2 ⟨A3, c4, rfl, h5⟩ h10
    have C11 : Cx s0.next [] [] s0 s2 [] [(On.mk (rP (rI .i64) (rI .i64)) r1.1 A3 c4 38)] [] := h10 [(On.mk (rP (rI .i64) (rI .i64)) r1.1 A3 c4 38)] (by simpa using h5) (List.pairwise_singleton _ _)
    refine (Rf.asTup (Rf.unc (Rf.asSl (Rf.unc (Rf.asAgg (Rf.unc (Rf.asI (Rf.unc (Rf.asI (Rf.unn (Rf.unn ?_)))))))))))
    refine Rf.new C11 fun s12 (C13 : Cx s0.next [] [] s0 s12 [(s2.next, AObj.box 24 [(Value.int .i64 0), (Value.int .i64 0)])] [(On.mk (rP (rI .i64) (rI .i64)) r1.1 A3 c4 38)] []) => ?_
    refine Rf.sto 0 C13 rfl (by simp) rfl fun s15 (C16 : Cx s0.next [] [] s0 s15 [(s2.next, AObj.box 24 [(Value.int .i64 r1.2.1), (Value.int .i64 r1.2.2)])] [(On.mk (rP (rI .i64) (rI .i64)) r1.1 A3 c4 38)] []) => ?_
    refine Rf.call0 C16 (t16 n p0 2 s15 (C16.sr0 rfl h0)) ?_
    rintro r17 _ s18 ⟨A19, c20, rfl, h21⟩ h25
    have C26 : Cx s0.next [] [] s0 s18 [(s2.next, AObj.box 24 [(Value.int .i64 r1.2.1), (Value.int .i64 r1.2.2)])] [(On.mk (rL (rI .i64)) r17.1 A19 c20 39), (On.mk (rP (rI .i64) (rI .i64)) r1.1 A3 c4 38)] [] := h25 [(On.mk (rL (rI .i64)) r17.1 A19 c20 39)] (by simpa using h21) (List.pairwise_singleton _ _)
    refine (Rf.asTup (Rf.unc (Rf.asSl (Rf.unc (Rf.asI (Rf.unn ?_))))))
    refine Rf.new C26 fun s27 (C28 : Cx s0.next [] [] s0 s27 [(s18.next, AObj.box 24 [(Value.int .i64 0), (Value.int .i64 0)]), (s2.next, AObj.box 24 [(Value.int .i64 r1.2.1), (Value.int .i64 r1.2.2)])] [(On.mk (rL (rI .i64)) r17.1 A19 c20 39), (On.mk (rP (rI .i64) (rI .i64)) r1.1 A3 c4 38)] []) => ?_
    refine Rf.sto 0 C28 rfl (by simp) rfl fun s30 (C31 : Cx s0.next [] [] s0 s30 [(s18.next, AObj.box 24 [(Value.int .i64 0), (Value.int .i64 0)]), (s2.next, AObj.box 24 [(Value.int .i64 r1.2.1), (Value.int .i64 r1.2.2)])] [(On.mk (rL (rI .i64)) r17.1 A19 c20 39), (On.mk (rP (rI .i64) (rI .i64)) r1.1 A3 c4 38)] []) => ?_
    refine Rf.ite ?_ ?_
    · refine Rf.call0 C31 (t10 n 16 r17.2 s30) ?_
      rintro r32 _ s33 rfl h36
      have C37 : Cx s0.next [] [] s0 s33 [(s18.next, AObj.box 24 [(Value.int .i64 0), (Value.int .i64 0)]), (s2.next, AObj.box 24 [(Value.int .i64 r1.2.1), (Value.int .i64 r1.2.2)])] [(On.mk (rL (rI .i64)) r17.1 A19 c20 39), (On.mk (rP (rI .i64) (rI .i64)) r1.1 A3 c4 38)] [] := h36 [] (by simp) List.Pairwise.nil
      refine (Rf.asAgg (Rf.unc (Rf.asI (Rf.unc (Rf.asI (Rf.unn ?_))))))
      refine Rf.sto 0 C37 rfl (by simp) rfl fun s38 (C39 : Cx s0.next [] [] s0 s38 [(s18.next, AObj.box 24 [(Value.int .i64 r32.1), (Value.int .i64 r32.2)]), (s2.next, AObj.box 24 [(Value.int .i64 r1.2.1), (Value.int .i64 r1.2.2)])] [(On.mk (rL (rI .i64)) r17.1 A19 c20 39), (On.mk (rP (rI .i64) (rI .i64)) r1.1 A3 c4 38)] []) => ?_
      refine Rf.pj fun J1917 J1917' hJ1917 hJ1917' => ?_
      have J1917h : ∀ (b1918 : Bool) (s1920 : St) (_ : Cx s0.next [] [] s0 s1920 [(s18.next, AObj.box 24 [(Value.int .i64 r32.1), (Value.int .i64 r32.2)]), (s2.next, AObj.box 24 [(Value.int .i64 r1.2.1), (Value.int .i64 r1.2.2)])] [(On.mk (rP (rI .i64) (rI .i64)) r1.1 A3 c4 38)] []), Rf (J1917 b1918) H Q (J1917' b1918 s1920) := by
        subst hJ1917
        subst hJ1917'
        intro b1918 s1920 C1921
        refine Rf.ite ?_ ?_
        · subst hH; subst hQ
          exact Rf.leaf fun _ => Ev.done (Rf.ret C1921 rfl)
        · refine Rf.call0 C1921 (t8 n r1.1 s1920 (C1921.srB m0)) ?_
          rintro r1922 _ s1923 ⟨A1924, c1925, rfl, h1926⟩ h1931
          have C1932 : Cx s0.next [] [] s0 s1923 [(s18.next, AObj.box 24 [(Value.int .i64 r32.1), (Value.int .i64 r32.2)]), (s2.next, AObj.box 24 [(Value.int .i64 r1.2.1), (Value.int .i64 r1.2.2)])] [(On.mk (rI .u8) r1922.1 A1924 c1925 5), (On.mk (rP (rI .i64) (rI .i64)) r1.1 A3 c4 38)] [] := h1931 [(On.mk (rI .u8) r1922.1 A1924 c1925 5)] (by simpa using h1926) (List.pairwise_singleton _ _)
          refine (Rf.asTup (Rf.unc (Rf.asSl (Rf.unc (Rf.asAgg (Rf.unc (Rf.asI (Rf.unc (Rf.asI (Rf.unn (Rf.unn ?_)))))))))))
          refine Rf.new C1932 fun s1933 (C1934 : Cx s0.next [] [] s0 s1933 [(s1923.next, AObj.box 24 [(Value.int .i64 0), (Value.int .i64 0)]), (s18.next, AObj.box 24 [(Value.int .i64 r32.1), (Value.int .i64 r32.2)]), (s2.next, AObj.box 24 [(Value.int .i64 r1.2.1), (Value.int .i64 r1.2.2)])] [(On.mk (rI .u8) r1922.1 A1924 c1925 5), (On.mk (rP (rI .i64) (rI .i64)) r1.1 A3 c4 38)] []) => ?_
          refine Rf.sto 0 C1934 rfl (by simp) rfl fun s1936 (C1937 : Cx s0.next [] [] s0 s1936 [(s1923.next, AObj.box 24 [(Value.int .i64 r1922.2.1), (Value.int .i64 r1922.2.2)]), (s18.next, AObj.box 24 [(Value.int .i64 r32.1), (Value.int .i64 r32.2)]), (s2.next, AObj.box 24 [(Value.int .i64 r1.2.1), (Value.int .i64 r1.2.2)])] [(On.mk (rI .u8) r1922.1 A1924 c1925 5), (On.mk (rP (rI .i64) (rI .i64)) r1.1 A3 c4 38)] []) => ?_
          refine Rf.pj fun J1949 J1949' hJ1949 hJ1949' => ?_
          have J1949h : ∀ (b1950 : Bool) (s1952 : St) (_ : Cx s0.next [] [] s0 s1952 [(s18.next, AObj.box 24 [(Value.int .i64 r32.1), (Value.int .i64 r32.2)]), (s2.next, AObj.box 24 [(Value.int .i64 r1.2.1), (Value.int .i64 r1.2.2)])] [] []), Rf (J1949 b1950) H Q (J1949' b1950 s1952) := by
            subst hJ1949
            subst hJ1949'
            intro b1950 s1952 C1953
            refine Rf.ite ?_ ?_
            · subst hH; subst hQ
              exact Rf.leaf fun _ => Ev.done (Rf.ret C1953 rfl)
            · refine Rf.call0 C1953 (t18 n p0 s1952 (C1953.sr0 rfl h0)) ?_
              rintro r1954 _ s1955 ⟨A1956, c1957, rfl, h1958⟩ h1963
              have C1964 : Cx s0.next [] [] s0 s1955 [(s18.next, AObj.box 24 [(Value.int .i64 r32.1), (Value.int .i64 r32.2)]), (s2.next, AObj.box 24 [(Value.int .i64 r1.2.1), (Value.int .i64 r1.2.2)])] [(On.mk (rP (rI .i64) (rP (rI .i64) (rP (rI .i64) (rI .i64)))) r1954.1 A1956 c1957 51)] [] := h1963 [(On.mk (rP (rI .i64) (rP (rI .i64) (rP (rI .i64) (rI .i64)))) r1954.1 A1956 c1957 51)] (by simpa using h1958) (List.pairwise_singleton _ _)
              refine (Rf.asTup (Rf.unc (Rf.asSl (Rf.unc (Rf.asAgg (Rf.unc (Rf.asI (Rf.unc (Rf.asI (Rf.unn (Rf.unn ?_)))))))))))
              refine Rf.sto 1 C1964 rfl (by simp) rfl fun s1965 (C1966 : Cx s0.next [] [] s0 s1965 [(s18.next, AObj.box 24 [(Value.int .i64 r32.1), (Value.int .i64 r32.2)]), (s2.next, AObj.box 24 [(Value.int .i64 r1954.2.1), (Value.int .i64 r1954.2.2)])] [(On.mk (rP (rI .i64) (rP (rI .i64) (rP (rI .i64) (rI .i64)))) r1954.1 A1956 c1957 51)] []) => ?_
              refine Rf.call0 C1966 (t16 n p0 4 s1965 (C1966.sr0 rfl h0)) ?_
              rintro r1967 _ s1968 ⟨A1969, c1970, rfl, h1971⟩ h1975
              have C1976 : Cx s0.next [] [] s0 s1968 [(s18.next, AObj.box 24 [(Value.int .i64 r32.1), (Value.int .i64 r32.2)]), (s2.next, AObj.box 24 [(Value.int .i64 r1954.2.1), (Value.int .i64 r1954.2.2)])] [(On.mk (rL (rI .i64)) r1967.1 A1969 c1970 39), (On.mk (rP (rI .i64) (rP (rI .i64) (rP (rI .i64) (rI .i64)))) r1954.1 A1956 c1957 51)] [] := h1975 [(On.mk (rL (rI .i64)) r1967.1 A1969 c1970 39)] (by simpa using h1971) (List.pairwise_singleton _ _)
              refine (Rf.asTup (Rf.unc (Rf.asSl (Rf.unc (Rf.asI (Rf.unn ?_))))))
              refine Rf.sto 0 C1976 rfl (by simp) rfl fun s1977 (C1978 : Cx s0.next [] [] s0 s1977 [(s18.next, AObj.box 24 [(Value.int .i64 0), (Value.int .i64 0)]), (s2.next, AObj.box 24 [(Value.int .i64 r1954.2.1), (Value.int .i64 r1954.2.2)])] [(On.mk (rL (rI .i64)) r1967.1 A1969 c1970 39), (On.mk (rP (rI .i64) (rP (rI .i64) (rP (rI .i64) (rI .i64)))) r1954.1 A1956 c1957 51)] []) => ?_
              refine Rf.ite ?_ ?_
              · refine Rf.call0 C1978 (t10 n 16 r1967.2 s1977) ?_
                rintro r1979 _ s1980 rfl h1983
                have C1984 : Cx s0.next [] [] s0 s1980 [(s18.next, AObj.box 24 [(Value.int .i64 0), (Value.int .i64 0)]), (s2.next, AObj.box 24 [(Value.int .i64 r1954.2.1), (Value.int .i64 r1954.2.2)])] [(On.mk (rL (rI .i64)) r1967.1 A1969 c1970 39), (On.mk (rP (rI .i64) (rP (rI .i64) (rP (rI .i64) (rI .i64)))) r1954.1 A1956 c1957 51)] [] := h1983 [] (by simp) List.Pairwise.nil
                refine (Rf.asAgg (Rf.unc (Rf.asI (Rf.unc (Rf.asI (Rf.unn ?_))))))
                refine Rf.sto 0 C1984 rfl (by simp) rfl fun s1985 (C1986 : Cx s0.next [] [] s0 s1985 [(s18.next, AObj.box 24 [(Value.int .i64 r1979.1), (Value.int .i64 r1979.2)]), (s2.next, AObj.box 24 [(Value.int .i64 r1954.2.1), (Value.int .i64 r1954.2.2)])] [(On.mk (rL (rI .i64)) r1967.1 A1969 c1970 39), (On.mk (rP (rI .i64) (rP (rI .i64) (rP (rI .i64) (rI .i64)))) r1954.1 A1956 c1957 51)] []) => ?_
                refine Rf.pj fun J2567 J2567' hJ2567 hJ2567' => ?_
                have J2567h : ∀ (b2568 : Bool) (s2570 : St) (_ : Cx s0.next [] [] s0 s2570 [(s2.next, AObj.box 24 [(Value.int .i64 r1954.2.1), (Value.int .i64 r1954.2.2)])] [(On.mk (rP (rI .i64) (rP (rI .i64) (rP (rI .i64) (rI .i64)))) r1954.1 A1956 c1957 51)] []), Rf (J2567 b2568) H Q (J2567' b2568 s2570) := by
                  subst hJ2567
                  subst hJ2567'
                  intro b2568 s2570 C2571
                  refine Rf.ite ?_ ?_
                  · subst hH; subst hQ
                    exact Rf.leaf fun _ => Ev.done (Rf.ret C2571 rfl)
                  · refine Rf.call0 C2571 (t21 n r1954.1 s2570 (C2571.srB m0)) ?_
                    rintro r2572 _ s2573 ⟨A2574, c2575, rfl, h2576⟩ h2581
                    have C2582 : Cx s0.next [] [] s0 s2573 [(s2.next, AObj.box 24 [(Value.int .i64 r1954.2.1), (Value.int .i64 r1954.2.2)])] [(On.mk (rI .u8) r2572.1 A2574 c2575 5), (On.mk (rP (rI .i64) (rP (rI .i64) (rP (rI .i64) (rI .i64)))) r1954.1 A1956 c1957 51)] [] := h2581 [(On.mk (rI .u8) r2572.1 A2574 c2575 5)] (by simpa using h2576) (List.pairwise_singleton _ _)
                    refine (Rf.asTup (Rf.unc (Rf.asSl (Rf.unc (Rf.asAgg (Rf.unc (Rf.asI (Rf.unc (Rf.asI (Rf.unn (Rf.unn ?_)))))))))))
                    refine Rf.new C2582 fun s2583 (C2584 : Cx s0.next [] [] s0 s2583 [(s2573.next, AObj.box 24 [(Value.int .i64 0), (Value.int .i64 0)]), (s2.next, AObj.box 24 [(Value.int .i64 r1954.2.1), (Value.int .i64 r1954.2.2)])] [(On.mk (rI .u8) r2572.1 A2574 c2575 5), (On.mk (rP (rI .i64) (rP (rI .i64) (rP (rI .i64) (rI .i64)))) r1954.1 A1956 c1957 51)] []) => ?_
                    refine Rf.sto 0 C2584 rfl (by simp) rfl fun s2586 (C2587 : Cx s0.next [] [] s0 s2586 [(s2573.next, AObj.box 24 [(Value.int .i64 r2572.2.1), (Value.int .i64 r2572.2.2)]), (s2.next, AObj.box 24 [(Value.int .i64 r1954.2.1), (Value.int .i64 r1954.2.2)])] [(On.mk (rI .u8) r2572.1 A2574 c2575 5), (On.mk (rP (rI .i64) (rP (rI .i64) (rP (rI .i64) (rI .i64)))) r1954.1 A1956 c1957 51)] []) => ?_
                    refine Rf.pj fun J2599 J2599' hJ2599 hJ2599' => ?_
                    have J2599h : ∀ (b2600 : Bool) (s2602 : St) (_ : Cx s0.next [] [] s0 s2602 [] [] []), Rf (J2599 b2600) H Q (J2599' b2600 s2602) := by
                      subst hJ2599
                      subst hJ2599'
                      intro b2600 s2602 C2603
                      subst hH; subst hQ
                      exact Rf.leaf fun _ => Ev.done (Rf.ret C2603 rfl)
                    clear hJ2599 hJ2599'
                    refine Rf.ldI (C2587.at m1 rfl) ?_
                    refine Rf.ite ?_ ?_
                    · exact J2599h true _ (C2587.sub (List.Sublist.cons _ (List.Sublist.cons _ List.Sublist.slnil)) (List.Sublist.cons _ (List.Sublist.cons _ List.Sublist.slnil)) (List.Sublist.refl _))
                    · refine Rf.ldI (C2587.at m0 rfl) ?_
                      refine Rf.ite ?_ ?_
                      · refine Rf.call0 C2587 (t12 n p0 r2572.1 s2586 (C2587.sr0 rfl h0) (C2587.srB m0)) ?_
                        rintro r2594 _ s2595 rfl h2597
                        have C2598 : Cx s0.next [] [] s0 s2595 [(s2573.next, AObj.box 24 [(Value.int .i64 r2572.2.1), (Value.int .i64 r2572.2.2)]), (s2.next, AObj.box 24 [(Value.int .i64 r1954.2.1), (Value.int .i64 r1954.2.2)])] [(On.mk (rI .u8) r2572.1 A2574 c2575 5), (On.mk (rP (rI .i64) (rP (rI .i64) (rP (rI .i64) (rI .i64)))) r1954.1 A1956 c1957 51)] [] := h2597 [] (by simp) List.Pairwise.nil
                        refine (Rf.asB ?_)
                        exact J2599h r2594 _ (C2598.sub (List.Sublist.cons _ (List.Sublist.cons _ List.Sublist.slnil)) (List.Sublist.cons _ (List.Sublist.cons _ List.Sublist.slnil)) (List.Sublist.refl _))
                      · exact J2599h false _ (C2587.sub (List.Sublist.cons _ (List.Sublist.cons _ List.Sublist.slnil)) (List.Sublist.cons _ (List.Sublist.cons _ List.Sublist.slnil)) (List.Sublist.refl _))
                clear hJ2567 hJ2567'
                refine Rf.ldI (C1986.at m1 rfl) ?_
                refine Rf.ldI (C1986.at m1 rfl) ?_
                refine Rf.ldI (C1986.at m0 rfl) ?_
                refine Rf.ldI (C1986.at m0 rfl) ?_
                refine Rf.ite ?_ ?_
                · exact J2567h true _ (C1986.sub (List.Sublist.cons _ (List.Sublist.cons_cons _ List.Sublist.slnil)) (List.Sublist.cons _ (List.Sublist.cons_cons _ List.Sublist.slnil)) (List.Sublist.refl _))
                · refine Rf.call0 C1986 (t20 n r1954.1 ([] : (List (Int × Int × Int × Int))) s1985 (C1986.srB m1) Sr.nil) ?_
                  rintro r2562 _ s2563 rfl h2565
                  have C2566 : Cx s0.next [] [] s0 s2563 [(s18.next, AObj.box 24 [(Value.int .i64 r1979.1), (Value.int .i64 r1979.2)]), (s2.next, AObj.box 24 [(Value.int .i64 r1954.2.1), (Value.int .i64 r1954.2.2)])] [(On.mk (rL (rI .i64)) r1967.1 A1969 c1970 39), (On.mk (rP (rI .i64) (rP (rI .i64) (rP (rI .i64) (rI .i64)))) r1954.1 A1956 c1957 51)] [] := h2565 [] (by simp) List.Pairwise.nil
                  refine (Rf.asB ?_)
                  exact J2567h (!r2562) _ (C2566.sub (List.Sublist.cons _ (List.Sublist.cons_cons _ List.Sublist.slnil)) (List.Sublist.cons _ (List.Sublist.cons_cons _ List.Sublist.slnil)) (List.Sublist.refl _))
              · have C1988 : Cx s0.next [] [] s0 s1977 [(s18.next, AObj.box 24 [(Value.int .i64 0), (Value.int .i64 0)]), (s2.next, AObj.box 24 [(Value.int .i64 r1954.2.1), (Value.int .i64 r1954.2.2)])] [(On.mk (rP (rI .i64) (rP (rI .i64) (rP (rI .i64) (rI .i64)))) ([] : List (Int × Int × Int × Int)) none 0 51), (On.mk (rL (rI .i64)) r1967.1 A1969 c1970 39), (On.mk (rP (rI .i64) (rP (rI .i64) (rP (rI .i64) (rI .i64)))) r1954.1 A1956 c1957 51)] [] := C1978.addNil (rP (rI .i64) (rP (rI .i64) (rP (rI .i64) (rI .i64)))) 51
                refine Rf.loop (Inv := Inv4_4 s0 p0 A0 c0 h0 A1956 A1969 c1957 c1970 s18.next s2.next r1954 r1967) (Ex := Ex4_4 s0 p0 A0 c0 h0 A1956 A1969 c1957 c1970 s18.next s2.next r1954 r1967) (x4_4 s0 p0 A0 c0 h0 A1956 A1969 c1957 c1970 s18.next s2.next r1954 r1967) (fun t g s K Q h => b4_4 n s0 p0 A0 c0 h0 A1956 A1969 c1957 c1970 s18.next s2.next r1954 r1967 t g s K Q h) n _ _ _ ⟨_, _, rfl, (C1988.sub (List.Sublist.refl _) (List.Sublist.refl _) (List.Sublist.refl _))⟩ ?_
                intro t2253 e g s2439 h
                obtain ⟨A2248, c2249, rfl, rfl, C2440⟩ := h
                rw [e4_after1_exit2 n]
                refine Rf.call0 C2440 (t19 n t2253.1 s2439 (C2440.srB m0)) ?_
                rintro r2441 _ s2442 rfl h2445
                have C2446 : Cx s0.next [] [] s0 s2442 [(s18.next, AObj.box 24 [(Value.int .i64 0), (Value.int .i64 0)]), (s2.next, AObj.box 24 [(Value.int .i64 r1954.2.1), (Value.int .i64 r1954.2.2)])] [(On.mk (rP (rI .i64) (rP (rI .i64) (rP (rI .i64) (rI .i64)))) t2253.1 A2248 c2249 51), (On.mk (rL (rI .i64)) r1967.1 A1969 c1970 39), (On.mk (rP (rI .i64) (rP (rI .i64) (rP (rI .i64) (rI .i64)))) r1954.1 A1956 c1957 51)] [] := h2445 [] (by simp) List.Pairwise.nil
                refine (Rf.asAgg (Rf.unc (Rf.asI (Rf.unc (Rf.asI (Rf.unn ?_))))))
                refine Rf.new C2446 fun s2447 (C2448 : Cx s0.next [] [] s0 s2447 [(s2442.next, AObj.box 24 [(Value.int .i64 0), (Value.int .i64 0)]), (s18.next, AObj.box 24 [(Value.int .i64 0), (Value.int .i64 0)]), (s2.next, AObj.box 24 [(Value.int .i64 r1954.2.1), (Value.int .i64 r1954.2.2)])] [(On.mk (rP (rI .i64) (rP (rI .i64) (rP (rI .i64) (rI .i64)))) t2253.1 A2248 c2249 51), (On.mk (rL (rI .i64)) r1967.1 A1969 c1970 39), (On.mk (rP (rI .i64) (rP (rI .i64) (rP (rI .i64) (rI .i64)))) r1954.1 A1956 c1957 51)] []) => ?_
                refine Rf.sto 0 C2448 rfl (by simp) rfl fun s2450 (C2451 : Cx s0.next [] [] s0 s2450 [(s2442.next, AObj.box 24 [(Value.int .i64 r2441.1), (Value.int .i64 r2441.2)]), (s18.next, AObj.box 24 [(Value.int .i64 0), (Value.int .i64 0)]), (s2.next, AObj.box 24 [(Value.int .i64 r1954.2.1), (Value.int .i64 r1954.2.2)])] [(On.mk (rP (rI .i64) (rP (rI .i64) (rP (rI .i64) (rI .i64)))) t2253.1 A2248 c2249 51), (On.mk (rL (rI .i64)) r1967.1 A1969 c1970 39), (On.mk (rP (rI .i64) (rP (rI .i64) (rP (rI .i64) (rI .i64)))) r1954.1 A1956 c1957 51)] []) => ?_
                refine Rf.ldI (C2451.at m0 rfl) ?_
                refine Rf.ite ?_ ?_
                · refine Rf.ldI (C2451.at m0 rfl) ?_
                  refine Rf.call0 C2451 (t10 n r2441.1 (-1) s2450) ?_
                  rintro r2458 _ s2459 rfl h2462
                  have C2463 : Cx s0.next [] [] s0 s2459 [(s2442.next, AObj.box 24 [(Value.int .i64 r2441.1), (Value.int .i64 r2441.2)]), (s18.next, AObj.box 24 [(Value.int .i64 0), (Value.int .i64 0)]), (s2.next, AObj.box 24 [(Value.int .i64 r1954.2.1), (Value.int .i64 r1954.2.2)])] [(On.mk (rP (rI .i64) (rP (rI .i64) (rP (rI .i64) (rI .i64)))) t2253.1 A2248 c2249 51), (On.mk (rL (rI .i64)) r1967.1 A1969 c1970 39), (On.mk (rP (rI .i64) (rP (rI .i64) (rP (rI .i64) (rI .i64)))) r1954.1 A1956 c1957 51)] [] := h2462 [] (by simp) List.Pairwise.nil
                  refine (Rf.asAgg (Rf.unc (Rf.asI (Rf.unc (Rf.asI (Rf.unn ?_))))))
                  refine Rf.sto 1 C2463 rfl (by simp) rfl fun s2464 (C2465 : Cx s0.next [] [] s0 s2464 [(s2442.next, AObj.box 24 [(Value.int .i64 r2441.1), (Value.int .i64 r2441.2)]), (s18.next, AObj.box 24 [(Value.int .i64 r2458.1), (Value.int .i64 r2458.2)]), (s2.next, AObj.box 24 [(Value.int .i64 r1954.2.1), (Value.int .i64 r1954.2.2)])] [(On.mk (rP (rI .i64) (rP (rI .i64) (rP (rI .i64) (rI .i64)))) t2253.1 A2248 c2249 51), (On.mk (rL (rI .i64)) r1967.1 A1969 c1970 39), (On.mk (rP (rI .i64) (rP (rI .i64) (rP (rI .i64) (rI .i64)))) r1954.1 A1956 c1957 51)] []) => ?_
                  refine Rf.pj fun J2475 J2475' hJ2475 hJ2475' => ?_
                  have J2475h : ∀ (b2476 : Bool) (s2478 : St) (_ : Cx s0.next [] [] s0 s2478 [(s2.next, AObj.box 24 [(Value.int .i64 r1954.2.1), (Value.int .i64 r1954.2.2)])] [(On.mk (rP (rI .i64) (rP (rI .i64) (rP (rI .i64) (rI .i64)))) r1954.1 A1956 c1957 51)] []), Rf (J2475 b2476) H Q (J2475' b2476 s2478) := by
                    subst hJ2475
                    subst hJ2475'
                    intro b2476 s2478 C2479
                    refine Rf.ite ?_ ?_
                    · subst hH; subst hQ
                      exact Rf.leaf fun _ => Ev.done (Rf.ret C2479 rfl)
                    · refine Rf.call0 C2479 (t21 n r1954.1 s2478 (C2479.srB m0)) ?_
                      rintro r2480 _ s2481 ⟨A2482, c2483, rfl, h2484⟩ h2489
                      have C2490 : Cx s0.next [] [] s0 s2481 [(s2.next, AObj.box 24 [(Value.int .i64 r1954.2.1), (Value.int .i64 r1954.2.2)])] [(On.mk (rI .u8) r2480.1 A2482 c2483 5), (On.mk (rP (rI .i64) (rP (rI .i64) (rP (rI .i64) (rI .i64)))) r1954.1 A1956 c1957 51)] [] := h2489 [(On.mk (rI .u8) r2480.1 A2482 c2483 5)] (by simpa using h2484) (List.pairwise_singleton _ _)
                      refine (Rf.asTup (Rf.unc (Rf.asSl (Rf.unc (Rf.asAgg (Rf.unc (Rf.asI (Rf.unc (Rf.asI (Rf.unn (Rf.unn ?_)))))))))))
                      refine Rf.new C2490 fun s2491 (C2492 : Cx s0.next [] [] s0 s2491 [(s2481.next, AObj.box 24 [(Value.int .i64 0), (Value.int .i64 0)]), (s2.next, AObj.box 24 [(Value.int .i64 r1954.2.1), (Value.int .i64 r1954.2.2)])] [(On.mk (rI .u8) r2480.1 A2482 c2483 5), (On.mk (rP (rI .i64) (rP (rI .i64) (rP (rI .i64) (rI .i64)))) r1954.1 A1956 c1957 51)] []) => ?_
                      refine Rf.sto 0 C2492 rfl (by simp) rfl fun s2494 (C2495 : Cx s0.next [] [] s0 s2494 [(s2481.next, AObj.box 24 [(Value.int .i64 r2480.2.1), (Value.int .i64 r2480.2.2)]), (s2.next, AObj.box 24 [(Value.int .i64 r1954.2.1), (Value.int .i64 r1954.2.2)])] [(On.mk (rI .u8) r2480.1 A2482 c2483 5), (On.mk (rP (rI .i64) (rP (rI .i64) (rP (rI .i64) (rI .i64)))) r1954.1 A1956 c1957 51)] []) => ?_
                      refine Rf.pj fun J2507 J2507' hJ2507 hJ2507' => ?_
                      have J2507h : ∀ (b2508 : Bool) (s2510 : St) (_ : Cx s0.next [] [] s0 s2510 [] [] []), Rf (J2507 b2508) H Q (J2507' b2508 s2510) := by
                        subst hJ2507
                        subst hJ2507'
                        intro b2508 s2510 C2511
                        subst hH; subst hQ
                        exact Rf.leaf fun _ => Ev.done (Rf.ret C2511 rfl)
                      clear hJ2507 hJ2507'
                      refine Rf.ldI (C2495.at m1 rfl) ?_
                      refine Rf.ite ?_ ?_
                      · exact J2507h true _ (C2495.sub (List.Sublist.cons _ (List.Sublist.cons _ List.Sublist.slnil)) (List.Sublist.cons _ (List.Sublist.cons _ List.Sublist.slnil)) (List.Sublist.refl _))
                      · refine Rf.ldI (C2495.at m0 rfl) ?_
                        refine Rf.ite ?_ ?_
                        · refine Rf.call0 C2495 (t12 n p0 r2480.1 s2494 (C2495.sr0 rfl h0) (C2495.srB m0)) ?_
                          rintro r2502 _ s2503 rfl h2505
                          have C2506 : Cx s0.next [] [] s0 s2503 [(s2481.next, AObj.box 24 [(Value.int .i64 r2480.2.1), (Value.int .i64 r2480.2.2)]), (s2.next, AObj.box 24 [(Value.int .i64 r1954.2.1), (Value.int .i64 r1954.2.2)])] [(On.mk (rI .u8) r2480.1 A2482 c2483 5), (On.mk (rP (rI .i64) (rP (rI .i64) (rP (rI .i64) (rI .i64)))) r1954.1 A1956 c1957 51)] [] := h2505 [] (by simp) List.Pairwise.nil
                          refine (Rf.asB ?_)
                          exact J2507h r2502 _ (C2506.sub (List.Sublist.cons _ (List.Sublist.cons _ List.Sublist.slnil)) (List.Sublist.cons _ (List.Sublist.cons _ List.Sublist.slnil)) (List.Sublist.refl _))
                        · exact J2507h false _ (C2495.sub (List.Sublist.cons _ (List.Sublist.cons _ List.Sublist.slnil)) (List.Sublist.cons _ (List.Sublist.cons _ List.Sublist.slnil)) (List.Sublist.refl _))
                  clear hJ2475 hJ2475'
                  refine Rf.ldI (C2465.at m2 rfl) ?_
                  refine Rf.ldI (C2465.at m2 rfl) ?_
                  refine Rf.ldI (C2465.at m1 rfl) ?_
                  refine Rf.ldI (C2465.at m1 rfl) ?_
                  refine Rf.ite ?_ ?_
                  · exact J2475h true _ (C2465.sub (List.Sublist.cons _ (List.Sublist.cons _ (List.Sublist.cons_cons _ List.Sublist.slnil))) (List.Sublist.cons _ (List.Sublist.cons _ (List.Sublist.cons_cons _ List.Sublist.slnil))) (List.Sublist.refl _))
                  · refine Rf.call0 C2465 (t20 n r1954.1 ([] : (List (Int × Int × Int × Int))) s2464 (C2465.srB m2) Sr.nil) ?_
                    rintro r2470 _ s2471 rfl h2473
                    have C2474 : Cx s0.next [] [] s0 s2471 [(s2442.next, AObj.box 24 [(Value.int .i64 r2441.1), (Value.int .i64 r2441.2)]), (s18.next, AObj.box 24 [(Value.int .i64 r2458.1), (Value.int .i64 r2458.2)]), (s2.next, AObj.box 24 [(Value.int .i64 r1954.2.1), (Value.int .i64 r1954.2.2)])] [(On.mk (rP (rI .i64) (rP (rI .i64) (rP (rI .i64) (rI .i64)))) t2253.1 A2248 c2249 51), (On.mk (rL (rI .i64)) r1967.1 A1969 c1970 39), (On.mk (rP (rI .i64) (rP (rI .i64) (rP (rI .i64) (rI .i64)))) r1954.1 A1956 c1957 51)] [] := h2473 [] (by simp) List.Pairwise.nil
                    refine (Rf.asB ?_)
                    exact J2475h (!r2470) _ (C2474.sub (List.Sublist.cons _ (List.Sublist.cons _ (List.Sublist.cons_cons _ List.Sublist.slnil))) (List.Sublist.cons _ (List.Sublist.cons _ (List.Sublist.cons_cons _ List.Sublist.slnil))) (List.Sublist.refl _))
                · refine Rf.pj fun J2521 J2521' hJ2521 hJ2521' => ?_
                  have J2521h : ∀ (b2522 : Bool) (s2524 : St) (_ : Cx s0.next [] [] s0 s2524 [(s2.next, AObj.box 24 [(Value.int .i64 r1954.2.1), (Value.int .i64 r1954.2.2)])] [(On.mk (rP (rI .i64) (rP (rI .i64) (rP (rI .i64) (rI .i64)))) r1954.1 A1956 c1957 51)] []), Rf (J2521 b2522) H Q (J2521' b2522 s2524) := by
                    subst hJ2521
                    subst hJ2521'
                    intro b2522 s2524 C2525
                    refine Rf.ite ?_ ?_
                    · subst hH; subst hQ
                      exact Rf.leaf fun _ => Ev.done (Rf.ret C2525 rfl)
                    · refine Rf.call0 C2525 (t21 n r1954.1 s2524 (C2525.srB m0)) ?_
                      rintro r2526 _ s2527 ⟨A2528, c2529, rfl, h2530⟩ h2535
                      have C2536 : Cx s0.next [] [] s0 s2527 [(s2.next, AObj.box 24 [(Value.int .i64 r1954.2.1), (Value.int .i64 r1954.2.2)])] [(On.mk (rI .u8) r2526.1 A2528 c2529 5), (On.mk (rP (rI .i64) (rP (rI .i64) (rP (rI .i64) (rI .i64)))) r1954.1 A1956 c1957 51)] [] := h2535 [(On.mk (rI .u8) r2526.1 A2528 c2529 5)] (by simpa using h2530) (List.pairwise_singleton _ _)
                      refine (Rf.asTup (Rf.unc (Rf.asSl (Rf.unc (Rf.asAgg (Rf.unc (Rf.asI (Rf.unc (Rf.asI (Rf.unn (Rf.unn ?_)))))))))))
                      refine Rf.new C2536 fun s2537 (C2538 : Cx s0.next [] [] s0 s2537 [(s2527.next, AObj.box 24 [(Value.int .i64 0), (Value.int .i64 0)]), (s2.next, AObj.box 24 [(Value.int .i64 r1954.2.1), (Value.int .i64 r1954.2.2)])] [(On.mk (rI .u8) r2526.1 A2528 c2529 5), (On.mk (rP (rI .i64) (rP (rI .i64) (rP (rI .i64) (rI .i64)))) r1954.1 A1956 c1957 51)] []) => ?_
                      refine Rf.sto 0 C2538 rfl (by simp) rfl fun s2540 (C2541 : Cx s0.next [] [] s0 s2540 [(s2527.next, AObj.box 24 [(Value.int .i64 r2526.2.1), (Value.int .i64 r2526.2.2)]), (s2.next, AObj.box 24 [(Value.int .i64 r1954.2.1), (Value.int .i64 r1954.2.2)])] [(On.mk (rI .u8) r2526.1 A2528 c2529 5), (On.mk (rP (rI .i64) (rP (rI .i64) (rP (rI .i64) (rI .i64)))) r1954.1 A1956 c1957 51)] []) => ?_
                      refine Rf.pj fun J2553 J2553' hJ2553 hJ2553' => ?_
                      have J2553h : ∀ (b2554 : Bool) (s2556 : St) (_ : Cx s0.next [] [] s0 s2556 [] [] []), Rf (J2553 b2554) H Q (J2553' b2554 s2556) := by
                        subst hJ2553
                        subst hJ2553'
                        intro b2554 s2556 C2557
                        subst hH; subst hQ
                        exact Rf.leaf fun _ => Ev.done (Rf.ret C2557 rfl)
                      clear hJ2553 hJ2553'
                      refine Rf.ldI (C2541.at m1 rfl) ?_
                      refine Rf.ite ?_ ?_
                      · exact J2553h true _ (C2541.sub (List.Sublist.cons _ (List.Sublist.cons _ List.Sublist.slnil)) (List.Sublist.cons _ (List.Sublist.cons _ List.Sublist.slnil)) (List.Sublist.refl _))
                      · refine Rf.ldI (C2541.at m0 rfl) ?_
                        refine Rf.ite ?_ ?_
                        · refine Rf.call0 C2541 (t12 n p0 r2526.1 s2540 (C2541.sr0 rfl h0) (C2541.srB m0)) ?_
                          rintro r2548 _ s2549 rfl h2551
                          have C2552 : Cx s0.next [] [] s0 s2549 [(s2527.next, AObj.box 24 [(Value.int .i64 r2526.2.1), (Value.int .i64 r2526.2.2)]), (s2.next, AObj.box 24 [(Value.int .i64 r1954.2.1), (Value.int .i64 r1954.2.2)])] [(On.mk (rI .u8) r2526.1 A2528 c2529 5), (On.mk (rP (rI .i64) (rP (rI .i64) (rP (rI .i64) (rI .i64)))) r1954.1 A1956 c1957 51)] [] := h2551 [] (by simp) List.Pairwise.nil
                          refine (Rf.asB ?_)
                          exact J2553h r2548 _ (C2552.sub (List.Sublist.cons _ (List.Sublist.cons _ List.Sublist.slnil)) (List.Sublist.cons _ (List.Sublist.cons _ List.Sublist.slnil)) (List.Sublist.refl _))
                        · exact J2553h false _ (C2541.sub (List.Sublist.cons _ (List.Sublist.cons _ List.Sublist.slnil)) (List.Sublist.cons _ (List.Sublist.cons _ List.Sublist.slnil)) (List.Sublist.refl _))
                  clear hJ2521 hJ2521'
                  refine Rf.ldI (C2451.at m2 rfl) ?_
                  refine Rf.ldI (C2451.at m2 rfl) ?_
                  refine Rf.ldI (C2451.at m1 rfl) ?_
                  refine Rf.ldI (C2451.at m1 rfl) ?_
                  refine Rf.ite ?_ ?_
                  · exact J2521h true _ (C2451.sub (List.Sublist.cons _ (List.Sublist.cons _ (List.Sublist.cons_cons _ List.Sublist.slnil))) (List.Sublist.cons _ (List.Sublist.cons _ (List.Sublist.cons_cons _ List.Sublist.slnil))) (List.Sublist.refl _))
                  · refine Rf.call0 C2451 (t20 n r1954.1 t2253.1 s2450 (C2451.srB m2) (C2451.srB m0)) ?_
                    rintro r2516 _ s2517 rfl h2519
                    have C2520 : Cx s0.next [] [] s0 s2517 [(s2442.next, AObj.box 24 [(Value.int .i64 r2441.1), (Value.int .i64 r2441.2)]), (s18.next, AObj.box 24 [(Value.int .i64 0), (Value.int .i64 0)]), (s2.next, AObj.box 24 [(Value.int .i64 r1954.2.1), (Value.int .i64 r1954.2.2)])] [(On.mk (rP (rI .i64) (rP (rI .i64) (rP (rI .i64) (rI .i64)))) t2253.1 A2248 c2249 51), (On.mk (rL (rI .i64)) r1967.1 A1969 c1970 39), (On.mk (rP (rI .i64) (rP (rI .i64) (rP (rI .i64) (rI .i64)))) r1954.1 A1956 c1957 51)] [] := h2519 [] (by simp) List.Pairwise.nil
                    refine (Rf.asB ?_)
                    exact J2521h (!r2516) _ (C2520.sub (List.Sublist.cons _ (List.Sublist.cons _ (List.Sublist.cons_cons _ List.Sublist.slnil))) (List.Sublist.cons _ (List.Sublist.cons _ (List.Sublist.cons_cons _ List.Sublist.slnil))) (List.Sublist.refl _))
          clear hJ1949 hJ1949'
          refine Rf.ldI (C1937.at m2 rfl) ?_
          refine Rf.ite ?_ ?_
          · refine Rf.ldI (C1937.at m0 rfl) ?_
            refine Rf.ite ?_ ?_
            · exact J1949h true _ (C1937.sub (List.Sublist.cons _ (List.Sublist.cons_cons _ (List.Sublist.cons_cons _ List.Sublist.slnil))) (List.Sublist.cons _ (List.Sublist.cons _ List.Sublist.slnil)) (List.Sublist.refl _))
            · refine Rf.call0 C1937 (t12 n p0 r1922.1 s1936 (C1937.sr0 rfl h0) (C1937.srB m0)) ?_
              rintro r1944 _ s1945 rfl h1947
              have C1948 : Cx s0.next [] [] s0 s1945 [(s1923.next, AObj.box 24 [(Value.int .i64 r1922.2.1), (Value.int .i64 r1922.2.2)]), (s18.next, AObj.box 24 [(Value.int .i64 r32.1), (Value.int .i64 r32.2)]), (s2.next, AObj.box 24 [(Value.int .i64 r1.2.1), (Value.int .i64 r1.2.2)])] [(On.mk (rI .u8) r1922.1 A1924 c1925 5), (On.mk (rP (rI .i64) (rI .i64)) r1.1 A3 c4 38)] [] := h1947 [] (by simp) List.Pairwise.nil
              refine (Rf.asB ?_)
              exact J1949h (!r1944) _ (C1948.sub (List.Sublist.cons _ (List.Sublist.cons_cons _ (List.Sublist.cons_cons _ List.Sublist.slnil))) (List.Sublist.cons _ (List.Sublist.cons _ List.Sublist.slnil)) (List.Sublist.refl _))
          · exact J1949h false _ (C1937.sub (List.Sublist.cons _ (List.Sublist.cons_cons _ (List.Sublist.cons_cons _ List.Sublist.slnil))) (List.Sublist.cons _ (List.Sublist.cons _ List.Sublist.slnil)) (List.Sublist.refl _))
      clear hJ1917 hJ1917'
      refine Rf.ldI (C39.at m1 rfl) ?_
      refine Rf.ldI (C39.at m1 rfl) ?_
      refine Rf.ldI (C39.at m0 rfl) ?_
      refine Rf.ldI (C39.at m0 rfl) ?_
      refine Rf.ite ?_ ?_
      · exact J1917h true _ (C39.sub (List.Sublist.refl _) (List.Sublist.cons _ (List.Sublist.cons_cons _ List.Sublist.slnil)) (List.Sublist.refl _))
      · refine Rf.call0 C39 (t15 n r1.1 ([] : (List (Int × Int))) s38 (C39.srB m1) Sr.nil) ?_
        rintro r1912 _ s1913 rfl h1915
        have C1916 : Cx s0.next [] [] s0 s1913 [(s18.next, AObj.box 24 [(Value.int .i64 r32.1), (Value.int .i64 r32.2)]), (s2.next, AObj.box 24 [(Value.int .i64 r1.2.1), (Value.int .i64 r1.2.2)])] [(On.mk (rL (rI .i64)) r17.1 A19 c20 39), (On.mk (rP (rI .i64) (rI .i64)) r1.1 A3 c4 38)] [] := h1915 [] (by simp) List.Pairwise.nil
        refine (Rf.asB ?_)
        exact J1917h (!r1912) _ (C1916.sub (List.Sublist.refl _) (List.Sublist.cons _ (List.Sublist.cons_cons _ List.Sublist.slnil)) (List.Sublist.refl _))
    · refine Rf.new C31 fun s40 (C41 : Cx s0.next [] [] s0 s40 [(s30.next, AObj.box 38 [(Value.int .i64 0), (Value.int .i64 0)]), (s18.next, AObj.box 24 [(Value.int .i64 0), (Value.int .i64 0)]), (s2.next, AObj.box 24 [(Value.int .i64 r1.2.1), (Value.int .i64 r1.2.2)])] [(On.mk (rL (rI .i64)) r17.1 A19 c20 39), (On.mk (rP (rI .i64) (rI .i64)) r1.1 A3 c4 38)] []) => ?_
      refine Rf.sto 0 C41 rfl (by simp) rfl fun s43 (C44 : Cx s0.next [] [] s0 s43 [(s30.next, AObj.box 38 [(Value.int .i64 0), (Value.int .i64 0)]), (s18.next, AObj.box 24 [(Value.int .i64 0), (Value.int .i64 0)]), (s2.next, AObj.box 24 [(Value.int .i64 r1.2.1), (Value.int .i64 r1.2.2)])] [(On.mk (rL (rI .i64)) r17.1 A19 c20 39), (On.mk (rP (rI .i64) (rI .i64)) r1.1 A3 c4 38)] []) => ?_
      have C46 : Cx s0.next [] [] s0 s43 [(s30.next, AObj.box 38 [(Value.int .i64 0), (Value.int .i64 0)]), (s18.next, AObj.box 24 [(Value.int .i64 0), (Value.int .i64 0)]), (s2.next, AObj.box 24 [(Value.int .i64 r1.2.1), (Value.int .i64 r1.2.2)])] [(On.mk (rP (rI .i64) (rI .i64)) ([] : List (Int × Int)) none 0 38), (On.mk (rL (rI .i64)) r17.1 A19 c20 39), (On.mk (rP (rI .i64) (rI .i64)) r1.1 A3 c4 38)] [] := C44.addNil (rP (rI .i64) (rI .i64)) 38
      refine Rf.loop (Inv := Inv4_1 s0 p0 A0 c0 h0 A3 c4 r1 A19 c20 s30.next s18.next s2.next r17) (Ex := Ex4_1 s0 p0 A0 c0 h0 A3 c4 r1 A19 c20 s30.next s18.next s2.next r17) (x4_1 s0 p0 A0 c0 h0 A3 c4 r1 A19 c20 s30.next s18.next s2.next r17) (fun t g s K Q h => b4_1 n s0 p0 A0 c0 h0 A3 c4 r1 A19 c20 s30.next s18.next s2.next r17 t g s K Q h) n _ _ _ ⟨_, _, rfl, (C46.sub (List.Sublist.refl _) (List.Sublist.refl _) (List.Sublist.refl _))⟩ ?_
      intro t303 e g s489 h
      obtain ⟨A297, c298, rfl, rfl, C490⟩ := h
      rw [e4_after0_exit0 n]
      refine Rf.call0 C490 (t9 n t303.1 s489 (C490.srB m0)) ?_
      rintro r491 _ s492 rfl h495
      have C496 : Cx s0.next [] [] s0 s492 [(s30.next, AObj.box 38 [(Value.int .i64 t303.2.1), (Value.int .i64 t303.2.2.1)]), (s18.next, AObj.box 24 [(Value.int .i64 0), (Value.int .i64 0)]), (s2.next, AObj.box 24 [(Value.int .i64 r1.2.1), (Value.int .i64 r1.2.2)])] [(On.mk (rP (rI .i64) (rI .i64)) t303.1 A297 c298 38), (On.mk (rL (rI .i64)) r17.1 A19 c20 39), (On.mk (rP (rI .i64) (rI .i64)) r1.1 A3 c4 38)] [] := h495 [] (by simp) List.Pairwise.nil
      refine (Rf.asAgg (Rf.unc (Rf.asI (Rf.unc (Rf.asI (Rf.unn ?_))))))
      refine Rf.new C496 fun s497 (C498 : Cx s0.next [] [] s0 s497 [(s492.next, AObj.box 24 [(Value.int .i64 0), (Value.int .i64 0)]), (s30.next, AObj.box 38 [(Value.int .i64 t303.2.1), (Value.int .i64 t303.2.2.1)]), (s18.next, AObj.box 24 [(Value.int .i64 0), (Value.int .i64 0)]), (s2.next, AObj.box 24 [(Value.int .i64 r1.2.1), (Value.int .i64 r1.2.2)])] [(On.mk (rP (rI .i64) (rI .i64)) t303.1 A297 c298 38), (On.mk (rL (rI .i64)) r17.1 A19 c20 39), (On.mk (rP (rI .i64) (rI .i64)) r1.1 A3 c4 38)] []) => ?_
      refine Rf.sto 0 C498 rfl (by simp) rfl fun s500 (C501 : Cx s0.next [] [] s0 s500 [(s492.next, AObj.box 24 [(Value.int .i64 r491.1), (Value.int .i64 r491.2)]), (s30.next, AObj.box 38 [(Value.int .i64 t303.2.1), (Value.int .i64 t303.2.2.1)]), (s18.next, AObj.box 24 [(Value.int .i64 0), (Value.int .i64 0)]), (s2.next, AObj.box 24 [(Value.int .i64 r1.2.1), (Value.int .i64 r1.2.2)])] [(On.mk (rP (rI .i64) (rI .i64)) t303.1 A297 c298 38), (On.mk (rL (rI .i64)) r17.1 A19 c20 39), (On.mk (rP (rI .i64) (rI .i64)) r1.1 A3 c4 38)] []) => ?_
      refine Rf.ldI (C501.at m0 rfl) ?_
      refine Rf.ite ?_ ?_
      · refine Rf.ldI (C501.at m0 rfl) ?_
        refine Rf.call0 C501 (t10 n r491.1 (-1) s500) ?_
        rintro r508 _ s509 rfl h512
        have C513 : Cx s0.next [] [] s0 s509 [(s492.next, AObj.box 24 [(Value.int .i64 r491.1), (Value.int .i64 r491.2)]), (s30.next, AObj.box 38 [(Value.int .i64 t303.2.1), (Value.int .i64 t303.2.2.1)]), (s18.next, AObj.box 24 [(Value.int .i64 0), (Value.int .i64 0)]), (s2.next, AObj.box 24 [(Value.int .i64 r1.2.1), (Value.int .i64 r1.2.2)])] [(On.mk (rP (rI .i64) (rI .i64)) t303.1 A297 c298 38), (On.mk (rL (rI .i64)) r17.1 A19 c20 39), (On.mk (rP (rI .i64) (rI .i64)) r1.1 A3 c4 38)] [] := h512 [] (by simp) List.Pairwise.nil
        refine (Rf.asAgg (Rf.unc (Rf.asI (Rf.unc (Rf.asI (Rf.unn ?_))))))
        refine Rf.sto 2 C513 rfl (by simp) rfl fun s514 (C515 : Cx s0.next [] [] s0 s514 [(s492.next, AObj.box 24 [(Value.int .i64 r491.1), (Value.int .i64 r491.2)]), (s30.next, AObj.box 38 [(Value.int .i64 t303.2.1), (Value.int .i64 t303.2.2.1)]), (s18.next, AObj.box 24 [(Value.int .i64 r508.1), (Value.int .i64 r508.2)]), (s2.next, AObj.box 24 [(Value.int .i64 r1.2.1), (Value.int .i64 r1.2.2)])] [(On.mk (rP (rI .i64) (rI .i64)) t303.1 A297 c298 38), (On.mk (rL (rI .i64)) r17.1 A19 c20 39), (On.mk (rP (rI .i64) (rI .i64)) r1.1 A3 c4 38)] []) => ?_
        refine Rf.pj fun J525 J525' hJ525 hJ525' => ?_
        have J525h : ∀ (b526 : Bool) (s528 : St) (_ : Cx s0.next [] [] s0 s528 [(s18.next, AObj.box 24 [(Value.int .i64 r508.1), (Value.int .i64 r508.2)]), (s2.next, AObj.box 24 [(Value.int .i64 r1.2.1), (Value.int .i64 r1.2.2)])] [(On.mk (rP (rI .i64) (rI .i64)) r1.1 A3 c4 38)] []), Rf (J525 b526) H Q (J525' b526 s528) := by
          subst hJ525
          subst hJ525'
          intro b526 s528 C529
          refine Rf.ite ?_ ?_
          · subst hH; subst hQ
            exact Rf.leaf fun _ => Ev.done (Rf.ret C529 rfl)
          · refine Rf.call0 C529 (t8 n r1.1 s528 (C529.srB m0)) ?_
            rintro r530 _ s531 ⟨A532, c533, rfl, h534⟩ h539
            have C540 : Cx s0.next [] [] s0 s531 [(s18.next, AObj.box 24 [(Value.int .i64 r508.1), (Value.int .i64 r508.2)]), (s2.next, AObj.box 24 [(Value.int .i64 r1.2.1), (Value.int .i64 r1.2.2)])] [(On.mk (rI .u8) r530.1 A532 c533 5), (On.mk (rP (rI .i64) (rI .i64)) r1.1 A3 c4 38)] [] := h539 [(On.mk (rI .u8) r530.1 A532 c533 5)] (by simpa using h534) (List.pairwise_singleton _ _)
            refine (Rf.asTup (Rf.unc (Rf.asSl (Rf.unc (Rf.asAgg (Rf.unc (Rf.asI (Rf.unc (Rf.asI (Rf.unn (Rf.unn ?_)))))))))))
            refine Rf.new C540 fun s541 (C542 : Cx s0.next [] [] s0 s541 [(s531.next, AObj.box 24 [(Value.int .i64 0), (Value.int .i64 0)]), (s18.next, AObj.box 24 [(Value.int .i64 r508.1), (Value.int .i64 r508.2)]), (s2.next, AObj.box 24 [(Value.int .i64 r1.2.1), (Value.int .i64 r1.2.2)])] [(On.mk (rI .u8) r530.1 A532 c533 5), (On.mk (rP (rI .i64) (rI .i64)) r1.1 A3 c4 38)] []) => ?_
            refine Rf.sto 0 C542 rfl (by simp) rfl fun s544 (C545 : Cx s0.next [] [] s0 s544 [(s531.next, AObj.box 24 [(Value.int .i64 r530.2.1), (Value.int .i64 r530.2.2)]), (s18.next, AObj.box 24 [(Value.int .i64 r508.1), (Value.int .i64 r508.2)]), (s2.next, AObj.box 24 [(Value.int .i64 r1.2.1), (Value.int .i64 r1.2.2)])] [(On.mk (rI .u8) r530.1 A532 c533 5), (On.mk (rP (rI .i64) (rI .i64)) r1.1 A3 c4 38)] []) => ?_
            refine Rf.pj fun J557 J557' hJ557 hJ557' => ?_
            have J557h : ∀ (b558 : Bool) (s560 : St) (_ : Cx s0.next [] [] s0 s560 [(s18.next, AObj.box 24 [(Value.int .i64 r508.1), (Value.int .i64 r508.2)]), (s2.next, AObj.box 24 [(Value.int .i64 r1.2.1), (Value.int .i64 r1.2.2)])] [] []), Rf (J557 b558) H Q (J557' b558 s560) := by
              subst hJ557
              subst hJ557'
              intro b558 s560 C561
              refine Rf.ite ?_ ?_
              · subst hH; subst hQ
                exact Rf.leaf fun _ => Ev.done (Rf.ret C561 rfl)
              · refine Rf.call0 C561 (t18 n p0 s560 (C561.sr0 rfl h0)) ?_
                rintro r562 _ s563 ⟨A564, c565, rfl, h566⟩ h571
                have C572 : Cx s0.next [] [] s0 s563 [(s18.next, AObj.box 24 [(Value.int .i64 r508.1), (Value.int .i64 r508.2)]), (s2.next, AObj.box 24 [(Value.int .i64 r1.2.1), (Value.int .i64 r1.2.2)])] [(On.mk (rP (rI .i64) (rP (rI .i64) (rP (rI .i64) (rI .i64)))) r562.1 A564 c565 51)] [] := h571 [(On.mk (rP (rI .i64) (rP (rI .i64) (rP (rI .i64) (rI .i64)))) r562.1 A564 c565 51)] (by simpa using h566) (List.pairwise_singleton _ _)
                refine (Rf.asTup (Rf.unc (Rf.asSl (Rf.unc (Rf.asAgg (Rf.unc (Rf.asI (Rf.unc (Rf.asI (Rf.unn (Rf.unn ?_)))))))))))
                refine Rf.sto 1 C572 rfl (by simp) rfl fun s573 (C574 : Cx s0.next [] [] s0 s573 [(s18.next, AObj.box 24 [(Value.int .i64 r508.1), (Value.int .i64 r508.2)]), (s2.next, AObj.box 24 [(Value.int .i64 r562.2.1), (Value.int .i64 r562.2.2)])] [(On.mk (rP (rI .i64) (rP (rI .i64) (rP (rI .i64) (rI .i64)))) r562.1 A564 c565 51)] []) => ?_
                refine Rf.call0 C574 (t16 n p0 4 s573 (C574.sr0 rfl h0)) ?_
                rintro r575 _ s576 ⟨A577, c578, rfl, h579⟩ h583
                have C584 : Cx s0.next [] [] s0 s576 [(s18.next, AObj.box 24 [(Value.int .i64 r508.1), (Value.int .i64 r508.2)]), (s2.next, AObj.box 24 [(Value.int .i64 r562.2.1), (Value.int .i64 r562.2.2)])] [(On.mk (rL (rI .i64)) r575.1 A577 c578 39), (On.mk (rP (rI .i64) (rP (rI .i64) (rP (rI .i64) (rI .i64)))) r562.1 A564 c565 51)] [] := h583 [(On.mk (rL (rI .i64)) r575.1 A577 c578 39)] (by simpa using h579) (List.pairwise_singleton _ _)
                refine (Rf.asTup (Rf.unc (Rf.asSl (Rf.unc (Rf.asI (Rf.unn ?_))))))
                refine Rf.sto 0 C584 rfl (by simp) rfl fun s585 (C586 : Cx s0.next [] [] s0 s585 [(s18.next, AObj.box 24 [(Value.int .i64 0), (Value.int .i64 0)]), (s2.next, AObj.box 24 [(Value.int .i64 r562.2.1), (Value.int .i64 r562.2.2)])] [(On.mk (rL (rI .i64)) r575.1 A577 c578 39), (On.mk (rP (rI .i64) (rP (rI .i64) (rP (rI .i64) (rI .i64)))) r562.1 A564 c565 51)] []) => ?_
                refine Rf.ite ?_ ?_
                · refine Rf.call0 C586 (t10 n 16 r575.2 s585) ?_
                  rintro r587 _ s588 rfl h591
                  have C592 : Cx s0.next [] [] s0 s588 [(s18.next, AObj.box 24 [(Value.int .i64 0), (Value.int .i64 0)]), (s2.next, AObj.box 24 [(Value.int .i64 r562.2.1), (Value.int .i64 r562.2.2)])] [(On.mk (rL (rI .i64)) r575.1 A577 c578 39), (On.mk (rP (rI .i64) (rP (rI .i64) (rP (rI .i64) (rI .i64)))) r562.1 A564 c565 51)] [] := h591 [] (by simp) List.Pairwise.nil
                  refine (Rf.asAgg (Rf.unc (Rf.asI (Rf.unc (Rf.asI (Rf.unn ?_))))))
                  refine Rf.sto 0 C592 rfl (by simp) rfl fun s593 (C594 : Cx s0.next [] [] s0 s593 [(s18.next, AObj.box 24 [(Value.int .i64 r587.1), (Value.int .i64 r587.2)]), (s2.next, AObj.box 24 [(Value.int .i64 r562.2.1), (Value.int .i64 r562.2.2)])] [(On.mk (rL (rI .i64)) r575.1 A577 c578 39), (On.mk (rP (rI .i64) (rP (rI .i64) (rP (rI .i64) (rI .i64)))) r562.1 A564 c565 51)] []) => ?_
                  refine Rf.pj fun J1175 J1175' hJ1175 hJ1175' => ?_
                  have J1175h : ∀ (b1176 : Bool) (s1178 : St) (_ : Cx s0.next [] [] s0 s1178 [(s2.next, AObj.box 24 [(Value.int .i64 r562.2.1), (Value.int .i64 r562.2.2)])] [(On.mk (rP (rI .i64) (rP (rI .i64) (rP (rI .i64) (rI .i64)))) r562.1 A564 c565 51)] []), Rf (J1175 b1176) H Q (J1175' b1176 s1178) := by
                    subst hJ1175
                    subst hJ1175'
                    intro b1176 s1178 C1179
                    refine Rf.ite ?_ ?_
                    · subst hH; subst hQ
                      exact Rf.leaf fun _ => Ev.done (Rf.ret C1179 rfl)
                    · refine Rf.call0 C1179 (t21 n r562.1 s1178 (C1179.srB m0)) ?_
                      rintro r1180 _ s1181 ⟨A1182, c1183, rfl, h1184⟩ h1189
                      have C1190 : Cx s0.next [] [] s0 s1181 [(s2.next, AObj.box 24 [(Value.int .i64 r562.2.1), (Value.int .i64 r562.2.2)])] [(On.mk (rI .u8) r1180.1 A1182 c1183 5), (On.mk (rP (rI .i64) (rP (rI .i64) (rP (rI .i64) (rI .i64)))) r562.1 A564 c565 51)] [] := h1189 [(On.mk (rI .u8) r1180.1 A1182 c1183 5)] (by simpa using h1184) (List.pairwise_singleton _ _)
                      refine (Rf.asTup (Rf.unc (Rf.asSl (Rf.unc (Rf.asAgg (Rf.unc (Rf.asI (Rf.unc (Rf.asI (Rf.unn (Rf.unn ?_)))))))))))
                      refine Rf.new C1190 fun s1191 (C1192 : Cx s0.next [] [] s0 s1191 [(s1181.next, AObj.box 24 [(Value.int .i64 0), (Value.int .i64 0)]), (s2.next, AObj.box 24 [(Value.int .i64 r562.2.1), (Value.int .i64 r562.2.2)])] [(On.mk (rI .u8) r1180.1 A1182 c1183 5), (On.mk (rP (rI .i64) (rP (rI .i64) (rP (rI .i64) (rI .i64)))) r562.1 A564 c565 51)] []) => ?_
                      refine Rf.sto 0 C1192 rfl (by simp) rfl fun s1194 (C1195 : Cx s0.next [] [] s0 s1194 [(s1181.next, AObj.box 24 [(Value.int .i64 r1180.2.1), (Value.int .i64 r1180.2.2)]), (s2.next, AObj.box 24 [(Value.int .i64 r562.2.1), (Value.int .i64 r562.2.2)])] [(On.mk (rI .u8) r1180.1 A1182 c1183 5), (On.mk (rP (rI .i64) (rP (rI .i64) (rP (rI .i64) (rI .i64)))) r562.1 A564 c565 51)] []) => ?_
                      refine Rf.pj fun J1207 J1207' hJ1207 hJ1207' => ?_
                      have J1207h : ∀ (b1208 : Bool) (s1210 : St) (_ : Cx s0.next [] [] s0 s1210 [] [] []), Rf (J1207 b1208) H Q (J1207' b1208 s1210) := by
                        subst hJ1207
                        subst hJ1207'
                        intro b1208 s1210 C1211
                        subst hH; subst hQ
                        exact Rf.leaf fun _ => Ev.done (Rf.ret C1211 rfl)
                      clear hJ1207 hJ1207'
                      refine Rf.ldI (C1195.at m1 rfl) ?_
                      refine Rf.ite ?_ ?_
                      · exact J1207h true _ (C1195.sub (List.Sublist.cons _ (List.Sublist.cons _ List.Sublist.slnil)) (List.Sublist.cons _ (List.Sublist.cons _ List.Sublist.slnil)) (List.Sublist.refl _))
                      · refine Rf.ldI (C1195.at m0 rfl) ?_
                        refine Rf.ite ?_ ?_
                        · refine Rf.call0 C1195 (t12 n p0 r1180.1 s1194 (C1195.sr0 rfl h0) (C1195.srB m0)) ?_
                          rintro r1202 _ s1203 rfl h1205
                          have C1206 : Cx s0.next [] [] s0 s1203 [(s1181.next, AObj.box 24 [(Value.int .i64 r1180.2.1), (Value.int .i64 r1180.2.2)]), (s2.next, AObj.box 24 [(Value.int .i64 r562.2.1), (Value.int .i64 r562.2.2)])] [(On.mk (rI .u8) r1180.1 A1182 c1183 5), (On.mk (rP (rI .i64) (rP (rI .i64) (rP (rI .i64) (rI .i64)))) r562.1 A564 c565 51)] [] := h1205 [] (by simp) List.Pairwise.nil
                          refine (Rf.asB ?_)
                          exact J1207h r1202 _ (C1206.sub (List.Sublist.cons _ (List.Sublist.cons _ List.Sublist.slnil)) (List.Sublist.cons _ (List.Sublist.cons _ List.Sublist.slnil)) (List.Sublist.refl _))
                        · exact J1207h false _ (C1195.sub (List.Sublist.cons _ (List.Sublist.cons _ List.Sublist.slnil)) (List.Sublist.cons _ (List.Sublist.cons _ List.Sublist.slnil)) (List.Sublist.refl _))
                  clear hJ1175 hJ1175'
                  refine Rf.ldI (C594.at m1 rfl) ?_
                  refine Rf.ldI (C594.at m1 rfl) ?_
                  refine Rf.ldI (C594.at m0 rfl) ?_
                  refine Rf.ldI (C594.at m0 rfl) ?_
                  refine Rf.ite ?_ ?_
                  · exact J1175h true _ (C594.sub (List.Sublist.cons _ (List.Sublist.cons_cons _ List.Sublist.slnil)) (List.Sublist.cons _ (List.Sublist.cons_cons _ List.Sublist.slnil)) (List.Sublist.refl _))
                  · refine Rf.call0 C594 (t20 n r562.1 ([] : (List (Int × Int × Int × Int))) s593 (C594.srB m1) Sr.nil) ?_
                    rintro r1170 _ s1171 rfl h1173
                    have C1174 : Cx s0.next [] [] s0 s1171 [(s18.next, AObj.box 24 [(Value.int .i64 r587.1), (Value.int .i64 r587.2)]), (s2.next, AObj.box 24 [(Value.int .i64 r562.2.1), (Value.int .i64 r562.2.2)])] [(On.mk (rL (rI .i64)) r575.1 A577 c578 39), (On.mk (rP (rI .i64) (rP (rI .i64) (rP (rI .i64) (rI .i64)))) r562.1 A564 c565 51)] [] := h1173 [] (by simp) List.Pairwise.nil
                    refine (Rf.asB ?_)
                    exact J1175h (!r1170) _ (C1174.sub (List.Sublist.cons _ (List.Sublist.cons_cons _ List.Sublist.slnil)) (List.Sublist.cons _ (List.Sublist.cons_cons _ List.Sublist.slnil)) (List.Sublist.refl _))
                · have C596 : Cx s0.next [] [] s0 s585 [(s18.next, AObj.box 24 [(Value.int .i64 0), (Value.int .i64 0)]), (s2.next, AObj.box 24 [(Value.int .i64 r562.2.1), (Value.int .i64 r562.2.2)])] [(On.mk (rP (rI .i64) (rP (rI .i64) (rP (rI .i64) (rI .i64)))) ([] : List (Int × Int × Int × Int)) none 0 51), (On.mk (rL (rI .i64)) r575.1 A577 c578 39), (On.mk (rP (rI .i64) (rP (rI .i64) (rP (rI .i64) (rI .i64)))) r562.1 A564 c565 51)] [] := C586.addNil (rP (rI .i64) (rP (rI .i64) (rP (rI .i64) (rI .i64)))) 51
                  refine Rf.loop (Inv := Inv4_2 s0 p0 A0 c0 h0 A564 A577 c565 c578 s18.next s2.next r562 r575) (Ex := Ex4_2 s0 p0 A0 c0 h0 A564 A577 c565 c578 s18.next s2.next r562 r575) (x4_2 s0 p0 A0 c0 h0 A564 A577 c565 c578 s18.next s2.next r562 r575) (fun t g s K Q h => b4_2 n s0 p0 A0 c0 h0 A564 A577 c565 c578 s18.next s2.next r562 r575 t g s K Q h) n _ _ _ ⟨_, _, rfl, (C596.sub (List.Sublist.refl _) (List.Sublist.refl _) (List.Sublist.refl _))⟩ ?_
                  intro t861 e g s1047 h
                  obtain ⟨A856, c857, rfl, rfl, C1048⟩ := h
                  rw [e4_after1_exit2 n]
                  refine Rf.call0 C1048 (t19 n t861.1 s1047 (C1048.srB m0)) ?_
                  rintro r1049 _ s1050 rfl h1053
                  have C1054 : Cx s0.next [] [] s0 s1050 [(s18.next, AObj.box 24 [(Value.int .i64 0), (Value.int .i64 0)]), (s2.next, AObj.box 24 [(Value.int .i64 r562.2.1), (Value.int .i64 r562.2.2)])] [(On.mk (rP (rI .i64) (rP (rI .i64) (rP (rI .i64) (rI .i64)))) t861.1 A856 c857 51), (On.mk (rL (rI .i64)) r575.1 A577 c578 39), (On.mk (rP (rI .i64) (rP (rI .i64) (rP (rI .i64) (rI .i64)))) r562.1 A564 c565 51)] [] := h1053 [] (by simp) List.Pairwise.nil
                  refine (Rf.asAgg (Rf.unc (Rf.asI (Rf.unc (Rf.asI (Rf.unn ?_))))))
                  refine Rf.new C1054 fun s1055 (C1056 : Cx s0.next [] [] s0 s1055 [(s1050.next, AObj.box 24 [(Value.int .i64 0), (Value.int .i64 0)]), (s18.next, AObj.box 24 [(Value.int .i64 0), (Value.int .i64 0)]), (s2.next, AObj.box 24 [(Value.int .i64 r562.2.1), (Value.int .i64 r562.2.2)])] [(On.mk (rP (rI .i64) (rP (rI .i64) (rP (rI .i64) (rI .i64)))) t861.1 A856 c857 51), (On.mk (rL (rI .i64)) r575.1 A577 c578 39), (On.mk (rP (rI .i64) (rP (rI .i64) (rP (rI .i64) (rI .i64)))) r562.1 A564 c565 51)] []) => ?_
                  refine Rf.sto 0 C1056 rfl (by simp) rfl fun s1058 (C1059 : Cx s0.next [] [] s0 s1058 [(s1050.next, AObj.box 24 [(Value.int .i64 r1049.1), (Value.int .i64 r1049.2)]), (s18.next, AObj.box 24 [(Value.int .i64 0), (Value.int .i64 0)]), (s2.next, AObj.box 24 [(Value.int .i64 r562.2.1), (Value.int .i64 r562.2.2)])] [(On.mk (rP (rI .i64) (rP (rI .i64) (rP (rI .i64) (rI .i64)))) t861.1 A856 c857 51), (On.mk (rL (rI .i64)) r575.1 A577 c578 39), (On.mk (rP (rI .i64) (rP (rI .i64) (rP (rI .i64) (rI .i64)))) r562.1 A564 c565 51)] []) => ?_
                  refine Rf.ldI (C1059.at m0 rfl) ?_
                  refine Rf.ite ?_ ?_
                  · refine Rf.ldI (C1059.at m0 rfl) ?_
                    refine Rf.call0 C1059 (t10 n r1049.1 (-1) s1058) ?_
                    rintro r1066 _ s1067 rfl h1070
                    have C1071 : Cx s0.next [] [] s0 s1067 [(s1050.next, AObj.box 24 [(Value.int .i64 r1049.1), (Value.int .i64 r1049.2)]), (s18.next, AObj.box 24 [(Value.int .i64 0), (Value.int .i64 0)]), (s2.next, AObj.box 24 [(Value.int .i64 r562.2.1), (Value.int .i64 r562.2.2)])] [(On.mk (rP (rI .i64) (rP (rI .i64) (rP (rI .i64) (rI .i64)))) t861.1 A856 c857 51), (On.mk (rL (rI .i64)) r575.1 A577 c578 39), (On.mk (rP (rI .i64) (rP (rI .i64) (rP (rI .i64) (rI .i64)))) r562.1 A564 c565 51)] [] := h1070 [] (by simp) List.Pairwise.nil
                    refine (Rf.asAgg (Rf.unc (Rf.asI (Rf.unc (Rf.asI (Rf.unn ?_))))))
                    refine Rf.sto 1 C1071 rfl (by simp) rfl fun s1072 (C1073 : Cx s0.next [] [] s0 s1072 [(s1050.next, AObj.box 24 [(Value.int .i64 r1049.1), (Value.int .i64 r1049.2)]), (s18.next, AObj.box 24 [(Value.int .i64 r1066.1), (Value.int .i64 r1066.2)]), (s2.next, AObj.box 24 [(Value.int .i64 r562.2.1), (Value.int .i64 r562.2.2)])] [(On.mk (rP (rI .i64) (rP (rI .i64) (rP (rI .i64) (rI .i64)))) t861.1 A856 c857 51), (On.mk (rL (rI .i64)) r575.1 A577 c578 39), (On.mk (rP (rI .i64) (rP (rI .i64) (rP (rI .i64) (rI .i64)))) r562.1 A564 c565 51)] []) => ?_
                    refine Rf.pj fun J1083 J1083' hJ1083 hJ1083' => ?_
                    have J1083h : ∀ (b1084 : Bool) (s1086 : St) (_ : Cx s0.next [] [] s0 s1086 [(s2.next, AObj.box 24 [(Value.int .i64 r562.2.1), (Value.int .i64 r562.2.2)])] [(On.mk (rP (rI .i64) (rP (rI .i64) (rP (rI .i64) (rI .i64)))) r562.1 A564 c565 51)] []), Rf (J1083 b1084) H Q (J1083' b1084 s1086) := by
                      subst hJ1083
                      subst hJ1083'
                      intro b1084 s1086 C1087
                      refine Rf.ite ?_ ?_
                      · subst hH; subst hQ
                        exact Rf.leaf fun _ => Ev.done (Rf.ret C1087 rfl)
                      · refine Rf.call0 C1087 (t21 n r562.1 s1086 (C1087.srB m0)) ?_
                        rintro r1088 _ s1089 ⟨A1090, c1091, rfl, h1092⟩ h1097
                        have C1098 : Cx s0.next [] [] s0 s1089 [(s2.next, AObj.box 24 [(Value.int .i64 r562.2.1), (Value.int .i64 r562.2.2)])] [(On.mk (rI .u8) r1088.1 A1090 c1091 5), (On.mk (rP (rI .i64) (rP (rI .i64) (rP (rI .i64) (rI .i64)))) r562.1 A564 c565 51)] [] := h1097 [(On.mk (rI .u8) r1088.1 A1090 c1091 5)] (by simpa using h1092) (List.pairwise_singleton _ _)
                        refine (Rf.asTup (Rf.unc (Rf.asSl (Rf.unc (Rf.asAgg (Rf.unc (Rf.asI (Rf.unc (Rf.asI (Rf.unn (Rf.unn ?_)))))))))))
                        refine Rf.new C1098 fun s1099 (C1100 : Cx s0.next [] [] s0 s1099 [(s1089.next, AObj.box 24 [(Value.int .i64 0), (Value.int .i64 0)]), (s2.next, AObj.box 24 [(Value.int .i64 r562.2.1), (Value.int .i64 r562.2.2)])] [(On.mk (rI .u8) r1088.1 A1090 c1091 5), (On.mk (rP (rI .i64) (rP (rI .i64) (rP (rI .i64) (rI .i64)))) r562.1 A564 c565 51)] []) => ?_
                        refine Rf.sto 0 C1100 rfl (by simp) rfl fun s1102 (C1103 : Cx s0.next [] [] s0 s1102 [(s1089.next, AObj.box 24 [(Value.int .i64 r1088.2.1), (Value.int .i64 r1088.2.2)]), (s2.next, AObj.box 24 [(Value.int .i64 r562.2.1), (Value.int .i64 r562.2.2)])] [(On.mk (rI .u8) r1088.1 A1090 c1091 5), (On.mk (rP (rI .i64) (rP (rI .i64) (rP (rI .i64) (rI .i64)))) r562.1 A564 c565 51)] []) => ?_
                        refine Rf.pj fun J1115 J1115' hJ1115 hJ1115' => ?_
                        have J1115h : ∀ (b1116 : Bool) (s1118 : St) (_ : Cx s0.next [] [] s0 s1118 [] [] []), Rf (J1115 b1116) H Q (J1115' b1116 s1118) := by
                          subst hJ1115
                          subst hJ1115'
                          intro b1116 s1118 C1119
                          subst hH; subst hQ
                          exact Rf.leaf fun _ => Ev.done (Rf.ret C1119 rfl)
                        clear hJ1115 hJ1115'
                        refine Rf.ldI (C1103.at m1 rfl) ?_
                        refine Rf.ite ?_ ?_
                        · exact J1115h true _ (C1103.sub (List.Sublist.cons _ (List.Sublist.cons _ List.Sublist.slnil)) (List.Sublist.cons _ (List.Sublist.cons _ List.Sublist.slnil)) (List.Sublist.refl _))
                        · refine Rf.ldI (C1103.at m0 rfl) ?_
                          refine Rf.ite ?_ ?_
                          · refine Rf.call0 C1103 (t12 n p0 r1088.1 s1102 (C1103.sr0 rfl h0) (C1103.srB m0)) ?_
                            rintro r1110 _ s1111 rfl h1113
                            have C1114 : Cx s0.next [] [] s0 s1111 [(s1089.next, AObj.box 24 [(Value.int .i64 r1088.2.1), (Value.int .i64 r1088.2.2)]), (s2.next, AObj.box 24 [(Value.int .i64 r562.2.1), (Value.int .i64 r562.2.2)])] [(On.mk (rI .u8) r1088.1 A1090 c1091 5), (On.mk (rP (rI .i64) (rP (rI .i64) (rP (rI .i64) (rI .i64)))) r562.1 A564 c565 51)] [] := h1113 [] (by simp) List.Pairwise.nil
                            refine (Rf.asB ?_)
                            exact J1115h r1110 _ (C1114.sub (List.Sublist.cons _ (List.Sublist.cons _ List.Sublist.slnil)) (List.Sublist.cons _ (List.Sublist.cons _ List.Sublist.slnil)) (List.Sublist.refl _))
                          · exact J1115h false _ (C1103.sub (List.Sublist.cons _ (List.Sublist.cons _ List.Sublist.slnil)) (List.Sublist.cons _ (List.Sublist.cons _ List.Sublist.slnil)) (List.Sublist.refl _))
                    clear hJ1083 hJ1083'
                    refine Rf.ldI (C1073.at m2 rfl) ?_
                    refine Rf.ldI (C1073.at m2 rfl) ?_
                    refine Rf.ldI (C1073.at m1 rfl) ?_
                    refine Rf.ldI (C1073.at m1 rfl) ?_
                    refine Rf.ite ?_ ?_
                    · exact J1083h true _ (C1073.sub (List.Sublist.cons _ (List.Sublist.cons _ (List.Sublist.cons_cons _ List.Sublist.slnil))) (List.Sublist.cons _ (List.Sublist.cons _ (List.Sublist.cons_cons _ List.Sublist.slnil))) (List.Sublist.refl _))
                    · refine Rf.call0 C1073 (t20 n r562.1 ([] : (List (Int × Int × Int × Int))) s1072 (C1073.srB m2) Sr.nil) ?_
                      rintro r1078 _ s1079 rfl h1081
                      have C1082 : Cx s0.next [] [] s0 s1079 [(s1050.next, AObj.box 24 [(Value.int .i64 r1049.1), (Value.int .i64 r1049.2)]), (s18.next, AObj.box 24 [(Value.int .i64 r1066.1), (Value.int .i64 r1066.2)]), (s2.next, AObj.box 24 [(Value.int .i64 r562.2.1), (Value.int .i64 r562.2.2)])] [(On.mk (rP (rI .i64) (rP (rI .i64) (rP (rI .i64) (rI .i64)))) t861.1 A856 c857 51), (On.mk (rL (rI .i64)) r575.1 A577 c578 39), (On.mk (rP (rI .i64) (rP (rI .i64) (rP (rI .i64) (rI .i64)))) r562.1 A564 c565 51)] [] := h1081 [] (by simp) List.Pairwise.nil
                      refine (Rf.asB ?_)
                      exact J1083h (!r1078) _ (C1082.sub (List.Sublist.cons _ (List.Sublist.cons _ (List.Sublist.cons_cons _ List.Sublist.slnil))) (List.Sublist.cons _ (List.Sublist.cons _ (List.Sublist.cons_cons _ List.Sublist.slnil))) (List.Sublist.refl _))
                  · refine Rf.pj fun J1129 J1129' hJ1129 hJ1129' => ?_
                    have J1129h : ∀ (b1130 : Bool) (s1132 : St) (_ : Cx s0.next [] [] s0 s1132 [(s2.next, AObj.box 24 [(Value.int .i64 r562.2.1), (Value.int .i64 r562.2.2)])] [(On.mk (rP (rI .i64) (rP (rI .i64) (rP (rI .i64) (rI .i64)))) r562.1 A564 c565 51)] []), Rf (J1129 b1130) H Q (J1129' b1130 s1132) := by
                      subst hJ1129
                      subst hJ1129'
                      intro b1130 s1132 C1133
                      refine Rf.ite ?_ ?_
                      · subst hH; subst hQ
                        exact Rf.leaf fun _ => Ev.done (Rf.ret C1133 rfl)
                      · refine Rf.call0 C1133 (t21 n r562.1 s1132 (C1133.srB m0)) ?_
                        rintro r1134 _ s1135 ⟨A1136, c1137, rfl, h1138⟩ h1143
                        have C1144 : Cx s0.next [] [] s0 s1135 [(s2.next, AObj.box 24 [(Value.int .i64 r562.2.1), (Value.int .i64 r562.2.2)])] [(On.mk (rI .u8) r1134.1 A1136 c1137 5), (On.mk (rP (rI .i64) (rP (rI .i64) (rP (rI .i64) (rI .i64)))) r562.1 A564 c565 51)] [] := h1143 [(On.mk (rI .u8) r1134.1 A1136 c1137 5)] (by simpa using h1138) (List.pairwise_singleton _ _)
                        refine (Rf.asTup (Rf.unc (Rf.asSl (Rf.unc (Rf.asAgg (Rf.unc (Rf.asI (Rf.unc (Rf.asI (Rf.unn (Rf.unn ?_)))))))))))
                        refine Rf.new C1144 fun s1145 (C1146 : Cx s0.next [] [] s0 s1145 [(s1135.next, AObj.box 24 [(Value.int .i64 0), (Value.int .i64 0)]), (s2.next, AObj.box 24 [(Value.int .i64 r562.2.1), (Value.int .i64 r562.2.2)])] [(On.mk (rI .u8) r1134.1 A1136 c1137 5), (On.mk (rP (rI .i64) (rP (rI .i64) (rP (rI .i64) (rI .i64)))) r562.1 A564 c565 51)] []) => ?_
                        refine Rf.sto 0 C1146 rfl (by simp) rfl fun s1148 (C1149 : Cx s0.next [] [] s0 s1148 [(s1135.next, AObj.box 24 [(Value.int .i64 r1134.2.1), (Value.int .i64 r1134.2.2)]), (s2.next, AObj.box 24 [(Value.int .i64 r562.2.1), (Value.int .i64 r562.2.2)])] [(On.mk (rI .u8) r1134.1 A1136 c1137 5), (On.mk (rP (rI .i64) (rP (rI .i64) (rP (rI .i64) (rI .i64)))) r562.1 A564 c565 51)] []) => ?_
                        refine Rf.pj fun J1161 J1161' hJ1161 hJ1161' => ?_
                        have J1161h : ∀ (b1162 : Bool) (s1164 : St) (_ : Cx s0.next [] [] s0 s1164 [] [] []), Rf (J1161 b1162) H Q (J1161' b1162 s1164) := by
                          subst hJ1161
                          subst hJ1161'
                          intro b1162 s1164 C1165
                          subst hH; subst hQ
                          exact Rf.leaf fun _ => Ev.done (Rf.ret C1165 rfl)
                        clear hJ1161 hJ1161'
                        refine Rf.ldI (C1149.at m1 rfl) ?_
                        refine Rf.ite ?_ ?_
                        · exact J1161h true _ (C1149.sub (List.Sublist.cons _ (List.Sublist.cons _ List.Sublist.slnil)) (List.Sublist.cons _ (List.Sublist.cons _ List.Sublist.slnil)) (List.Sublist.refl _))
                        · refine Rf.ldI (C1149.at m0 rfl) ?_
                          refine Rf.ite ?_ ?_
                          · refine Rf.call0 C1149 (t12 n p0 r1134.1 s1148 (C1149.sr0 rfl h0) (C1149.srB m0)) ?_
                            rintro r1156 _ s1157 rfl h1159
                            have C1160 : Cx s0.next [] [] s0 s1157 [(s1135.next, AObj.box 24 [(Value.int .i64 r1134.2.1), (Value.int .i64 r1134.2.2)]), (s2.next, AObj.box 24 [(Value.int .i64 r562.2.1), (Value.int .i64 r562.2.2)])] [(On.mk (rI .u8) r1134.1 A1136 c1137 5), (On.mk (rP (rI .i64) (rP (rI .i64) (rP (rI .i64) (rI .i64)))) r562.1 A564 c565 51)] [] := h1159 [] (by simp) List.Pairwise.nil
                            refine (Rf.asB ?_)
                            exact J1161h r1156 _ (C1160.sub (List.Sublist.cons _ (List.Sublist.cons _ List.Sublist.slnil)) (List.Sublist.cons _ (List.Sublist.cons _ List.Sublist.slnil)) (List.Sublist.refl _))
                          · exact J1161h false _ (C1149.sub (List.Sublist.cons _ (List.Sublist.cons _ List.Sublist.slnil)) (List.Sublist.cons _ (List.Sublist.cons _ List.Sublist.slnil)) (List.Sublist.refl _))
                    clear hJ1129 hJ1129'
                    refine Rf.ldI (C1059.at m2 rfl) ?_
                    refine Rf.ldI (C1059.at m2 rfl) ?_
                    refine Rf.ldI (C1059.at m1 rfl) ?_
                    refine Rf.ldI (C1059.at m1 rfl) ?_
                    refine Rf.ite ?_ ?_
                    · exact J1129h true _ (C1059.sub (List.Sublist.cons _ (List.Sublist.cons _ (List.Sublist.cons_cons _ List.Sublist.slnil))) (List.Sublist.cons _ (List.Sublist.cons _ (List.Sublist.cons_cons _ List.Sublist.slnil))) (List.Sublist.refl _))
                    · refine Rf.call0 C1059 (t20 n r562.1 t861.1 s1058 (C1059.srB m2) (C1059.srB m0)) ?_
                      rintro r1124 _ s1125 rfl h1127
                      have C1128 : Cx s0.next [] [] s0 s1125 [(s1050.next, AObj.box 24 [(Value.int .i64 r1049.1), (Value.int .i64 r1049.2)]), (s18.next, AObj.box 24 [(Value.int .i64 0), (Value.int .i64 0)]), (s2.next, AObj.box 24 [(Value.int .i64 r562.2.1), (Value.int .i64 r562.2.2)])] [(On.mk (rP (rI .i64) (rP (rI .i64) (rP (rI .i64) (rI .i64)))) t861.1 A856 c857 51), (On.mk (rL (rI .i64)) r575.1 A577 c578 39), (On.mk (rP (rI .i64) (rP (rI .i64) (rP (rI .i64) (rI .i64)))) r562.1 A564 c565 51)] [] := h1127 [] (by simp) List.Pairwise.nil
                      refine (Rf.asB ?_)
                      exact J1129h (!r1124) _ (C1128.sub (List.Sublist.cons _ (List.Sublist.cons _ (List.Sublist.cons_cons _ List.Sublist.slnil))) (List.Sublist.cons _ (List.Sublist.cons _ (List.Sublist.cons_cons _ List.Sublist.slnil))) (List.Sublist.refl _))
            clear hJ557 hJ557'
            refine Rf.ldI (C545.at m2 rfl) ?_
            refine Rf.ite ?_ ?_
            · refine Rf.ldI (C545.at m0 rfl) ?_
              refine Rf.ite ?_ ?_
              · exact J557h true _ (C545.sub (List.Sublist.cons _ (List.Sublist.cons_cons _ (List.Sublist.cons_cons _ List.Sublist.slnil))) (List.Sublist.cons _ (List.Sublist.cons _ List.Sublist.slnil)) (List.Sublist.refl _))
              · refine Rf.call0 C545 (t12 n p0 r530.1 s544 (C545.sr0 rfl h0) (C545.srB m0)) ?_
                rintro r552 _ s553 rfl h555
                have C556 : Cx s0.next [] [] s0 s553 [(s531.next, AObj.box 24 [(Value.int .i64 r530.2.1), (Value.int .i64 r530.2.2)]), (s18.next, AObj.box 24 [(Value.int .i64 r508.1), (Value.int .i64 r508.2)]), (s2.next, AObj.box 24 [(Value.int .i64 r1.2.1), (Value.int .i64 r1.2.2)])] [(On.mk (rI .u8) r530.1 A532 c533 5), (On.mk (rP (rI .i64) (rI .i64)) r1.1 A3 c4 38)] [] := h555 [] (by simp) List.Pairwise.nil
                refine (Rf.asB ?_)
                exact J557h (!r552) _ (C556.sub (List.Sublist.cons _ (List.Sublist.cons_cons _ (List.Sublist.cons_cons _ List.Sublist.slnil))) (List.Sublist.cons _ (List.Sublist.cons _ List.Sublist.slnil)) (List.Sublist.refl _))
            · exact J557h false _ (C545.sub (List.Sublist.cons _ (List.Sublist.cons_cons _ (List.Sublist.cons_cons _ List.Sublist.slnil))) (List.Sublist.cons _ (List.Sublist.cons _ List.Sublist.slnil)) (List.Sublist.refl _))
        clear hJ525 hJ525'
        refine Rf.ldI (C515.at m3 rfl) ?_
        refine Rf.ldI (C515.at m3 rfl) ?_
        refine Rf.ldI (C515.at m2 rfl) ?_
        refine Rf.ldI (C515.at m2 rfl) ?_
        refine Rf.ite ?_ ?_
        · exact J525h true _ (C515.sub (List.Sublist.cons _ (List.Sublist.cons _ (List.Sublist.cons_cons _ (List.Sublist.cons_cons _ List.Sublist.slnil)))) (List.Sublist.cons _ (List.Sublist.cons _ (List.Sublist.cons_cons _ List.Sublist.slnil))) (List.Sublist.refl _))
        · refine Rf.call0 C515 (t15 n r1.1 ([] : (List (Int × Int))) s514 (C515.srB m2) Sr.nil) ?_
          rintro r520 _ s521 rfl h523
          have C524 : Cx s0.next [] [] s0 s521 [(s492.next, AObj.box 24 [(Value.int .i64 r491.1), (Value.int .i64 r491.2)]), (s30.next, AObj.box 38 [(Value.int .i64 t303.2.1), (Value.int .i64 t303.2.2.1)]), (s18.next, AObj.box 24 [(Value.int .i64 r508.1), (Value.int .i64 r508.2)]), (s2.next, AObj.box 24 [(Value.int .i64 r1.2.1), (Value.int .i64 r1.2.2)])] [(On.mk (rP (rI .i64) (rI .i64)) t303.1 A297 c298 38), (On.mk (rL (rI .i64)) r17.1 A19 c20 39), (On.mk (rP (rI .i64) (rI .i64)) r1.1 A3 c4 38)] [] := h523 [] (by simp) List.Pairwise.nil
          refine (Rf.asB ?_)
          exact J525h (!r520) _ (C524.sub (List.Sublist.cons _ (List.Sublist.cons _ (List.Sublist.cons_cons _ (List.Sublist.cons_cons _ List.Sublist.slnil)))) (List.Sublist.cons _ (List.Sublist.cons _ (List.Sublist.cons_cons _ List.Sublist.slnil))) (List.Sublist.refl _))
      · refine Rf.pj fun J1221 J1221' hJ1221 hJ1221' => ?_
        have J1221h : ∀ (b1222 : Bool) (s1224 : St) (_ : Cx s0.next [] [] s0 s1224 [(s18.next, AObj.box 24 [(Value.int .i64 0), (Value.int .i64 0)]), (s2.next, AObj.box 24 [(Value.int .i64 r1.2.1), (Value.int .i64 r1.2.2)])] [(On.mk (rP (rI .i64) (rI .i64)) r1.1 A3 c4 38)] []), Rf (J1221 b1222) H Q (J1221' b1222 s1224) := by
          subst hJ1221
          subst hJ1221'
          intro b1222 s1224 C1225
          refine Rf.ite ?_ ?_
          · subst hH; subst hQ
            exact Rf.leaf fun _ => Ev.done (Rf.ret C1225 rfl)
          · refine Rf.call0 C1225 (t8 n r1.1 s1224 (C1225.srB m0)) ?_
            rintro r1226 _ s1227 ⟨A1228, c1229, rfl, h1230⟩ h1235
            have C1236 : Cx s0.next [] [] s0 s1227 [(s18.next, AObj.box 24 [(Value.int .i64 0), (Value.int .i64 0)]), (s2.next, AObj.box 24 [(Value.int .i64 r1.2.1), (Value.int .i64 r1.2.2)])] [(On.mk (rI .u8) r1226.1 A1228 c1229 5), (On.mk (rP (rI .i64) (rI .i64)) r1.1 A3 c4 38)] [] := h1235 [(On.mk (rI .u8) r1226.1 A1228 c1229 5)] (by simpa using h1230) (List.pairwise_singleton _ _)
            refine (Rf.asTup (Rf.unc (Rf.asSl (Rf.unc (Rf.asAgg (Rf.unc (Rf.asI (Rf.unc (Rf.asI (Rf.unn (Rf.unn ?_)))))))))))
            refine Rf.new C1236 fun s1237 (C1238 : Cx s0.next [] [] s0 s1237 [(s1227.next, AObj.box 24 [(Value.int .i64 0), (Value.int .i64 0)]), (s18.next, AObj.box 24 [(Value.int .i64 0), (Value.int .i64 0)]), (s2.next, AObj.box 24 [(Value.int .i64 r1.2.1), (Value.int .i64 r1.2.2)])] [(On.mk (rI .u8) r1226.1 A1228 c1229 5), (On.mk (rP (rI .i64) (rI .i64)) r1.1 A3 c4 38)] []) => ?_
            refine Rf.sto 0 C1238 rfl (by simp) rfl fun s1240 (C1241 : Cx s0.next [] [] s0 s1240 [(s1227.next, AObj.box 24 [(Value.int .i64 r1226.2.1), (Value.int .i64 r1226.2.2)]), (s18.next, AObj.box 24 [(Value.int .i64 0), (Value.int .i64 0)]), (s2.next, AObj.box 24 [(Value.int .i64 r1.2.1), (Value.int .i64 r1.2.2)])] [(On.mk (rI .u8) r1226.1 A1228 c1229 5), (On.mk (rP (rI .i64) (rI .i64)) r1.1 A3 c4 38)] []) => ?_
            refine Rf.pj fun J1253 J1253' hJ1253 hJ1253' => ?_
            have J1253h : ∀ (b1254 : Bool) (s1256 : St) (_ : Cx s0.next [] [] s0 s1256 [(s18.next, AObj.box 24 [(Value.int .i64 0), (Value.int .i64 0)]), (s2.next, AObj.box 24 [(Value.int .i64 r1.2.1), (Value.int .i64 r1.2.2)])] [] []), Rf (J1253 b1254) H Q (J1253' b1254 s1256) := by
              subst hJ1253
              subst hJ1253'
              intro b1254 s1256 C1257
              refine Rf.ite ?_ ?_
              · subst hH; subst hQ
                exact Rf.leaf fun _ => Ev.done (Rf.ret C1257 rfl)
              · refine Rf.call0 C1257 (t18 n p0 s1256 (C1257.sr0 rfl h0)) ?_
                rintro r1258 _ s1259 ⟨A1260, c1261, rfl, h1262⟩ h1267
                have C1268 : Cx s0.next [] [] s0 s1259 [(s18.next, AObj.box 24 [(Value.int .i64 0), (Value.int .i64 0)]), (s2.next, AObj.box 24 [(Value.int .i64 r1.2.1), (Value.int .i64 r1.2.2)])] [(On.mk (rP (rI .i64) (rP (rI .i64) (rP (rI .i64) (rI .i64)))) r1258.1 A1260 c1261 51)] [] := h1267 [(On.mk (rP (rI .i64) (rP (rI .i64) (rP (rI .i64) (rI .i64)))) r1258.1 A1260 c1261 51)] (by simpa using h1262) (List.pairwise_singleton _ _)
                refine (Rf.asTup (Rf.unc (Rf.asSl (Rf.unc (Rf.asAgg (Rf.unc (Rf.asI (Rf.unc (Rf.asI (Rf.unn (Rf.unn ?_)))))))))))
                refine Rf.sto 1 C1268 rfl (by simp) rfl fun s1269 (C1270 : Cx s0.next [] [] s0 s1269 [(s18.next, AObj.box 24 [(Value.int .i64 0), (Value.int .i64 0)]), (s2.next, AObj.box 24 [(Value.int .i64 r1258.2.1), (Value.int .i64 r1258.2.2)])] [(On.mk (rP (rI .i64) (rP (rI .i64) (rP (rI .i64) (rI .i64)))) r1258.1 A1260 c1261 51)] []) => ?_
                refine Rf.call0 C1270 (t16 n p0 4 s1269 (C1270.sr0 rfl h0)) ?_
                rintro r1271 _ s1272 ⟨A1273, c1274, rfl, h1275⟩ h1279
                have C1280 : Cx s0.next [] [] s0 s1272 [(s18.next, AObj.box 24 [(Value.int .i64 0), (Value.int .i64 0)]), (s2.next, AObj.box 24 [(Value.int .i64 r1258.2.1), (Value.int .i64 r1258.2.2)])] [(On.mk (rL (rI .i64)) r1271.1 A1273 c1274 39), (On.mk (rP (rI .i64) (rP (rI .i64) (rP (rI .i64) (rI .i64)))) r1258.1 A1260 c1261 51)] [] := h1279 [(On.mk (rL (rI .i64)) r1271.1 A1273 c1274 39)] (by simpa using h1275) (List.pairwise_singleton _ _)
                refine (Rf.asTup (Rf.unc (Rf.asSl (Rf.unc (Rf.asI (Rf.unn ?_))))))
                refine Rf.sto 0 C1280 rfl (by simp) rfl fun s1281 (C1282 : Cx s0.next [] [] s0 s1281 [(s18.next, AObj.box 24 [(Value.int .i64 0), (Value.int .i64 0)]), (s2.next, AObj.box 24 [(Value.int .i64 r1258.2.1), (Value.int .i64 r1258.2.2)])] [(On.mk (rL (rI .i64)) r1271.1 A1273 c1274 39), (On.mk (rP (rI .i64) (rP (rI .i64) (rP (rI .i64) (rI .i64)))) r1258.1 A1260 c1261 51)] []) => ?_
                refine Rf.ite ?_ ?_
                · refine Rf.call0 C1282 (t10 n 16 r1271.2 s1281) ?_
                  rintro r1283 _ s1284 rfl h1287
                  have C1288 : Cx s0.next [] [] s0 s1284 [(s18.next, AObj.box 24 [(Value.int .i64 0), (Value.int .i64 0)]), (s2.next, AObj.box 24 [(Value.int .i64 r1258.2.1), (Value.int .i64 r1258.2.2)])] [(On.mk (rL (rI .i64)) r1271.1 A1273 c1274 39), (On.mk (rP (rI .i64) (rP (rI .i64) (rP (rI .i64) (rI .i64)))) r1258.1 A1260 c1261 51)] [] := h1287 [] (by simp) List.Pairwise.nil
                  refine (Rf.asAgg (Rf.unc (Rf.asI (Rf.unc (Rf.asI (Rf.unn ?_))))))
                  refine Rf.sto 0 C1288 rfl (by simp) rfl fun s1289 (C1290 : Cx s0.next [] [] s0 s1289 [(s18.next, AObj.box 24 [(Value.int .i64 r1283.1), (Value.int .i64 r1283.2)]), (s2.next, AObj.box 24 [(Value.int .i64 r1258.2.1), (Value.int .i64 r1258.2.2)])] [(On.mk (rL (rI .i64)) r1271.1 A1273 c1274 39), (On.mk (rP (rI .i64) (rP (rI .i64) (rP (rI .i64) (rI .i64)))) r1258.1 A1260 c1261 51)] []) => ?_
                  refine Rf.pj fun J1871 J1871' hJ1871 hJ1871' => ?_
                  have J1871h : ∀ (b1872 : Bool) (s1874 : St) (_ : Cx s0.next [] [] s0 s1874 [(s2.next, AObj.box 24 [(Value.int .i64 r1258.2.1), (Value.int .i64 r1258.2.2)])] [(On.mk (rP (rI .i64) (rP (rI .i64) (rP (rI .i64) (rI .i64)))) r1258.1 A1260 c1261 51)] []), Rf (J1871 b1872) H Q (J1871' b1872 s1874) := by
                    subst hJ1871
                    subst hJ1871'
                    intro b1872 s1874 C1875
                    refine Rf.ite ?_ ?_
                    · subst hH; subst hQ
                      exact Rf.leaf fun _ => Ev.done (Rf.ret C1875 rfl)
                    · refine Rf.call0 C1875 (t21 n r1258.1 s1874 (C1875.srB m0)) ?_
                      rintro r1876 _ s1877 ⟨A1878, c1879, rfl, h1880⟩ h1885
                      have C1886 : Cx s0.next [] [] s0 s1877 [(s2.next, AObj.box 24 [(Value.int .i64 r1258.2.1), (Value.int .i64 r1258.2.2)])] [(On.mk (rI .u8) r1876.1 A1878 c1879 5), (On.mk (rP (rI .i64) (rP (rI .i64) (rP (rI .i64) (rI .i64)))) r1258.1 A1260 c1261 51)] [] := h1885 [(On.mk (rI .u8) r1876.1 A1878 c1879 5)] (by simpa using h1880) (List.pairwise_singleton _ _)
                      refine (Rf.asTup (Rf.unc (Rf.asSl (Rf.unc (Rf.asAgg (Rf.unc (Rf.asI (Rf.unc (Rf.asI (Rf.unn (Rf.unn ?_)))))))))))
                      refine Rf.new C1886 fun s1887 (C1888 : Cx s0.next [] [] s0 s1887 [(s1877.next, AObj.box 24 [(Value.int .i64 0), (Value.int .i64 0)]), (s2.next, AObj.box 24 [(Value.int .i64 r1258.2.1), (Value.int .i64 r1258.2.2)])] [(On.mk (rI .u8) r1876.1 A1878 c1879 5), (On.mk (rP (rI .i64) (rP (rI .i64) (rP (rI .i64) (rI .i64)))) r1258.1 A1260 c1261 51)] []) => ?_
                      refine Rf.sto 0 C1888 rfl (by simp) rfl fun s1890 (C1891 : Cx s0.next [] [] s0 s1890 [(s1877.next, AObj.box 24 [(Value.int .i64 r1876.2.1), (Value.int .i64 r1876.2.2)]), (s2.next, AObj.box 24 [(Value.int .i64 r1258.2.1), (Value.int .i64 r1258.2.2)])] [(On.mk (rI .u8) r1876.1 A1878 c1879 5), (On.mk (rP (rI .i64) (rP (rI .i64) (rP (rI .i64) (rI .i64)))) r1258.1 A1260 c1261 51)] []) => ?_
                      refine Rf.pj fun J1903 J1903' hJ1903 hJ1903' => ?_
                      have J1903h : ∀ (b1904 : Bool) (s1906 : St) (_ : Cx s0.next [] [] s0 s1906 [] [] []), Rf (J1903 b1904) H Q (J1903' b1904 s1906) := by
                        subst hJ1903
                        subst hJ1903'
                        intro b1904 s1906 C1907
                        subst hH; subst hQ
                        exact Rf.leaf fun _ => Ev.done (Rf.ret C1907 rfl)
                      clear hJ1903 hJ1903'
                      refine Rf.ldI (C1891.at m1 rfl) ?_
                      refine Rf.ite ?_ ?_
                      · exact J1903h true _ (C1891.sub (List.Sublist.cons _ (List.Sublist.cons _ List.Sublist.slnil)) (List.Sublist.cons _ (List.Sublist.cons _ List.Sublist.slnil)) (List.Sublist.refl _))
                      · refine Rf.ldI (C1891.at m0 rfl) ?_
                        refine Rf.ite ?_ ?_
                        · refine Rf.call0 C1891 (t12 n p0 r1876.1 s1890 (C1891.sr0 rfl h0) (C1891.srB m0)) ?_
                          rintro r1898 _ s1899 rfl h1901
                          have C1902 : Cx s0.next [] [] s0 s1899 [(s1877.next, AObj.box 24 [(Value.int .i64 r1876.2.1), (Value.int .i64 r1876.2.2)]), (s2.next, AObj.box 24 [(Value.int .i64 r1258.2.1), (Value.int .i64 r1258.2.2)])] [(On.mk (rI .u8) r1876.1 A1878 c1879 5), (On.mk (rP (rI .i64) (rP (rI .i64) (rP (rI .i64) (rI .i64)))) r1258.1 A1260 c1261 51)] [] := h1901 [] (by simp) List.Pairwise.nil
                          refine (Rf.asB ?_)
                          exact J1903h r1898 _ (C1902.sub (List.Sublist.cons _ (List.Sublist.cons _ List.Sublist.slnil)) (List.Sublist.cons _ (List.Sublist.cons _ List.Sublist.slnil)) (List.Sublist.refl _))
                        · exact J1903h false _ (C1891.sub (List.Sublist.cons _ (List.Sublist.cons _ List.Sublist.slnil)) (List.Sublist.cons _ (List.Sublist.cons _ List.Sublist.slnil)) (List.Sublist.refl _))
                  clear hJ1871 hJ1871'
                  refine Rf.ldI (C1290.at m1 rfl) ?_
                  refine Rf.ldI (C1290.at m1 rfl) ?_
                  refine Rf.ldI (C1290.at m0 rfl) ?_
                  refine Rf.ldI (C1290.at m0 rfl) ?_
                  refine Rf.ite ?_ ?_
                  · exact J1871h true _ (C1290.sub (List.Sublist.cons _ (List.Sublist.cons_cons _ List.Sublist.slnil)) (List.Sublist.cons _ (List.Sublist.cons_cons _ List.Sublist.slnil)) (List.Sublist.refl _))
                  · refine Rf.call0 C1290 (t20 n r1258.1 ([] : (List (Int × Int × Int × Int))) s1289 (C1290.srB m1) Sr.nil) ?_
                    rintro r1866 _ s1867 rfl h1869
                    have C1870 : Cx s0.next [] [] s0 s1867 [(s18.next, AObj.box 24 [(Value.int .i64 r1283.1), (Value.int .i64 r1283.2)]), (s2.next, AObj.box 24 [(Value.int .i64 r1258.2.1), (Value.int .i64 r1258.2.2)])] [(On.mk (rL (rI .i64)) r1271.1 A1273 c1274 39), (On.mk (rP (rI .i64) (rP (rI .i64) (rP (rI .i64) (rI .i64)))) r1258.1 A1260 c1261 51)] [] := h1869 [] (by simp) List.Pairwise.nil
                    refine (Rf.asB ?_)
                    exact J1871h (!r1866) _ (C1870.sub (List.Sublist.cons _ (List.Sublist.cons_cons _ List.Sublist.slnil)) (List.Sublist.cons _ (List.Sublist.cons_cons _ List.Sublist.slnil)) (List.Sublist.refl _))
                · have C1292 : Cx s0.next [] [] s0 s1281 [(s18.next, AObj.box 24 [(Value.int .i64 0), (Value.int .i64 0)]), (s2.next, AObj.box 24 [(Value.int .i64 r1258.2.1), (Value.int .i64 r1258.2.2)])] [(On.mk (rP (rI .i64) (rP (rI .i64) (rP (rI .i64) (rI .i64)))) ([] : List (Int × Int × Int × Int)) none 0 51), (On.mk (rL (rI .i64)) r1271.1 A1273 c1274 39), (On.mk (rP (rI .i64) (rP (rI .i64) (rP (rI .i64) (rI .i64)))) r1258.1 A1260 c1261 51)] [] := C1282.addNil (rP (rI .i64) (rP (rI .i64) (rP (rI .i64) (rI .i64)))) 51
                  refine Rf.loop (Inv := Inv4_3 s0 p0 A0 c0 h0 A1260 A1273 c1261 c1274 s18.next s2.next r1258 r1271) (Ex := Ex4_3 s0 p0 A0 c0 h0 A1260 A1273 c1261 c1274 s18.next s2.next r1258 r1271) (x4_3 s0 p0 A0 c0 h0 A1260 A1273 c1261 c1274 s18.next s2.next r1258 r1271) (fun t g s K Q h => b4_3 n s0 p0 A0 c0 h0 A1260 A1273 c1261 c1274 s18.next s2.next r1258 r1271 t g s K Q h) n _ _ _ ⟨_, _, rfl, (C1292.sub (List.Sublist.refl _) (List.Sublist.refl _) (List.Sublist.refl _))⟩ ?_
                  intro t1557 e g s1743 h
                  obtain ⟨A1552, c1553, rfl, rfl, C1744⟩ := h
                  rw [e4_after1_exit2 n]
                  refine Rf.call0 C1744 (t19 n t1557.1 s1743 (C1744.srB m0)) ?_
                  rintro r1745 _ s1746 rfl h1749
                  have C1750 : Cx s0.next [] [] s0 s1746 [(s18.next, AObj.box 24 [(Value.int .i64 0), (Value.int .i64 0)]), (s2.next, AObj.box 24 [(Value.int .i64 r1258.2.1), (Value.int .i64 r1258.2.2)])] [(On.mk (rP (rI .i64) (rP (rI .i64) (rP (rI .i64) (rI .i64)))) t1557.1 A1552 c1553 51), (On.mk (rL (rI .i64)) r1271.1 A1273 c1274 39), (On.mk (rP (rI .i64) (rP (rI .i64) (rP (rI .i64) (rI .i64)))) r1258.1 A1260 c1261 51)] [] := h1749 [] (by simp) List.Pairwise.nil
                  refine (Rf.asAgg (Rf.unc (Rf.asI (Rf.unc (Rf.asI (Rf.unn ?_))))))
                  refine Rf.new C1750 fun s1751 (C1752 : Cx s0.next [] [] s0 s1751 [(s1746.next, AObj.box 24 [(Value.int .i64 0), (Value.int .i64 0)]), (s18.next, AObj.box 24 [(Value.int .i64 0), (Value.int .i64 0)]), (s2.next, AObj.box 24 [(Value.int .i64 r1258.2.1), (Value.int .i64 r1258.2.2)])] [(On.mk (rP (rI .i64) (rP (rI .i64) (rP (rI .i64) (rI .i64)))) t1557.1 A1552 c1553 51), (On.mk (rL (rI .i64)) r1271.1 A1273 c1274 39), (On.mk (rP (rI .i64) (rP (rI .i64) (rP (rI .i64) (rI .i64)))) r1258.1 A1260 c1261 51)] []) => ?_
                  refine Rf.sto 0 C1752 rfl (by simp) rfl fun s1754 (C1755 : Cx s0.next [] [] s0 s1754 [(s1746.next, AObj.box 24 [(Value.int .i64 r1745.1), (Value.int .i64 r1745.2)]), (s18.next, AObj.box 24 [(Value.int .i64 0), (Value.int .i64 0)]), (s2.next, AObj.box 24 [(Value.int .i64 r1258.2.1), (Value.int .i64 r1258.2.2)])] [(On.mk (rP (rI .i64) (rP (rI .i64) (rP (rI .i64) (rI .i64)))) t1557.1 A1552 c1553 51), (On.mk (rL (rI .i64)) r1271.1 A1273 c1274 39), (On.mk (rP (rI .i64) (rP (rI .i64) (rP (rI .i64) (rI .i64)))) r1258.1 A1260 c1261 51)] []) => ?_
                  refine Rf.ldI (C1755.at m0 rfl) ?_
                  refine Rf.ite ?_ ?_
                  · refine Rf.ldI (C1755.at m0 rfl) ?_
                    refine Rf.call0 C1755 (t10 n r1745.1 (-1) s1754) ?_
                    rintro r1762 _ s1763 rfl h1766
                    have C1767 : Cx s0.next [] [] s0 s1763 [(s1746.next, AObj.box 24 [(Value.int .i64 r1745.1), (Value.int .i64 r1745.2)]), (s18.next, AObj.box 24 [(Value.int .i64 0), (Value.int .i64 0)]), (s2.next, AObj.box 24 [(Value.int .i64 r1258.2.1), (Value.int .i64 r1258.2.2)])] [(On.mk (rP (rI .i64) (rP (rI .i64) (rP (rI .i64) (rI .i64)))) t1557.1 A1552 c1553 51), (On.mk (rL (rI .i64)) r1271.1 A1273 c1274 39), (On.mk (rP (rI .i64) (rP (rI .i64) (rP (rI .i64) (rI .i64)))) r1258.1 A1260 c1261 51)] [] := h1766 [] (by simp) List.Pairwise.nil
                    refine (Rf.asAgg (Rf.unc (Rf.asI (Rf.unc (Rf.asI (Rf.unn ?_))))))
                    refine Rf.sto 1 C1767 rfl (by simp) rfl fun s1768 (C1769 : Cx s0.next [] [] s0 s1768 [(s1746.next, AObj.box 24 [(Value.int .i64 r1745.1), (Value.int .i64 r1745.2)]), (s18.next, AObj.box 24 [(Value.int .i64 r1762.1), (Value.int .i64 r1762.2)]), (s2.next, AObj.box 24 [(Value.int .i64 r1258.2.1), (Value.int .i64 r1258.2.2)])] [(On.mk (rP (rI .i64) (rP (rI .i64) (rP (rI .i64) (rI .i64)))) t1557.1 A1552 c1553 51), (On.mk (rL (rI .i64)) r1271.1 A1273 c1274 39), (On.mk (rP (rI .i64) (rP (rI .i64) (rP (rI .i64) (rI .i64)))) r1258.1 A1260 c1261 51)] []) => ?_
                    refine Rf.pj fun J1779 J1779' hJ1779 hJ1779' => ?_
                    have J1779h : ∀ (b1780 : Bool) (s1782 : St) (_ : Cx s0.next [] [] s0 s1782 [(s2.next, AObj.box 24 [(Value.int .i64 r1258.2.1), (Value.int .i64 r1258.2.2)])] [(On.mk (rP (rI .i64) (rP (rI .i64) (rP (rI .i64) (rI .i64)))) r1258.1 A1260 c1261 51)] []), Rf (J1779 b1780) H Q (J1779' b1780 s1782) := by
                      subst hJ1779
                      subst hJ1779'
                      intro b1780 s1782 C1783
                      refine Rf.ite ?_ ?_
                      · subst hH; subst hQ
                        exact Rf.leaf fun _ => Ev.done (Rf.ret C1783 rfl)
                      · refine Rf.call0 C1783 (t21 n r1258.1 s1782 (C1783.srB m0)) ?_
                        rintro r1784 _ s1785 ⟨A1786, c1787, rfl, h1788⟩ h1793
                        have C1794 : Cx s0.next [] [] s0 s1785 [(s2.next, AObj.box 24 [(Value.int .i64 r1258.2.1), (Value.int .i64 r1258.2.2)])] [(On.mk (rI .u8) r1784.1 A1786 c1787 5), (On.mk (rP (rI .i64) (rP (rI .i64) (rP (rI .i64) (rI .i64)))) r1258.1 A1260 c1261 51)] [] := h1793 [(On.mk (rI .u8) r1784.1 A1786 c1787 5)] (by simpa using h1788) (List.pairwise_singleton _ _)
                        refine (Rf.asTup (Rf.unc (Rf.asSl (Rf.unc (Rf.asAgg (Rf.unc (Rf.asI (Rf.unc (Rf.asI (Rf.unn (Rf.unn ?_)))))))))))
                        refine Rf.new C1794 fun s1795 (C1796 : Cx s0.next [] [] s0 s1795 [(s1785.next, AObj.box 24 [(Value.int .i64 0), (Value.int .i64 0)]), (s2.next, AObj.box 24 [(Value.int .i64 r1258.2.1), (Value.int .i64 r1258.2.2)])] [(On.mk (rI .u8) r1784.1 A1786 c1787 5), (On.mk (rP (rI .i64) (rP (rI .i64) (rP (rI .i64) (rI .i64)))) r1258.1 A1260 c1261 51)] []) => ?_
                        refine Rf.sto 0 C1796 rfl (by simp) rfl fun s1798 (C1799 : Cx s0.next [] [] s0 s1798 [(s1785.next, AObj.box 24 [(Value.int .i64 r1784.2.1), (Value.int .i64 r1784.2.2)]), (s2.next, AObj.box 24 [(Value.int .i64 r1258.2.1), (Value.int .i64 r1258.2.2)])] [(On.mk (rI .u8) r1784.1 A1786 c1787 5), (On.mk (rP (rI .i64) (rP (rI .i64) (rP (rI .i64) (rI .i64)))) r1258.1 A1260 c1261 51)] []) => ?_
                        refine Rf.pj fun J1811 J1811' hJ1811 hJ1811' => ?_
                        have J1811h : ∀ (b1812 : Bool) (s1814 : St) (_ : Cx s0.next [] [] s0 s1814 [] [] []), Rf (J1811 b1812) H Q (J1811' b1812 s1814) := by
                          subst hJ1811
                          subst hJ1811'
                          intro b1812 s1814 C1815
                          subst hH; subst hQ
                          exact Rf.leaf fun _ => Ev.done (Rf.ret C1815 rfl)
                        clear hJ1811 hJ1811'
                        refine Rf.ldI (C1799.at m1 rfl) ?_
                        refine Rf.ite ?_ ?_
                        · exact J1811h true _ (C1799.sub (List.Sublist.cons _ (List.Sublist.cons _ List.Sublist.slnil)) (List.Sublist.cons _ (List.Sublist.cons _ List.Sublist.slnil)) (List.Sublist.refl _))
                        · refine Rf.ldI (C1799.at m0 rfl) ?_
                          refine Rf.ite ?_ ?_
                          · refine Rf.call0 C1799 (t12 n p0 r1784.1 s1798 (C1799.sr0 rfl h0) (C1799.srB m0)) ?_
                            rintro r1806 _ s1807 rfl h1809
                            have C1810 : Cx s0.next [] [] s0 s1807 [(s1785.next, AObj.box 24 [(Value.int .i64 r1784.2.1), (Value.int .i64 r1784.2.2)]), (s2.next, AObj.box 24 [(Value.int .i64 r1258.2.1), (Value.int .i64 r1258.2.2)])] [(On.mk (rI .u8) r1784.1 A1786 c1787 5), (On.mk (rP (rI .i64) (rP (rI .i64) (rP (rI .i64) (rI .i64)))) r1258.1 A1260 c1261 51)] [] := h1809 [] (by simp) List.Pairwise.nil
                            refine (Rf.asB ?_)
                            exact J1811h r1806 _ (C1810.sub (List.Sublist.cons _ (List.Sublist.cons _ List.Sublist.slnil)) (List.Sublist.cons _ (List.Sublist.cons _ List.Sublist.slnil)) (List.Sublist.refl _))
                          · exact J1811h false _ (C1799.sub (List.Sublist.cons _ (List.Sublist.cons _ List.Sublist.slnil)) (List.Sublist.cons _ (List.Sublist.cons _ List.Sublist.slnil)) (List.Sublist.refl _))
                    clear hJ1779 hJ1779'
                    refine Rf.ldI (C1769.at m2 rfl) ?_
                    refine Rf.ldI (C1769.at m2 rfl) ?_
                    refine Rf.ldI (C1769.at m1 rfl) ?_
                    refine Rf.ldI (C1769.at m1 rfl) ?_
                    refine Rf.ite ?_ ?_
                    · exact J1779h true _ (C1769.sub (List.Sublist.cons _ (List.Sublist.cons _ (List.Sublist.cons_cons _ List.Sublist.slnil))) (List.Sublist.cons _ (List.Sublist.cons _ (List.Sublist.cons_cons _ List.Sublist.slnil))) (List.Sublist.refl _))
                    · refine Rf.call0 C1769 (t20 n r1258.1 ([] : (List (Int × Int × Int × Int))) s1768 (C1769.srB m2) Sr.nil) ?_
                      rintro r1774 _ s1775 rfl h1777
                      have C1778 : Cx s0.next [] [] s0 s1775 [(s1746.next, AObj.box 24 [(Value.int .i64 r1745.1), (Value.int .i64 r1745.2)]), (s18.next, AObj.box 24 [(Value.int .i64 r1762.1), (Value.int .i64 r1762.2)]), (s2.next, AObj.box 24 [(Value.int .i64 r1258.2.1), (Value.int .i64 r1258.2.2)])] [(On.mk (rP (rI .i64) (rP (rI .i64) (rP (rI .i64) (rI .i64)))) t1557.1 A1552 c1553 51), (On.mk (rL (rI .i64)) r1271.1 A1273 c1274 39), (On.mk (rP (rI .i64) (rP (rI .i64) (rP (rI .i64) (rI .i64)))) r1258.1 A1260 c1261 51)] [] := h1777 [] (by simp) List.Pairwise.nil
                      refine (Rf.asB ?_)
                      exact J1779h (!r1774) _ (C1778.sub (List.Sublist.cons _ (List.Sublist.cons _ (List.Sublist.cons_cons _ List.Sublist.slnil))) (List.Sublist.cons _ (List.Sublist.cons _ (List.Sublist.cons_cons _ List.Sublist.slnil))) (List.Sublist.refl _))
                  · refine Rf.pj fun J1825 J1825' hJ1825 hJ1825' => ?_
                    have J1825h : ∀ (b1826 : Bool) (s1828 : St) (_ : Cx s0.next [] [] s0 s1828 [(s2.next, AObj.box 24 [(Value.int .i64 r1258.2.1), (Value.int .i64 r1258.2.2)])] [(On.mk (rP (rI .i64) (rP (rI .i64) (rP (rI .i64) (rI .i64)))) r1258.1 A1260 c1261 51)] []), Rf (J1825 b1826) H Q (J1825' b1826 s1828) := by
                      subst hJ1825
                      subst hJ1825'
                      intro b1826 s1828 C1829
                      refine Rf.ite ?_ ?_
                      · subst hH; subst hQ
                        exact Rf.leaf fun _ => Ev.done (Rf.ret C1829 rfl)
                      · refine Rf.call0 C1829 (t21 n r1258.1 s1828 (C1829.srB m0)) ?_
                        rintro r1830 _ s1831 ⟨A1832, c1833, rfl, h1834⟩ h1839
                        have C1840 : Cx s0.next [] [] s0 s1831 [(s2.next, AObj.box 24 [(Value.int .i64 r1258.2.1), (Value.int .i64 r1258.2.2)])] [(On.mk (rI .u8) r1830.1 A1832 c1833 5), (On.mk (rP (rI .i64) (rP (rI .i64) (rP (rI .i64) (rI .i64)))) r1258.1 A1260 c1261 51)] [] := h1839 [(On.mk (rI .u8) r1830.1 A1832 c1833 5)] (by simpa using h1834) (List.pairwise_singleton _ _)
                        refine (Rf.asTup (Rf.unc (Rf.asSl (Rf.unc (Rf.asAgg (Rf.unc (Rf.asI (Rf.unc (Rf.asI (Rf.unn (Rf.unn ?_)))))))))))
                        refine Rf.new C1840 fun s1841 (C1842 : Cx s0.next [] [] s0 s1841 [(s1831.next, AObj.box 24 [(Value.int .i64 0), (Value.int .i64 0)]), (s2.next, AObj.box 24 [(Value.int .i64 r1258.2.1), (Value.int .i64 r1258.2.2)])] [(On.mk (rI .u8) r1830.1 A1832 c1833 5), (On.mk (rP (rI .i64) (rP (rI .i64) (rP (rI .i64) (rI .i64)))) r1258.1 A1260 c1261 51)] []) => ?_
                        refine Rf.sto 0 C1842 rfl (by simp) rfl fun s1844 (C1845 : Cx s0.next [] [] s0 s1844 [(s1831.next, AObj.box 24 [(Value.int .i64 r1830.2.1), (Value.int .i64 r1830.2.2)]), (s2.next, AObj.box 24 [(Value.int .i64 r1258.2.1), (Value.int .i64 r1258.2.2)])] [(On.mk (rI .u8) r1830.1 A1832 c1833 5), (On.mk (rP (rI .i64) (rP (rI .i64) (rP (rI .i64) (rI .i64)))) r1258.1 A1260 c1261 51)] []) => ?_
                        refine Rf.pj fun J1857 J1857' hJ1857 hJ1857' => ?_
                        have J1857h : ∀ (b1858 : Bool) (s1860 : St) (_ : Cx s0.next [] [] s0 s1860 [] [] []), Rf (J1857 b1858) H Q (J1857' b1858 s1860) := by
                          subst hJ1857
                          subst hJ1857'
                          intro b1858 s1860 C1861
                          subst hH; subst hQ
                          exact Rf.leaf fun _ => Ev.done (Rf.ret C1861 rfl)
                        clear hJ1857 hJ1857'
                        refine Rf.ldI (C1845.at m1 rfl) ?_
                        refine Rf.ite ?_ ?_
                        · exact J1857h true _ (C1845.sub (List.Sublist.cons _ (List.Sublist.cons _ List.Sublist.slnil)) (List.Sublist.cons _ (List.Sublist.cons _ List.Sublist.slnil)) (List.Sublist.refl _))
                        · refine Rf.ldI (C1845.at m0 rfl) ?_
                          refine Rf.ite ?_ ?_
                          · refine Rf.call0 C1845 (t12 n p0 r1830.1 s1844 (C1845.sr0 rfl h0) (C1845.srB m0)) ?_
                            rintro r1852 _ s1853 rfl h1855
                            have C1856 : Cx s0.next [] [] s0 s1853 [(s1831.next, AObj.box 24 [(Value.int .i64 r1830.2.1), (Value.int .i64 r1830.2.2)]), (s2.next, AObj.box 24 [(Value.int .i64 r1258.2.1), (Value.int .i64 r1258.2.2)])] [(On.mk (rI .u8) r1830.1 A1832 c1833 5), (On.mk (rP (rI .i64) (rP (rI .i64) (rP (rI .i64) (rI .i64)))) r1258.1 A1260 c1261 51)] [] := h1855 [] (by simp) List.Pairwise.nil
                            refine (Rf.asB ?_)
                            exact J1857h r1852 _ (C1856.sub (List.Sublist.cons _ (List.Sublist.cons _ List.Sublist.slnil)) (List.Sublist.cons _ (List.Sublist.cons _ List.Sublist.slnil)) (List.Sublist.refl _))
                          · exact J1857h false _ (C1845.sub (List.Sublist.cons _ (List.Sublist.cons _ List.Sublist.slnil)) (List.Sublist.cons _ (List.Sublist.cons _ List.Sublist.slnil)) (List.Sublist.refl _))
                    clear hJ1825 hJ1825'
                    refine Rf.ldI (C1755.at m2 rfl) ?_
                    refine Rf.ldI (C1755.at m2 rfl) ?_
                    refine Rf.ldI (C1755.at m1 rfl) ?_
                    refine Rf.ldI (C1755.at m1 rfl) ?_
                    refine Rf.ite ?_ ?_
                    · exact J1825h true _ (C1755.sub (List.Sublist.cons _ (List.Sublist.cons _ (List.Sublist.cons_cons _ List.Sublist.slnil))) (List.Sublist.cons _ (List.Sublist.cons _ (List.Sublist.cons_cons _ List.Sublist.slnil))) (List.Sublist.refl _))
                    · refine Rf.call0 C1755 (t20 n r1258.1 t1557.1 s1754 (C1755.srB m2) (C1755.srB m0)) ?_
                      rintro r1820 _ s1821 rfl h1823
                      have C1824 : Cx s0.next [] [] s0 s1821 [(s1746.next, AObj.box 24 [(Value.int .i64 r1745.1), (Value.int .i64 r1745.2)]), (s18.next, AObj.box 24 [(Value.int .i64 0), (Value.int .i64 0)]), (s2.next, AObj.box 24 [(Value.int .i64 r1258.2.1), (Value.int .i64 r1258.2.2)])] [(On.mk (rP (rI .i64) (rP (rI .i64) (rP (rI .i64) (rI .i64)))) t1557.1 A1552 c1553 51), (On.mk (rL (rI .i64)) r1271.1 A1273 c1274 39), (On.mk (rP (rI .i64) (rP (rI .i64) (rP (rI .i64) (rI .i64)))) r1258.1 A1260 c1261 51)] [] := h1823 [] (by simp) List.Pairwise.nil
                      refine (Rf.asB ?_)
                      exact J1825h (!r1820) _ (C1824.sub (List.Sublist.cons _ (List.Sublist.cons _ (List.Sublist.cons_cons _ List.Sublist.slnil))) (List.Sublist.cons _ (List.Sublist.cons _ (List.Sublist.cons_cons _ List.Sublist.slnil))) (List.Sublist.refl _))
            clear hJ1253 hJ1253'
            refine Rf.ldI (C1241.at m2 rfl) ?_
            refine Rf.ite ?_ ?_
            · refine Rf.ldI (C1241.at m0 rfl) ?_
              refine Rf.ite ?_ ?_
              · exact J1253h true _ (C1241.sub (List.Sublist.cons _ (List.Sublist.cons_cons _ (List.Sublist.cons_cons _ List.Sublist.slnil))) (List.Sublist.cons _ (List.Sublist.cons _ List.Sublist.slnil)) (List.Sublist.refl _))
              · refine Rf.call0 C1241 (t12 n p0 r1226.1 s1240 (C1241.sr0 rfl h0) (C1241.srB m0)) ?_
                rintro r1248 _ s1249 rfl h1251
                have C1252 : Cx s0.next [] [] s0 s1249 [(s1227.next, AObj.box 24 [(Value.int .i64 r1226.2.1), (Value.int .i64 r1226.2.2)]), (s18.next, AObj.box 24 [(Value.int .i64 0), (Value.int .i64 0)]), (s2.next, AObj.box 24 [(Value.int .i64 r1.2.1), (Value.int .i64 r1.2.2)])] [(On.mk (rI .u8) r1226.1 A1228 c1229 5), (On.mk (rP (rI .i64) (rI .i64)) r1.1 A3 c4 38)] [] := h1251 [] (by simp) List.Pairwise.nil
                refine (Rf.asB ?_)
                exact J1253h (!r1248) _ (C1252.sub (List.Sublist.cons _ (List.Sublist.cons_cons _ (List.Sublist.cons_cons _ List.Sublist.slnil))) (List.Sublist.cons _ (List.Sublist.cons _ List.Sublist.slnil)) (List.Sublist.refl _))
            · exact J1253h false _ (C1241.sub (List.Sublist.cons _ (List.Sublist.cons_cons _ (List.Sublist.cons_cons _ List.Sublist.slnil))) (List.Sublist.cons _ (List.Sublist.cons _ List.Sublist.slnil)) (List.Sublist.refl _))
        clear hJ1221 hJ1221'
        refine Rf.ldI (C501.at m3 rfl) ?_
        refine Rf.ldI (C501.at m3 rfl) ?_
        refine Rf.ldI (C501.at m2 rfl) ?_
        refine Rf.ldI (C501.at m2 rfl) ?_
        refine Rf.ite ?_ ?_
        · exact J1221h true _ (C501.sub (List.Sublist.cons _ (List.Sublist.cons _ (List.Sublist.cons_cons _ (List.Sublist.cons_cons _ List.Sublist.slnil)))) (List.Sublist.cons _ (List.Sublist.cons _ (List.Sublist.cons_cons _ List.Sublist.slnil))) (List.Sublist.refl _))
        · refine Rf.call0 C501 (t15 n r1.1 t303.1 s500 (C501.srB m2) (C501.srB m0)) ?_
          rintro r1216 _ s1217 rfl h1219
          have C1220 : Cx s0.next [] [] s0 s1217 [(s492.next, AObj.box 24 [(Value.int .i64 r491.1), (Value.int .i64 r491.2)]), (s30.next, AObj.box 38 [(Value.int .i64 t303.2.1), (Value.int .i64 t303.2.2.1)]), (s18.next, AObj.box 24 [(Value.int .i64 0), (Value.int .i64 0)]), (s2.next, AObj.box 24 [(Value.int .i64 r1.2.1), (Value.int .i64 r1.2.2)])] [(On.mk (rP (rI .i64) (rI .i64)) t303.1 A297 c298 38), (On.mk (rL (rI .i64)) r17.1 A19 c20 39), (On.mk (rP (rI .i64) (rI .i64)) r1.1 A3 c4 38)] [] := h1219 [] (by simp) List.Pairwise.nil
          refine (Rf.asB ?_)
          exact J1221h (!r1216) _ (C1220.sub (List.Sublist.cons _ (List.Sublist.cons _ (List.Sublist.cons_cons _ (List.Sublist.cons_cons _ List.Sublist.slnil)))) (List.Sublist.cons _ (List.Sublist.cons _ (List.Sublist.cons_cons _ List.Sublist.slnil))) (List.Sublist.refl _))
end Go.Proofs.YtmjignphadnadaaF
